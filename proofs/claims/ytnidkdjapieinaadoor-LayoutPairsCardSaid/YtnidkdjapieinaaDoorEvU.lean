/- The search of the orders of a region that makes a map out of entries. No program is walked here. -/
import Derived.Test.YtnidkdjapieinaaDoorEvR
noncomputable section
namespace Go.Proofs.YtnidkdjapieinaaDoor.Ev
open Go.RowKit
set_option linter.unusedSimpArgs false
set_option linter.unusedVariables false

/-! ### temporaries that an operation leaves alone -/
theorem St.put_get {st s : St} {dst : Option Nat} {v : AV} {M : Mem} (h : st.put dst v M = some s) {i : Nat} (hi : dst ≠ some i) : s.t.get i = st.t.get i := by
  obtain ⟨t, sz, m⟩ := st
  rw [St.put_eq] at h
  split at h
  · simp only [Option.some.injEq] at h; subst h; rfl
  · rename_i d
    split at h
    case h_2 => cases h
    simp only [Option.some.injEq] at h; subst h
    show (T.set (d + 1) t d v).get i = _
    rw [T.get_set _ _ _ _ _ (Nat.lt_succ_self d), if_neg (fun e => hi (by rw [e]))]
theorem putAll_get {st : St} {dst : Option Nat} {i : Nat} (hi : dst ≠ some i) : ∀ {l : List (AV × Mem)} {outs : List St}, putAll st dst l = some outs → ∀ s ∈ outs, s.t.get i = st.t.get i
  | [], outs, h, s, hs => by simp only [putAll, Option.some.injEq] at h; subst h; cases hs
  | (v, M) :: rs, outs, h, s, hs => by
    simp only [putAll] at h
    split at h
    · cases h
    split at h
    · cases h
    rename_i s' hs'
    split at h
    · cases h
    rename_i l hl
    simp only [Option.some.injEq] at h; subst h
    rcases List.mem_cons.1 hs with rfl | hs
    · exact St.put_get hs' hi
    · exact putAll_get hi hl s hs
theorem finish_get {cf : CF} {st : St} {dst : Option Nat} {i : Nat} (hi : dst ≠ some i) : ∀ {l : List (AN × Mem)} {outs : List St}, finish cf st dst l = some outs → ∀ s ∈ outs, s.t.get i = st.t.get i
  | [], outs, h, s, hs => by simp only [finish, Option.some.injEq] at h; subst h; cases hs
  | (.val v, M) :: rs, outs, h, s, hs => by
    simp only [finish] at h
    split at h
    · cases h
    rename_i l hl
    split at h
    · cases h
    rename_i l' hl'
    simp only [Option.some.injEq] at h; subst h
    rcases List.mem_append.1 hs with hs | hs
    · exact putAll_get hi hl s hs
    · exact finish_get hi hl' s hs
  | (.skip, M) :: rs, outs, h, s, hs => by
    simp only [finish] at h
    split at h
    · cases h
    rename_i l hl
    split at h
    · cases h
    rename_i l' hl'
    simp only [Option.some.injEq] at h; subst h
    rcases List.mem_append.1 hs with hs | hs
    · exact putAll_get hi hl s hs
    · exact finish_get hi hl' s hs
  | (.call f args, M) :: rs, outs, h, s, hs => by
    simp only [finish] at h
    split at h
    · cases h
    split at h
    · cases h
    rename_i l hl
    split at h
    · cases h
    rename_i l' hl'
    simp only [Option.some.injEq] at h; subst h
    rcases List.mem_append.1 hs with hs | hs
    · exact putAll_get hi hl s hs
    · exact finish_get hi hl' s hs
theorem putAny_get {a : Act} {dst : Option Nat} {x : Value} {i : Nat} (hi : dst ≠ some i) : (a.put dst x).tmps[i]? = a.tmps[i]? := by
  cases dst with
  | none => rfl
  | some d =>
    simp only [Act.put]
    rw [Array.getElem?_setIfInBounds_ne (fun e => hi (by rw [e]))]

section
variable {P : Program} {Φ : Facts}
variable {ν : Nat → Value} [FactsOk P ν Φ] {B Z : Zone} {w0 w : World} {E : Env} {M : Mem}
variable {a : Act}
theorem stepOp_get {cf : CF} {ops : List Oper} {st : St} {k : Nat} {o : Oper} {outs : List St} (hs : stepOp P Φ cf ops st k o = some outs) {i : Nat} (hi : o.dst ≠ some i) : ∀ s ∈ outs, s.t.get i = st.t.get i := by
  rw [stepOp_eq] at hs
  split at hs
  · cases hs
  · split at hs
    case h_2 => cases hs
    rename_i s hp
    simp only [Option.some.injEq] at hs; subst hs
    intro s' hs'
    rw [List.mem_singleton.1 hs']
    exact St.put_get hp hi
  · split at hs
    · split at hs
      case h_2 => cases hs
      rename_i s hp
      simp only [Option.some.injEq] at hs; subst hs
      intro s' hs'
      rw [List.mem_singleton.1 hs']
      exact St.put_get hp hi
    · split at hs
      · cases hs
      · exact finish_get hi hs
theorem atake_get {ops : List Oper} {H : Held} {st s : St} {i : Nat} {o : Oper} (hs : atake P Φ ops H st i o = some s) {j : Nat} (hj : o.dst ≠ some j) : s.t.get j = st.t.get j := by
  rw [atake_eq] at hs
  split at hs
  · exact St.put_get hs hj
  · split at hs
    · exact St.put_get hs hj
    · split at hs
      · exact St.put_get hs hj
      · cases hs
  · cases hs

/-! ### what holds in the search -/
/-- The map holds just the entries that have been inserted. -/
def Ents (L : Lit) (ν : Nat → Value) (E : Env) (t : T AV) (am : Nat) (ms : List MapEntry) : Prop :=
  (∀ m ∈ ms, ∃ e ∈ L.es, am.testBit e.i = true ∧ V ν E e.k m.key ∧ ∀ v, t.get e.t = some v → V ν E v m.val) ∧
  ∀ e ∈ L.es, am.testBit e.i = true → ∃ m ∈ ms, V ν E e.k m.key ∧ ∀ v, t.get e.t = some v → V ν E v m.val
def Tie (L : Lit) (ν : Nat → Value) (B Z : Zone) (E : Env) (t : T AV) (am : Nat) (a : Act) : Prop :=
  (am.testBit L.c = false ∧ Z = B ∧ ∀ e ∈ L.es, am.testBit e.i = false) ∨
  (am.testBit L.c = true ∧ ∃ p ms ck, B.z p = none ∧ B.n ≤ p ∧ Z = B.with p (.map ms ck) ∧ a.tmps[L.tm]? = some (.map (some p)) ∧ MapKept.Stamped ms ck ∧ Ents L ν E t am ms.toList)
structure InvL (L : Lit) (ν : Nat → Value) (B Z : Zone) (w0 : World) (n base : Nat) (E0 : Env) (nd : Node) (am : Nat) (E : Env) (a : Act) (w : World) : Prop where
  sr : SR ν Z w0 E nd.st a w
  tie : Tie L ν B Z E nd.st.t am a
  ts : L.tm < a.tmps.size
  room : base + n ≤ nd.st.m.n
  free : ∀ i, i < n → am.testBit i = false ∨ i = L.c → E (base + i) = none
  bits : ∀ i, am.testBit i = true → i < n
  sh : ∀ i, L.K.testBit i = false → am.testBit i = nd.mask.testBit i
  shK : ∀ i, L.K.testBit i = true → nd.mask.testBit i = true
  s2 : ∀ i, L.S.testBit i = true → am.testBit i = false
  wr : ∀ e ∈ L.es, am.testBit e.i = true → nd.mask.testBit e.wr = true
  tm : nd.st.t.get L.tm = none
  late : E0.le E
  old : ∀ b, b < base → E b = E0 b

theorem bit_or (m k i : Nat) : (m ||| 2 ^ k).testBit i = (m.testBit i || decide (k = i)) := by rw [Nat.testBit_or, Nat.testBit_two_pow]
theorem Lit.Ok.S_K {L : Lit} {ops : Array Oper} (hL : L.Ok P ops) {i : Nat} (h : L.S.testBit i = true) : L.K.testBit i = true := by rw [hL.kk, h]; rfl
theorem Lit.Ok.g_K {L : Lit} {ops : Array Oper} (hL : L.Ok P ops) {i : Nat} (h : i ∈ L.gl) : L.K.testBit i = true := by rw [hL.kk]; simp [h]
theorem Lit.c_gl (L : Lit) : L.c ∈ L.gl := by simp [Lit.gl]
theorem Lit.e_gl (L : Lit) {e : Ent} (h : e ∈ L.es) : e.i ∈ L.gl := by simp only [Lit.gl, List.mem_cons, List.mem_map]; exact .inr ⟨e, h, rfl⟩
theorem Lit.Ok.c_ne {L : Lit} {ops : Array Oper} (hL : L.Ok P ops) {e : Ent} (h : e ∈ L.es) : e.i ≠ L.c := by
  intro q
  have := (List.nodup_cons.1 hL.nd).1
  exact this (List.mem_map.2 ⟨e, h, q⟩)

theorem Lit.Ok.same {L : Lit} {ops : Array Oper} (hL : L.Ok P ops) {e e' : Ent} (h : e ∈ L.es) (h' : e' ∈ L.es) (q : e'.i = e.i) : e' = e := by
  have key : ∀ (l : List Ent), (l.map (·.i)).Nodup → e ∈ l → e' ∈ l → e' = e := by
    intro l
    induction l with
    | nil => intro _ h _; cases h
    | cons x xs ih =>
      intro hn h1 h2
      obtain ⟨n1, n2⟩ := List.nodup_cons.1 hn
      rcases List.mem_cons.1 h1 with q1 | q1
      · rcases List.mem_cons.1 h2 with q2 | q2
        · rw [q1, q2]
        · exact absurd (List.mem_map.2 ⟨e', q2, by rw [q, q1]⟩) n1
      · rcases List.mem_cons.1 h2 with q2 | q2
        · exact absurd (List.mem_map.2 ⟨e, q1, by rw [← q, q2]⟩) n1
        · exact ih n2 q1 q2
  exact key L.es (List.nodup_cons.1 hL.nd).2 h h'

/-- One more operation of the first part. -/
theorem InvL.step {L : Lit} {ops : Array Oper} (hL : L.Ok P ops) {base : Nat} {E0 : Env} {r r' mask am k : Nat} {st s : St} {o : Oper} (h : InvL L ν B Z w0 ops.size base E0 ⟨r, mask, st⟩ am E a w)
    (hk : ops[k]? = some o) (hb : mask.testBit k = false) {E' : Env} {a' : Act} {w' : World} (hE : E.le E') (hext : ∀ b, b < st.m.n → b ≠ base + k → E' b = E b) (hn : st.m.n ≤ s.m.n)
    (hget : ∀ i, o.dst ≠ some i → s.t.get i = st.t.get i) (ha : ∃ x, a' = a.put o.dst x) (hSR : SR ν Z w0 E' s a' w') : InvL L ν B Z w0 ops.size base E0 ⟨r', mask ||| 2 ^ k, s⟩ (am ||| 2 ^ k) E' a' w' := by
  have hklt : k < ops.size := (Array.getElem?_eq_some_iff.1 hk).1
  have hK : L.K.testBit k = false := by
    cases e : L.K.testBit k with
    | false => rfl
    | true => have := h.shK k e; simp only at this; rw [hb] at this; cases this
  have hg : ∀ i ∈ L.gl, i ≠ k := fun i hi e => by subst e; rw [hL.g_K hi] at hK; cases hK
  have hbit : ∀ i ∈ L.gl, (am ||| 2 ^ k).testBit i = am.testBit i := fun i hi => by
    have : ¬ k = i := fun e => hg i hi e.symm
    rw [bit_or]; simp [this]
  have hdt : ∀ e ∈ L.es, am.testBit e.i = true → o.dst ≠ some e.t := fun e he hi hd => by
    have h1 := (hL.wr e he).1 k o hk hd
    have h2 := h.wr e he hi
    simp only at h2
    rw [← h1, hb] at h2; cases h2
  have hdm : o.dst ≠ some L.tm := fun hd => by
    have := hL.tm k o hk hd
    exact hg _ L.c_gl this.symm
  obtain ⟨x, rfl⟩ := ha
  have hroom := h.room
  simp only at hroom
  refine ⟨hSR, ?_, ?_, by show base + ops.size ≤ s.m.n; omega, fun i hi hbi => ?_, fun i hi => ?_, fun i hi => ?_, fun i hi => ?_, fun i hi => ?_, fun e he hi => ?_, ?_, Env.le_trans h.late hE, fun b hb' => ?_⟩
  · rcases h.tie with ⟨h1, h2, h3⟩ | ⟨h1, p, ms, ck, h2, h3, h4, h5, hst, h6, h7⟩
    · exact .inl ⟨by rw [hbit _ L.c_gl]; exact h1, h2, fun e he => by rw [hbit _ (L.e_gl he)]; exact h3 e he⟩
    · refine .inr ⟨by rw [hbit _ L.c_gl]; exact h1, p, ms, ck, h2, h3, h4, ?_, hst, fun m hm => ?_, fun e he hi => ?_⟩
      · rw [putAny_get hdm]; exact h5
      · obtain ⟨e, k1, k2, k3, k4⟩ := h6 m hm
        exact ⟨e, k1, by rw [hbit _ (L.e_gl k1)]; exact k2, V.mono hE _ _ k3, fun v hv => V.mono hE _ _ (k4 v (by simp only at hv; rw [hget _ (hdt e k1 k2)] at hv; exact hv))⟩
      · rw [hbit _ (L.e_gl he)] at hi
        obtain ⟨m, k1, k3, k4⟩ := h7 e he hi
        exact ⟨m, k1, V.mono hE _ _ k3, fun v hv => V.mono hE _ _ (k4 v (by simp only at hv; rw [hget _ (hdt e he hi)] at hv; exact hv))⟩
  · have := h.ts
    cases hd : o.dst with
    | none => exact this
    | some d => simp only [Act.put, Array.size_setIfInBounds]; exact this
  · rw [bit_or, Bool.or_eq_false_iff] at hbi
    have hik : i ≠ k := by
      rcases hbi with ⟨_, hbi⟩ | hbi
      · intro e; simp [e] at hbi
      · rw [hbi]; exact hg _ L.c_gl
    rw [hext (base + i) (by omega) (by omega)]
    exact h.free i hi (hbi.imp (fun q => q.1) id)
  · rw [bit_or, Bool.or_eq_true, decide_eq_true_eq] at hi
    rcases hi with hi | hi
    · exact h.bits i hi
    · omega
  · show (am ||| 2 ^ k).testBit i = (mask ||| 2 ^ k).testBit i
    rw [bit_or, bit_or, h.sh i hi]
  · show (mask ||| 2 ^ k).testBit i = true
    rw [bit_or, h.shK i hi]; rfl
  · rw [bit_or, h.s2 i hi]
    have : k ≠ i := fun e => by subst e; rw [hL.S_K hi] at hK; cases hK
    simp [this]
  · rw [hbit _ (L.e_gl he)] at hi
    show (mask ||| 2 ^ k).testBit e.wr = true
    rw [bit_or, h.wr e he hi]; rfl
  · show s.t.get L.tm = none
    rw [hget _ hdm]; exact h.tm
  · rw [hext b (by omega) (by omega)]
    exact h.old b hb'

/-- Nothing is held. -/
def TT : Nat → World → Prop := fun _ _ => True

/-- What may be done in the search may be done. -/
theorem InvL.ready {L : Lit} {ops : Array Oper} (hL : L.Ok P ops) {base : Nat} {E0 : Env} {nd : Node} {am k : Nat} {o : Oper} (h : InvL L ν B Z w0 ops.size base E0 nd am E a w)
    (hk : ops[k]? = some o) (hb : nd.mask.testBit k = false) : L.K.testBit k = false ∧ am.testBit k = false ∧ (edgesIn nd.mask o.after.toList = true ↔ edgesIn am o.after.toList = true) := by
  have hK : L.K.testBit k = false := by
    cases e : L.K.testBit k with
    | false => rfl
    | true => have := h.shK k e; rw [hb] at this; cases this
  refine ⟨hK, by rw [h.sh k hK]; exact hb, ?_⟩
  have hop := hL.op k o hk
  unfold chkOp at hop
  rw [tb_eq, hK] at hop
  have hn := noneIn_ok hop
  rw [edgesIn_iff, edgesIn_iff]
  constructor
  · intro hh e he hbi
    rw [h.sh _ (hn e he hbi)]; exact hh e he hbi
  · intro hh e he hbi
    rw [← h.sh _ (hn e he hbi)]; exact hh e he hbi

theorem take_oneL {L : Lit} {ops : Array Oper} (hL : L.Ok P ops) {base : Nat} {E0 : Env}
    (hfree : freeAll ops = true) (hsel : Region.noSelect ops = true) {Q : Exit → Act → World → Prop} (hQp : ∀ c a w, ¬ Q (.panic c) a w) {r mask am k g : Nat} {st s : St} {o : Oper}
    (h : InvL L ν B Z w0 ops.size base E0 ⟨r + 1, mask, st⟩ am E a w) (hk : ops[k]? = some o) (hb : mask.testBit k = false) (he : edgesIn mask o.after.toList = true) (hs : atake P Φ ops.toList [] st k o = some s)
    (next : ∀ a', InvL L ν B Z w0 ops.size base E0 ⟨r, mask ||| 2 ^ k, s⟩ (am ||| 2 ^ k) E a' w → wpAnyK P ops Q TT (r + g) (lst ops.size (am ||| 2 ^ k)) a' w) : wpAnyK P ops Q TT (r + 1 + g) (lst ops.size am) a w := by
  have hklt : k < ops.size := (Array.getElem?_eq_some_iff.1 hk).1
  obtain ⟨hK, hab, hed⟩ := h.ready hL hk hb
  have he' := hed.1 he
  have hready : k ∈ Region.ready .any ops (lst ops.size am) := (ready_iff h.bits).2 ⟨hklt, hab, o, hk, he'⟩
  have fin : ∀ (v : AV) (x : Value), V ν E v x → st.put o.dst v st.m = some s → YieldsIf P ops (TT k) o x a → wpAnyK P ops Q TT (r + 1 + g) (lst ops.size am) a w := by
    intro v x hv hp hy
    rw [show r + 1 + g = r + g + 1 from by omega]
    refine wpAnyK_first hk (Region.noSelect_spec hsel) (fun c a w hc => absurd hc (hQp c _ w)) (r + g) (lst ops.size am) a w (fun j oj hj hne hunl hno => ?_) hready hy trivial ?_
    · refine freeAll_ok hfree hk hj hne (edge_of hj hno) (edge_of hk fun e hee hbi heq => ?_)
      have h1 := edgesIn_iff.1 he' e (by simpa using hee) hbi
      rw [heq] at h1
      have hjlt := (Array.getElem?_eq_some_iff.1 hj).1
      rw [lst_getD true hjlt] at hunl
      rw [h1] at hunl; cases hunl
    · rw [lst_set]
      have hm := St.put_m hp
      refine next _ (h.step hL hk hb (Env.le_refl E) (fun _ _ _ => rfl) (by rw [hm]; exact Nat.le_refl _) (fun i hi => St.put_get hp hi) ⟨x, rfl⟩ ?_)
      exact h.sr.put (Env.le_refl E) hv h.sr.mr h.sr.kn hp
  have hs0 := hs
  rw [atake_eq] at hs
  split at hs
  · rename_i hw
    exact fin (.tup []) undef V.undef hs (.inr ⟨awanted_ok h.sr.tm hw, rfl⟩)
  · rename_i hw
    split at hs
    · rename_i v hv
      obtain ⟨x, h1, h2⟩ := apure_ok h.sr.tm hv
      exact fin v x h2 hs (.inl ⟨awanted_ok h.sr.tm hw, fun w' _ => h1 w'⟩)
    · rw [heldLoad_eq] at hs
      exfalso
      split at hs
      · rename_i v hv
        split at hv
        · simp [heldLoadAt, heldAt] at hv
        · cases hv
      · cases hs
  · cases hs

theorem takes_okL {L : Lit} {ops : Array Oper} (hL : L.Ok P ops) {base : Nat} {E0 : Env}
    (hfree : freeAll ops = true) (hsel : Region.noSelect ops = true) {Q : Exit → Act → World → Prop} (hQp : ∀ c a w, ¬ Q (.panic c) a w) {g : Nat} :
    ∀ (os : List Oper) (i r mask am : Nat) (st : St) (a : Act), ops.toList.drop i = os → InvL L ν B Z w0 ops.size base E0 ⟨r, mask, st⟩ am E a w →
      (∀ am' a', InvL L ν B Z w0 ops.size base E0 (takes P Φ ops.toList [] os i r mask st) am' E a' w → (∀ j ∈ L.gl, am'.testBit j = am.testBit j) → wpAnyK P ops Q TT ((takes P Φ ops.toList [] os i r mask st).r + g) (lst ops.size am') a' w) →
      wpAnyK P ops Q TT (r + g) (lst ops.size am) a w
  | [], i, r, mask, am, st, a, hd, hInv, hQ => hQ am a hInv (fun _ _ => rfl)
  | o :: os, i, r, mask, am, st, a, hd, hInv, hQ => by
    have hi : ops.toList[i]? = some o := by
      have := List.getElem?_drop (xs := ops.toList) (i := i) (j := 0)
      rw [hd] at this
      simpa using this.symm
    have hi' : ops[i]? = some o := by rw [← Array.getElem?_toList]; exact hi
    have hd' : ops.toList.drop (i + 1) = os := by rw [← List.drop_drop, hd]; rfl
    rw [takes_cons] at hQ
    split at hQ
    · exact takes_okL hL hfree hsel hQp os (i + 1) r mask am st a hd' hInv hQ
    · rename_i hb
      rw [tb_eq] at hb
      split at hQ
      · exact takes_okL hL hfree hsel hQp os (i + 1) r mask am st a hd' hInv hQ
      · rename_i he
        split at hQ
        · exact hQ am a hInv (fun _ _ => rfl)
        · rename_i r
          split at hQ
          · rename_i s hs
            refine take_oneL hL hfree hsel hQp hInv hi' hb he hs fun a' hInv' => takes_okL hL hfree hsel hQp os (i + 1) r (mask ||| 2 ^ i) (am ||| 2 ^ i) s a' hd' hInv' fun am' a2 h2 h3 => hQ am' a2 h2 fun j hj => ?_
            rw [h3 j hj, bit_or]
            have := (hInv.ready hL hi' hb).1
            have hne : i ≠ j := fun e => by subst e; rw [hL.g_K hj] at this; cases this
            simp [hne]
          · exact takes_okL hL hfree hsel hQp os (i + 1) (r + 1) mask am st a hd' hInv hQ

/-! ### the map and its entries -/
/-- The map is made. -/
theorem InvL.make {L : Lit} {ops : Array Oper} (hL : L.Ok P ops) {base : Nat} {E0 : Env} {nd : Node} {am : Nat} {o : Oper} (h : InvL L ν B Z w0 ops.size base E0 nd am E a w) (ho : ops[L.c]? = some o) (hb : am.testBit L.c = false)
    {Q : Exit → Act → World → Prop} {K : Act → World → Prop} (next : ∀ Z' a' w', InvL L ν B Z' w0 ops.size base E0 nd (am ||| 2 ^ L.c) E a' w' → K a' w') : wpOp P ops Q L.c K a w := by
  have hK := hL.g_K L.c_gl
  have hop := hL.op _ o ho
  unfold chkOp at hop
  rw [tb_eq, hK, tb_eq, hL.sg _ L.c_gl] at hop
  simp only [Nat.beq_refl] at hop
  unfold chkMake at hop
  split at hop
  case h_2 => cases hop
  rename_i ty hopo hgd
  rw [Bool.and_eq_true] at hop
  obtain ⟨hd, _⟩ := hop
  have hd : o.dst = some L.tm := by
    unfold isDst at hd
    split at hd
    · rename_i d hdd; rw [hdd, Nat.eq_of_beq_eq_true hd]
    · cases hd
  rcases h.tie with ⟨h1, h2, h3⟩ | ⟨h1, _⟩
  case inr => rw [hb] at h1; cases h1
  subst h2
  unfold wpOp
  simp only [ho]
  have hw : Region.wanted o (yielded ops a.tmps) = true := by unfold Region.wanted; rw [hgd]
  rw [hw]
  simp only [if_true]
  refine .inl ?_
  unfold Oper.wp
  have hrun : (execOp a.eval o).run P w = .ok (.value (.map (some w.heap.size))) (w.alloc (.map #[] 0)) := by
    obtain ⟨dst, op, type, pos, after, guard⟩ := o
    simp only at hopo
    subst hopo
    simp only [execOp]
    exact run_value (by simp [Instr.makeMap])
  rw [hrun, Oper.upon_value, hd]
  obtain ⟨hz, hM⟩ := h.sr.mr.guardNew (.map #[] 0)
  have hbig := h.sr.mr.big
  obtain ⟨r, mask, st⟩ := nd
  obtain ⟨t, sz, m⟩ := st
  have htm := h.tm
  simp only at htm
  have hts := h.ts
  have bl : ∀ i, i ≠ L.c → (am ||| 2 ^ L.c).testBit i = am.testBit i := fun i hi => by
    rw [bit_or]
    have : ¬ L.c = i := fun e => hi e.symm
    simp [this]
  have hcn : L.c < ops.size := hL.gl _ L.c_gl
  refine next (Z.with w.heap.size (.map #[] 0)) _ _ ⟨⟨fun i v hv => ?_, by simp [Act.put]; exact h.sr.sz, h.sr.df, hM, h.sr.kn⟩, ?_, by simp [Act.put]; exact hts, h.room, fun i hi hbi => ?_, fun i hi => ?_, fun i hi => ?_, h.shK, fun i hi => ?_, fun e he hi => ?_, h.tm, h.late, h.old⟩
  · have hne : L.tm ≠ i := fun e => by subst e; simp only at hv; rw [htm] at hv; cases hv
    obtain ⟨x, h4, h5⟩ := h.sr.tm i v hv
    refine ⟨x, ?_, h5⟩
    rw [putAny_get (by simpa using hne)]; exact h4
  · refine .inr ⟨by rw [bit_or]; simp, w.heap.size, #[], 0, hz, hbig, rfl, ?_, by simp [MapKept.Stamped], fun m hm => by simp at hm, fun e he hi => ?_⟩
    · simp only [Act.put]
      exact Array.getElem?_setIfInBounds_self_of_lt hts
    · rw [bl _ (hL.c_ne he), h3 e he] at hi; cases hi
  · refine h.free i hi ?_
    rcases hbi with hbi | hbi
    · rw [bit_or, Bool.or_eq_false_iff] at hbi; exact .inl hbi.1
    · exact .inr hbi
  · rw [bit_or, Bool.or_eq_true, decide_eq_true_eq] at hi
    rcases hi with hi | hi
    · exact h.bits i hi
    · omega
  · rw [bl i (fun e => by subst e; rw [hK] at hi; cases hi)]; exact h.sh i hi
  · rw [bl i (fun e => by subst e; rw [hL.sg _ L.c_gl] at hi; cases hi)]; exact h.s2 i hi
  · rw [bl _ (hL.c_ne he)] at hi; exact h.wr e he hi

theorem sameNow_irrefl {d : TypeDesc} {t : TypeId} (hd : keyDesc P t = some d) {x : Value} : Instr.sameNow d x x ≠ some false := by
  unfold keyDesc at hd
  split at hd <;> simp at hd <;> subst hd <;> cases x <;> simp [Instr.sameNow]
  rw [beq_toListBytes]
  simp
theorem stamped_push {ms : Array MapEntry} {ck : Nat} (h : MapKept.Stamped ms ck) (y : Value) {kv : Value} (hn : ∀ m ∈ ms.toList, m.key ≠ kv) : MapKept.Stamped (ms.push { key := kv, val := y, born := ck }) (ck + 1) := by
  obtain ⟨h1, h2, h3⟩ := h
  refine ⟨fun x hx => ?_, ?_, ?_⟩
  · rw [Array.toList_push, List.mem_append] at hx
    rcases hx with hx | hx
    · have := h1 x hx; omega
    · rw [List.mem_singleton] at hx; subst hx; simp
  · rw [Array.toList_push, List.map_append, List.nodup_append]
    refine ⟨h2, by simp, fun a ha b hb => ?_⟩
    obtain ⟨x, hx, rfl⟩ := List.mem_map.1 ha
    simp at hb; subst hb
    have := h1 x hx; omega
  · rw [Array.toList_push, List.map_append, List.nodup_append]
    refine ⟨h3, by simp, fun a ha b hb => ?_⟩
    obtain ⟨x, hx, rfl⟩ := List.mem_map.1 ha
    simp at hb; subst hb
    exact hn x hx
/-- An entry is put in. -/
theorem InvL.put {L : Lit} {ops : Array Oper} (hL : L.Ok P ops) {base : Nat} {E0 : Env} {nd : Node} {am : Nat} {o : Oper} {e : Ent} (h : InvL L ν B Z w0 ops.size base E0 nd am E a w) (hee : e ∈ L.es) (ho : ops[e.i]? = some o) (hb : am.testBit e.i = false)
    (hrd : edgesIn am o.after.toList = true)
    {Q : Exit → Act → World → Prop} {K : Act → World → Prop} (next : ∀ Z' a' w', InvL L ν B Z' w0 ops.size base E0 nd (am ||| 2 ^ e.i) E a' w' → K a' w') : wpOp P ops Q e.i K a w := by
  have hG := L.e_gl hee
  have hK := hL.g_K hG
  have hc := hL.c_ne hee
  have hop := hL.op _ o ho
  unfold chkOp at hop
  rw [tb_eq, hK, tb_eq, hL.sg _ hG] at hop
  simp only at hop
  rw [show Nat.beq e.i L.c = false from by cases q : Nat.beq e.i L.c with | false => rfl | true => exact absurd (Nat.eq_of_beq_eq_true q) hc] at hop
  simp only at hop
  split at hop
  case h_2 => cases hop
  rename_i e' hfe
  obtain ⟨he1, he2⟩ := findEnt_ok hfe
  have hee' : e' = e := hL.same hee he1 he2
  rw [hee'] at hop
  unfold chkEnt at hop
  split at hop
  case h_2 => cases hop
  rename_i ty m k x hopo hgd hdst
  simp only [Bool.and_eq_true] at hop
  obtain ⟨⟨⟨⟨⟨⟨⟨k1, k2⟩, k3⟩, k4⟩, k5⟩, k6⟩, k7⟩, _⟩ := hop
  have k1 := isTm_ok k1
  obtain ⟨kv, k2, hkv⟩ := isKey_ok k2
  have k3 := isTm_ok k3
  obtain ⟨f1, g1, g2, g3⟩ := waits_iff.1 k4
  have hwr : am.testBit e.wr = true := by rw [← g3]; exact edgesIn_iff.1 hrd f1 g1 g2
  obtain ⟨f2, g4, g5, g6⟩ := waits_iff.1 k5
  have hcm : am.testBit L.c = true := by rw [← g6]; exact edgesIn_iff.1 hrd f2 g4 g5
  have hwrK := (hL.wr e hee).2
  have hwm : nd.mask.testBit e.wr = true := by rw [← h.sh _ hwrK]; exact hwr
  obtain ⟨y, hevx, hyV⟩ : ∃ y, a.eval (.tmp e.t) = y ∧ ∀ v, nd.st.t.get e.t = some v → V ν E v y := ⟨_, rfl, fun v hv => by
    obtain ⟨x, hx, hxV⟩ := h.sr.tm _ _ hv
    simp only [Act.eval, Array.getD_eq_getD_getElem?, hx, Option.getD_some]
    exact hxV⟩
  rcases h.tie with ⟨h1, _⟩ | ⟨h1, p, ms, ck, t1, t2, t3, t4, tst, t5, t6⟩
  · rw [hcm] at h1; cases h1
  subst t3
  have hp := h.sr.mr.kept p (.map ms ck) (by simp [Zone.with])
  unfold keyType at k7
  split at k7
  case h_2 => cases k7
  rename_i kt et hu
  split at k7
  case h_2 => cases k7
  rename_i d hd
  have hkV : V ν E e.k kv := V.ofValue _ _ hkv
  have hfa : ∀ m' ∈ ms.toList, Instr.sameNow d kv m'.key = some false := fun m' hm' => by
    obtain ⟨e2, q1, q2, q3, _⟩ := t5 m' hm'
    exact keyEq_ok hd hkV q3 (hL.ap e hee e2 q1 (fun q => by rw [q] at hb; rw [hb] at q2; cases q2)) k7
  have hfo : Instr.findNow d kv ms.toList 0 = some none := findNow_none hfa
  have hnk : ∀ m' ∈ ms.toList, m'.key ≠ kv := fun m' hm' q => sameNow_irrefl hd (q ▸ hfa m' hm')
  unfold wpOp
  simp only [ho]
  have hw : Region.wanted o (yielded ops a.tmps) = true := by unfold Region.wanted; rw [hgd]
  rw [hw]
  simp only [if_true]
  refine .inl ?_
  unfold Oper.wp
  have hev : a.eval (.tmp L.tm) = .map (some p) := by simp [Act.eval, t4]
  have hrun : (execOp a.eval o).run P w = .ok .skip { w with heap := w.heap.setIfInBounds p (.map (ms.push { key := kv, val := y, born := ck }) (ck + 1)) } := by
    obtain ⟨dst, op, type, pos, after, guard⟩ := o
    simp only at hopo
    subst hopo k1 k2 k3
    simp only [execOp, hev, hevx]
    have hek : a.eval (.const kv) = kv := rfl
    simp [hek, Instr.mapUpdate, run_underlying hu, run_getMap hp, run_checkKey hd, run_findKey hd hfo, run_setMap hp]
  rw [hrun, Oper.upon_skip, hdst]
  have hM := h.sr.mr.guardTurn t2 (.map (ms.push { key := kv, val := y, born := ck }) (ck + 1))
  have bl : ∀ i, i ≠ e.i → (am ||| 2 ^ e.i).testBit i = am.testBit i := fun i hi => by
    rw [bit_or]
    have : ¬ e.i = i := fun q => hi q.symm
    simp [this]
  have hcn := hL.gl _ hG
  refine next (B.with p (.map (ms.push { key := kv, val := y, born := ck }) (ck + 1))) _ _ ⟨⟨h.sr.tm, h.sr.sz, h.sr.df, hM, h.sr.kn⟩, ?_, h.ts, h.room, fun i hi hbi => ?_, fun i hi => ?_, fun i hi => ?_, h.shK, fun i hi => ?_, fun e2 he2 hi => ?_, h.tm, h.late, h.old⟩
  · refine .inr ⟨by rw [bl _ (fun q => hc q.symm)]; exact h1, p, _, _, t1, t2, rfl, t4, stamped_push tst y hnk, fun m' hm' => ?_, fun e2 he2 hi => ?_⟩
    · rw [Array.toList_push, List.mem_append] at hm'
      rcases hm' with hm' | hm'
      · obtain ⟨e2, q1, q2, q3⟩ := t5 m' hm'
        exact ⟨e2, q1, by rw [bit_or, q2]; rfl, q3⟩
      · rw [List.mem_singleton] at hm'
        subst hm'
        exact ⟨e, hee, by rw [bit_or]; simp, hkV, hyV⟩
    · by_cases q : e2.i = e.i
      · have hq : e2 = e := hL.same hee he2 q
        subst hq
        exact ⟨{ key := kv, val := y, born := ck }, by rw [Array.toList_push]; simp, hkV, hyV⟩
      · rw [bl _ q] at hi
        obtain ⟨m', q1, q2⟩ := t6 e2 he2 hi
        exact ⟨m', by rw [Array.toList_push]; simp [q1], q2⟩
  · refine h.free i hi ?_
    rcases hbi with hbi | hbi
    · rw [bit_or, Bool.or_eq_false_iff] at hbi; exact .inl hbi.1
    · exact .inr hbi
  · rw [bit_or, Bool.or_eq_true, decide_eq_true_eq] at hi
    rcases hi with hi | hi
    · exact h.bits i hi
    · omega
  · rw [bl i (fun q => by subst q; rw [hK] at hi; cases hi)]; exact h.sh i hi
  · rw [bl i (fun q => by subst q; rw [hL.sg _ hG] at hi; cases hi)]; exact h.s2 i hi
  · by_cases q : e2.i = e.i
    · rw [hL.same hee he2 q]; exact hwm
    · rw [bl _ q] at hi; exact h.wr e2 he2 hi
end
end Go.Proofs.YtnidkdjapieinaaDoor.Ev
