/- Regions of the little machine, those that make a map out of entries among them. No program is walked here. -/
import Derived.Test.YtnidkdjapieinaaDoorEvU
noncomputable section
namespace Go.Proofs.YtnidkdjapieinaaDoor.Ev
open Go.RowKit
set_option linter.unusedSimpArgs false
set_option linter.unusedVariables false

section
variable {P : Program} {Φ : Facts}
variable {ν : Nat → Value} [FactsOk P ν Φ] {B Z : Zone} {w0 w : World} {E : Env} {M : Mem}
variable {a : Act}

def left (L : Lit) (am : Nat) : Nat := (L.gl.filter fun i => !am.testBit i).length
theorem filter_set {am j : Nat} (hj : am.testBit j = false) : ∀ {l : List Nat}, l.Nodup → j ∈ l → (l.filter fun i => !am.testBit i).length = (l.filter fun i => !(am ||| 2 ^ j).testBit i).length + 1
  | [], _, h => by cases h
  | x :: xs, hn, h => by
    obtain ⟨n1, n2⟩ := List.nodup_cons.1 hn
    have other : ∀ i, i ≠ j → (am ||| 2 ^ j).testBit i = am.testBit i := fun i hi => by
      have : ¬ j = i := fun e => hi e.symm
      rw [bit_or]; simp [this]
    by_cases e : x = j
    · subst e
      have h1 : (am ||| 2 ^ x).testBit x = true := by rw [bit_or]; simp
      have h2 : (xs.filter fun i => !(am ||| 2 ^ x).testBit i) = xs.filter fun i => !am.testBit i := by
        refine List.filter_congr fun i hi => ?_
        rw [other i (fun e => n1 (by rw [← e]; exact hi))]
      rw [List.filter_cons, List.filter_cons, h1, hj, h2]
      simp
    · have ih := filter_set hj n2 (by rcases List.mem_cons.1 h with q | q; exact absurd q.symm e; exact q)
      simp only [List.filter_cons, other x e]
      cases am.testBit x with
      | true => simpa using ih
      | false => simpa using ih
theorem left_set {L : Lit} {ops : Array Oper} (hL : L.Ok P ops) {am j : Nat} (hj : am.testBit j = false) (hg : j ∈ L.gl) : left L am = left L (am ||| 2 ^ j) + 1 := filter_set hj hL.nd hg
theorem left_zero {L : Lit} {am : Nat} (h : left L am = 0) : ∀ i ∈ L.gl, am.testBit i = true := by
  intro i hi
  have := List.length_eq_zero_iff.1 h
  rw [List.filter_eq_nil_iff] at this
  simpa using this i hi
theorem left_pos {L : Lit} {am g : Nat} (h : left L am = g + 1) : ∃ i ∈ L.gl, am.testBit i = false := by
  have : 0 < (L.gl.filter fun i => !am.testBit i).length := by unfold left at h; omega
  obtain ⟨x, hx⟩ := List.exists_mem_of_length_pos this
  rw [List.mem_filter] at hx
  exact ⟨x, hx.1, by simpa using hx.2⟩

/-- What may come next. -/
theorem InvL.cases {L : Lit} {ops : Array Oper} (hL : L.Ok P ops) {base : Nat} {E0 : Env} {nd : Node} {am j : Nat} (h : InvL L ν B Z w0 ops.size base E0 nd am E a w) (hj : j ∈ Region.ready .any ops (lst ops.size am))
    (hno : (∃ i ∈ L.gl, am.testBit i = false) ∨ ∃ i, i < ops.size ∧ nd.mask.testBit i = false) : ∃ o, ops[j]? = some o ∧ am.testBit j = false ∧ edgesIn am o.after.toList = true ∧ (j ∈ L.gl ∨ (nd.mask.testBit j = false ∧ edgesIn nd.mask o.after.toList = true)) := by
  obtain ⟨hjlt, hb, o, hjo, he⟩ := (ready_iff h.bits).1 hj
  refine ⟨o, hjo, hb, he, ?_⟩
  by_cases hg : j ∈ L.gl
  · exact .inl hg
  right
  cases hK : L.K.testBit j with
  | false =>
    have hm : nd.mask.testBit j = false := by rw [← h.sh j hK]; exact hb
    exact ⟨hm, (h.ready hL hjo hm).2.2.2 he⟩
  | true =>
    exfalso
    have hS : L.S.testBit j = true := by
      rw [hL.kk] at hK
      simpa [hg] using hK
    have hop := hL.op j o hjo
    unfold chkOp at hop
    rw [tb_eq, hK, tb_eq, hS] at hop
    simp only at hop
    unfold chkLater at hop
    rw [Bool.or_eq_true] at hop
    rcases hop with hop | hop
    · obtain ⟨e, h1, h2, h3⟩ := touches_ok hop
      have := edgesIn_iff.1 he e h1 h2
      rw [h.s2 _ h3] at this; cases this
    · have hop : edgeMask o.after.toList &&& L.m1 = L.m1 := Nat.eq_of_beq_eq_true hop
      have all : ∀ i, L.m1.testBit i = true → am.testBit i = true := fun i hi => by
        have : (edgeMask o.after.toList &&& L.m1).testBit i = true := by rw [hop]; exact hi
        rw [Nat.testBit_and, Bool.and_eq_true] at this
        obtain ⟨e, h1, h2, h3⟩ := edgeMask_ok this.1
        rw [← h3]; exact edgesIn_iff.1 he e h1 h2
      rcases hno with ⟨i, hi, hf⟩ | ⟨i, hi, hf⟩
      · have := all i (by rw [hL.m1, hL.sg i hi]; simpa using hL.gl i hi)
        rw [hf] at this; cases this
      · have hKi : L.K.testBit i = false := by
          cases e : L.K.testBit i with
          | false => rfl
          | true => have := h.shK i e; rw [hf] at this; cases this
        have hSi : L.S.testBit i = false := by
          cases e : L.S.testBit i with
          | false => rfl
          | true => rw [hL.S_K e] at hKi; cases hKi
        have := all i (by rw [hL.m1, hSi]; simpa using hi)
        rw [h.sh i hKi, hf] at this; cases this

/-- The map, or one of its entries. -/
theorem InvL.go {L : Lit} {ops : Array Oper} (hL : L.Ok P ops) {base : Nat} {E0 : Env} {nd : Node} {am j : Nat} {o : Oper} (h : InvL L ν B Z w0 ops.size base E0 nd am E a w) (hg : j ∈ L.gl) (ho : ops[j]? = some o) (hb : am.testBit j = false)
    (he : edgesIn am o.after.toList = true) {Q : Exit → Act → World → Prop} {K : Act → World → Prop} (next : ∀ Z' a' w', InvL L ν B Z' w0 ops.size base E0 nd (am ||| 2 ^ j) E a' w' → K a' w') : wpOp P ops Q j K a w := by
  simp only [Lit.gl, List.mem_cons, List.mem_map] at hg
  rcases hg with rfl | ⟨e, h1, rfl⟩
  · exact h.make hL ho hb next
  · exact h.put hL h1 ho hb he next

theorem levels_okL {cf : CF} (hcf : CFok P cf ν) {ops : Array Oper} {L : Lit} (hL : L.Ok P ops) {base : Nat} {E0 : Env}
    (hfree : freeAll ops = true) (hsel : Region.noSelect ops = true) {Q : Exit → Act → World → Prop} (hQp : ∀ c a w, ¬ Q (.panic c) a w) {full : Nat} (hfull : ∀ i, i < ops.size → full.testBit i = true) :
    ∀ (f : Nat) (F outs : List Node), levels P Φ cf ops.toList [] base f F = some outs → (∀ nd ∈ outs, nd.mask = full) →
      (∀ nd' ∈ outs, ∀ am' Z' E' a' w', InvL L ν B Z' w0 ops.size base E0 nd' am' E' a' w' → left L am' = 0 → wpAnyK P ops Q TT L.r2 (lst ops.size am') a' w') →
      ∀ nd ∈ F, ∀ (g am : Nat) (Z : Zone) (E : Env) (a : Act) (w : World), left L am = g → InvL L ν B Z w0 ops.size base E0 nd am E a w → wpAnyK P ops Q TT (nd.r + (g + L.r2)) (lst ops.size am) a w
  | 0, F, outs, h, hall, hQ, nd, hnd, g, am, Z, E, a, w, hg, hInv => by simp only [levels] at h; cases h
  | f + 1, F, outs, h, hall, hQ, nd, hnd, g, am, Z, E, a, w, hg, hInv => by
    simp only [levels] at h
    split at h
    · rename_i hdone
      simp only [Option.some.injEq] at h; subst h
      have hr := allDone_ok hdone nd hnd
      rw [hr, Nat.zero_add]
      induction g generalizing am Z a w with
      | zero => rw [Nat.zero_add]; exact hQ nd hnd am Z E a w hInv hg
      | succ g ih =>
        obtain ⟨i0, hi0, hf0⟩ := left_pos hg
        rw [show g + 1 + L.r2 = (g + L.r2) + 1 from by omega]
        refine ⟨fun hnil => ?_, fun j hj => ?_⟩
        · exfalso
          have hm : ∀ i, L.K.testBit i = false → i < ops.size → am.testBit i = true := fun i hi hlt => by
            rw [hInv.sh i hi, hall nd hnd]; exact hfull i hlt
          have hlt : ∀ i, L.m1.testBit i = true → i < ops.size := fun i hi => by
            rw [hL.m1] at hi; simp at hi; exact hi.1
          by_cases hc : am.testBit L.c = false
          · have hcl := hL.gl _ L.c_gl
            have hop := hL.op L.c ops[L.c] (Array.getElem?_eq_getElem hcl)
            unfold chkOp at hop
            rw [tb_eq, hL.g_K L.c_gl, tb_eq, hL.sg _ L.c_gl] at hop
            simp only [Nat.beq_refl] at hop
            unfold chkMake at hop
            split at hop
            case h_2 => cases hop
            rw [Bool.and_eq_true, Bool.and_eq_true] at hop
            obtain ⟨_, hn, hm1⟩ := hop
            have : L.c ∈ Region.ready .any ops (lst ops.size am) := (ready_iff hInv.bits).2 ⟨hcl, hc, ops[L.c], Array.getElem?_eq_getElem hcl, edgesIn_iff.2 fun e he hb => hm _ (noneIn_ok hn e he hb) (hlt _ (edgesIn_iff.1 hm1 e he hb))⟩
            rw [hnil] at this; cases this
          · have hc : am.testBit L.c = true := by simpa using hc
            have hel := hL.gl _ hi0
            have hne : i0 ≠ L.c := fun q => by rw [q, hc] at hf0; cases hf0
            have hop := hL.op i0 ops[i0] (Array.getElem?_eq_getElem hel)
            unfold chkOp at hop
            rw [tb_eq, hL.g_K hi0, tb_eq, hL.sg _ hi0] at hop
            simp only at hop
            rw [show Nat.beq i0 L.c = false from by cases q : Nat.beq i0 L.c with | false => rfl | true => exact absurd (Nat.eq_of_beq_eq_true q) hne] at hop
            simp only at hop
            split at hop
            case h_2 => cases hop
            unfold chkEnt at hop
            split at hop
            case h_2 => cases hop
            simp only [Bool.and_eq_true] at hop
            obtain ⟨⟨⟨_, k6⟩, _⟩, hm1⟩ := hop
            have : i0 ∈ Region.ready .any ops (lst ops.size am) := (ready_iff hInv.bits).2 ⟨hel, hf0, ops[i0], Array.getElem?_eq_getElem hel, edgesIn_iff.2 fun e he hb => ?_⟩
            · rw [hnil] at this; cases this
            · rcases onlyIn_ok k6 e he hb with q | q
              · exact hm _ q (hlt _ (edgesIn_iff.1 hm1 e he hb))
              · rw [q]; exact hc
        · obtain ⟨o, h1, h2, h3, h4⟩ := hInv.cases hL hj (.inl ⟨i0, hi0, hf0⟩)
          rcases h4 with h4 | ⟨h4, _⟩
          · refine hInv.go hL h4 h1 h2 h3 fun Z' a' w' hInv' => ⟨fun _ _ _ => trivial, ?_⟩
            rw [lst_set]
            exact ih _ _ _ _ (by have := left_set hL h2 h4; omega) hInv'
          · rw [hall nd hnd] at h4
            have := hfull j ((Array.getElem?_eq_some_iff.1 h1).1)
            rw [h4] at this; cases this
    split at h
    · cases h
    rename_i F' hF'
    obtain ⟨o', ho', hsub⟩ := runAll_mem hF' nd hnd
    have next : ∀ nd' ∈ F', ∀ (g am : Nat) (Z : Zone) (E : Env) (a : Act) (w : World), left L am = g → InvL L ν B Z w0 ops.size base E0 nd' am E a w → wpAnyK P ops Q TT (nd'.r + (g + L.r2)) (lst ops.size am) a w := by
      intro nd' hnd' g' am' Z' E' a' w' hg' hInv'
      split at h
      · rename_i n
        exact levels_okL hcf hL hfree hsel hQp hfull f _ outs h hall hQ nd' hnd' g' am' Z' E' a' w' hg' hInv'
      · exact levels_okL hcf hL hfree hsel hQp hfull f _ outs h hall hQ nd' (dedupe_ok hnd') g' am' Z' E' a' w' hg' hInv'
    obtain ⟨r, mask, st⟩ := nd
    cases r with
    | zero =>
      simp only [expand, Option.some.injEq] at ho'; subst ho'
      exact next ⟨0, mask, st⟩ (hsub _ (by simp)) g am Z E a w hg hInv
    | succ r =>
      simp only [expand] at ho'
      refine takes_okL (Φ := Φ) hL hfree hsel hQp ops.toList 0 (r + 1) mask am st a rfl hInv fun am1 a1 hInv1 hsame => ?_
      have hg1 : left L am1 = g := by
        rw [← hg]
        unfold left
        rw [List.filter_congr fun i hi => by rw [hsame i hi]]
      clear hInv hsame hg
      generalize takes P Φ ops.toList [] ops.toList 0 (r + 1) mask st = nd at ho' hInv1 ⊢
      obtain ⟨r1, mask1, st1⟩ := nd
      cases r1 with
      | zero =>
        simp only [Option.some.injEq] at ho'; subst ho'
        exact next ⟨0, mask1, st1⟩ (hsub _ (by simp)) g am1 Z E a1 w hg1 hInv1
      | succ r1 =>
        simp only at ho'
        split at ho'
        case h_2 => cases ho'
        rename_i n ns hbr
        simp only [Option.some.injEq] at ho'; subst ho'
        have hne : ∃ k o, ops.toList[k]? = some o ∧ mask1.testBit k = false ∧ edgesIn mask1 o.after.toList = true := by
          have key : ∀ (os : List Oper) (i : Nat) (l : List Node), ops.toList.drop i = os → branch P Φ cf ops.toList [] base r1 mask1 st1 os i = some l → l ≠ [] → ∃ k o, ops.toList[k]? = some o ∧ mask1.testBit k = false ∧ edgesIn mask1 o.after.toList = true := by
            intro os
            induction os with
            | nil => intro i l _ hb hne; simp only [branch, Option.some.injEq] at hb; exact absurd hb.symm hne
            | cons q qs ih =>
              intro i l hd hb hne
              have hi : ops.toList[i]? = some q := by
                have := List.getElem?_drop (xs := ops.toList) (i := i) (j := 0)
                rw [hd] at this
                simpa using this.symm
              have hd' : ops.toList.drop (i + 1) = qs := by rw [← List.drop_drop, hd]; rfl
              simp only [branch] at hb
              split at hb
              · exact ih _ _ hd' hb hne
              · rename_i h1
                split at hb
                · exact ih _ _ hd' hb hne
                · rename_i h2
                  exact ⟨i, q, hi, by rw [← tb_eq]; exact h1, h2⟩
          exact key _ 0 _ rfl hbr (by simp)
        obtain ⟨k, ok, e1, e2, e3⟩ := hne
        have hk : ops[k]? = some ok := by rw [← Array.getElem?_toList]; exact e1
        have hklt := (Array.getElem?_eq_some_iff.1 hk).1
        have s1 : ∀ (g am1 : Nat) (Z : Zone) (a1 : Act) (w : World), left L am1 = g → InvL L ν B Z w0 ops.size base E0 ⟨r1 + 1, mask1, st1⟩ am1 E a1 w → ∀ (j : Nat) (o : Oper), ops[j]? = some o → mask1.testBit j = false → edgesIn mask1 o.after.toList = true →
            wpOp P ops Q j (fun a' w' => (∀ i, edge ops j i = false → TT i w → TT i w') ∧ wpAnyK P ops Q TT (r1 + (g + L.r2)) ((lst ops.size am1).setIfInBounds j true) a' w') a1 w := by
          intro g am1 Z a1 w hg1 hInv1 j o hjo hb he
          obtain ⟨ss, hss, _, hmem⟩ := branch_ok rfl hbr j o (Nat.zero_le _) (by rw [Array.getElem?_toList]; exact hjo) hb he
          obtain ⟨hKj, hab, _⟩ := hInv1.ready hL hjo hb
          have hjlt := (Array.getElem?_eq_some_iff.1 hjo).1
          refine stepOp_ok hcf hInv1.sr (hInv1.free j hjlt (.inl hab)) hjo hss fun s hs E' a' w' hn hE hext hSR ha => ⟨fun _ _ _ => trivial, ?_⟩
          rw [lst_set]
          refine next ⟨r1, mask1 ||| 2 ^ j, s⟩ (hsub _ (hmem s hs)) g _ Z E' a' w' ?_ (hInv1.step hL hjo hb hE hext hn (fun i hi => stepOp_get hss hi s hs) ha hSR)
          rw [← hg1]
          unfold left
          rw [List.filter_congr fun i hi => ?_]
          have : ¬ j = i := fun e => by subst e; rw [hL.g_K hi] at hKj; cases hKj
          rw [bit_or]; simp [this]
        induction g generalizing am1 Z a1 w with
        | zero =>
          rw [show r1 + 1 + (0 + L.r2) = (r1 + (0 + L.r2)) + 1 from by omega]
          obtain ⟨_, q1, q2⟩ := hInv1.ready hL hk e2
          refine ⟨fun hnil => ?_, fun j hj => ?_⟩
          · exfalso
            have : k ∈ Region.ready .any ops (lst ops.size am1) := (ready_iff hInv1.bits).2 ⟨hklt, q1, ok, hk, q2.1 e3⟩
            rw [hnil] at this; cases this
          · obtain ⟨o, h1, h2, h3, h4⟩ := hInv1.cases hL hj (.inr ⟨k, hklt, e2⟩)
            rcases h4 with h4 | ⟨h4, h5⟩
            · have := left_zero hg1 j h4
              rw [h2] at this; cases this
            · exact s1 0 am1 Z a1 w hg1 hInv1 j o h1 h4 h5
        | succ g ih =>
          rw [show r1 + 1 + (g + 1 + L.r2) = (r1 + (g + 1 + L.r2)) + 1 from by omega]
          obtain ⟨_, q1, q2⟩ := hInv1.ready hL hk e2
          refine ⟨fun hnil => ?_, fun j hj => ?_⟩
          · exfalso
            have : k ∈ Region.ready .any ops (lst ops.size am1) := (ready_iff hInv1.bits).2 ⟨hklt, q1, ok, hk, q2.1 e3⟩
            rw [hnil] at this; cases this
          · obtain ⟨o, h1, h2, h3, h4⟩ := hInv1.cases hL hj (.inr ⟨k, hklt, e2⟩)
            rcases h4 with h4 | ⟨h4, h5⟩
            · refine hInv1.go hL h4 h1 h2 h3 fun Z' a' w' hInv' => ⟨fun _ _ _ => trivial, ?_⟩
              rw [lst_set, show r1 + (g + 1 + L.r2) = r1 + 1 + (g + L.r2) from by omega]
              exact ih _ _ _ _ (by have := left_set hL h2 h4; omega) hInv'
            · exact s1 (g + 1) am1 Z a1 w hg1 hInv1 j o h1 h4 h5

/-! ### the whole -/
theorem wpAnyK_all {ops : Array Oper} {Q : Exit → Act → World → Prop} {K K' : Nat → World → Prop} (hK : ∀ i w, K' i w) : ∀ (fuel : Nat) (listed : Array Bool) (a : Act) (w : World), wpAnyK P ops Q K fuel listed a w → wpAnyK P ops Q K' fuel listed a w
  | 0, _, _, _, h => h
  | fuel + 1, _, _, _, h => ⟨h.1, fun i hi => wpOp_mono (fun a' w' h' => ⟨fun i _ _ => hK i w', wpAnyK_all hK fuel _ a' w' h'.2⟩) (h.2 i hi)⟩
def entVals (t : T AV) : List Ent → Option (List (AV × AV))
  | [] => some []
  | e :: es => match getV t e.t with
    | some v => match entVals t es with
      | some l => some ((e.k, v) :: l)
      | none => none
    | none => none
def litEnd (L : Lit) (base : Nat) : St → Option St
  | ⟨t, s, m⟩ => match entVals t L.es with
    | none => none
    | some es => some ⟨setV (L.tm + 1) t L.tm (.map (Nat.add base L.c)), s, ((m.aside (Nat.add base L.c)).new (.umap es)).unset⟩
theorem entVals_ok {t : T AV} : ∀ {l : List Ent} {r : List (AV × AV)}, entVals t l = some r → (∀ e ∈ l, ∃ v, t.get e.t = some v ∧ (e.k, v) ∈ r) ∧ ∀ q ∈ r, ∃ e ∈ l, t.get e.t = some q.2 ∧ e.k = q.1
  | [], r, h => by simp only [entVals, Option.some.injEq] at h; subst h; simp
  | e :: es, r, h => by
    simp only [entVals, getV_eq] at h
    split at h
    case h_2 => cases h
    rename_i v hv
    split at h
    case h_2 => cases h
    rename_i l hl
    simp only [Option.some.injEq] at h; subst h
    obtain ⟨h1, h2⟩ := entVals_ok hl
    refine ⟨fun e' he' => ?_, fun q hq => ?_⟩
    · rcases List.mem_cons.1 he' with rfl | he'
      · exact ⟨v, hv, by simp⟩
      · obtain ⟨u, k1, k2⟩ := h1 e' he'; exact ⟨u, k1, by simp [k2]⟩
    · rcases List.mem_cons.1 hq with rfl | hq
      · exact ⟨e, by simp, hv, rfl⟩
      · obtain ⟨e', k1, k2, k3⟩ := h2 q hq; exact ⟨e', by simp [k1], k2, k3⟩
variable (P) (Φ) in
def litRest (cf : CF) (opl : List Oper) (n base : Nat) (L : Lit) (s : St) : Option (List St) := match litEnd L base s with
  | none => none
  | some s' => match levels P Φ cf opl [] base (n + 2) [⟨L.r2, L.m1, s'⟩] with
    | some F => states (2 ^ n - 1) F
    | none => none
variable (P) (Φ) in
def exploreL (cf : CF) (opl : List Oper) (n : Nat) (L : Lit) (st : St) : Option (List St) :=
  match getV st.t L.tm, Nat.blt L.tm st.s with
  | none, true => match levels P Φ cf opl [] st.m.n (n + 2) [⟨L.r1, L.K, reserve n st⟩] with
    | none => none
    | some F => match states (2 ^ n - 1) F with
      | none => none
      | some ss => runAll (litRest P Φ cf opl n st.m.n L) ss
  | _, _ => none

theorem Mem.new_aside {M : Mem} {k : Nat} (h : k < M.n) (o : AObj) : ((M.aside k).new o).unset.n = M.n := by
  obtain ⟨h', n, k'⟩ := M
  have : nextNo n k = n := by
    unfold nextNo
    rw [show Nat.blt k n = true from blt_iff.2 h]
  exact this
theorem litRest_ok {cf : CF} (hcf : CFok P cf ν) {ops : Array Oper} {L : Lit} (hL : L.Ok P ops) {base : Nat} {E0 : Env} (hfree : freeAll ops = true) (hsel : Region.noSelect ops = true) {Q : Exit → Act → World → Prop} (hQp : ∀ c a w, ¬ Q (.panic c) a w)
    {nd : Node} {am : Nat} (h : InvL L ν B Z w0 ops.size base E0 nd am E a w) (hfull : nd.mask = 2 ^ ops.size - 1) (hl : left L am = 0) {outs : List St} (hs : litRest P Φ cf ops.toList ops.size base L nd.st = some outs)
    (hQ : ∀ st' ∈ outs, ∀ E' a' w', Late base E0 st'.m.n E' → SR ν B w0 E' st' a' w' → Q .normal a' w') : wpAnyK P ops Q TT L.r2 (lst ops.size am) a w := by
  have ham : am = L.m1 := by
    refine Nat.eq_of_testBit_eq fun i => ?_
    rw [hL.m1]
    cases hS : L.S.testBit i with
    | true => rw [h.s2 i hS]; simp
    | false =>
      cases hK : L.K.testBit i with
      | true =>
        have hg : i ∈ L.gl := by rw [hL.kk, hS] at hK; simpa using hK
        rw [left_zero hl i hg]
        simpa using hL.gl i hg
      | false => rw [h.sh i hK, hfull, Nat.testBit_two_pow_sub_one]; simp
  rcases h.tie with ⟨h1, _⟩ | ⟨h1, p, ms, ck, t1, t2, t3, t4, tst, t5, t6⟩
  · rw [left_zero hl _ L.c_gl] at h1; cases h1
  subst t3
  unfold litRest at hs
  split at hs
  · cases hs
  rename_i s' hs'
  split at hs
  case h_2 => cases hs
  rename_i F hF
  have hall := states_ok hs
  obtain ⟨r, mask, ⟨t, sz, m⟩⟩ := nd
  simp only [litEnd] at hs'
  split at hs'
  · cases hs'
  rename_i es hes
  simp only [Option.some.injEq] at hs'; subst hs'
  obtain ⟨v1, v2⟩ := entVals_ok hes
  have hroom := h.room
  simp only at hroom
  have hcl := hL.gl _ L.c_gl
  have hkc : Nat.add base L.c = base + L.c := rfl
  have hEc : E (base + L.c) = none := h.free L.c hcl (.inr rfl)
  have hM := (h.sr.mr.aside hEc).unguard t2 t1 (es := es) ⟨fun q hq => by
      obtain ⟨e, k1, k2, k3, k4⟩ := t5 q hq
      obtain ⟨v, k5, k6⟩ := v1 e k1
      exact ⟨(e.k, v), k6, k3, k4 v k5⟩, fun q hq => by
      obtain ⟨e, k1, k2, k3⟩ := v2 q hq
      obtain ⟨q', k4, k5, k6⟩ := t6 e k1 (left_zero hl _ (L.e_gl k1))
      exact ⟨q', k4, by rw [← k3]; exact k5, k6 _ k2⟩⟩ tst
  have hk1 : (m.aside (base + L.c)).k = base + L.c := by cases m; rfl
  rw [hk1] at hM
  have hle : E.le (E.put (base + L.c) (p, 0, 0)) := fun b q e => by
    unfold Env.put
    rw [if_neg (fun x => by subst x; rw [hEc] at e; cases e)]
    exact e
  have hn : ((m.aside (base + L.c)).new (.umap es)).unset.n = m.n := Mem.new_aside (by show base + L.c < m.n; omega) _
  have hsr : SR ν B w0 (E.put (base + L.c) (p, 0, 0)) ⟨setV (L.tm + 1) t L.tm (.map (Nat.add base L.c)), sz, ((m.aside (Nat.add base L.c)).new (.umap es)).unset⟩ a w := by
    refine ⟨fun i v hv => ?_, h.sr.sz, h.sr.df, hM.unset, rfl⟩
    simp only [setV_eq] at hv
    rw [T.get_set _ _ _ _ _ (Nat.lt_succ_self L.tm)] at hv
    split at hv
    · rename_i e
      simp only [Option.some.injEq] at hv; subst hv e
      exact ⟨_, t4, by simp only [V]; exact ⟨_, Env.put_self _ _ _, rfl⟩⟩
    · obtain ⟨x, k1, k2⟩ := h.sr.tm i v hv
      exact ⟨x, k1, V.mono hle _ _ k2⟩
  rw [ham]
  refine wpAnyK_all (K := KH [] E0 w) (fun _ _ => trivial) _ _ _ _ ?_
  refine levels_ok hcf (H := []) (fun q hq => (by cases hq)) hfree hsel hQp (full := 2 ^ ops.size - 1) (fun i hi => by rw [Nat.testBit_two_pow_sub_one]; simpa using hi) _ _ F hF (fun nd hnd => (hall nd hnd).1) _ (List.mem_singleton.2 rfl) _ a w ⟨hsr, ?_, fun i hi hbi => ?_, fun i hi => ?_, fun i _ q hq => (by cases hq), Env.le_trans h.late hle, fun b hb => ?_⟩ fun nd hnd E' a' w' hInv => ?_
  · show base + ops.size ≤ ((m.aside (base + L.c)).new (.umap es)).unset.n
    rw [hn]; exact hroom
  · simp only [hL.m1] at hbi
    have hSi : L.S.testBit i = true := by simpa [hi] using hbi
    have hne : i ≠ L.c := fun e => by subst e; rw [hL.sg _ L.c_gl] at hSi; cases hSi
    unfold Env.put
    rw [if_neg (by omega)]
    exact h.free i hi (.inl (h.s2 i hSi))
  · simp only [hL.m1] at hi
    simp at hi; exact hi.1
  · unfold Env.put
    rw [if_neg (by omega)]
    exact h.old b hb
  · exact hQ nd.st (hall nd hnd).2 E' a' w' ⟨by have := hInv.room; omega, hInv.late, fun b hb => hInv.old b hb⟩ hInv.sr

theorem exploreL_ok {cf : CF} (hcf : CFok P cf ν) (hmix : P.follows .mixedOrders = true) {ops : Array Oper} (hfree : freeAll ops = true) (hsel : Region.noSelect ops = true) {L : Lit} (hL : L.Ok P ops) {st : St} {outs : List St} (he : exploreL P Φ cf ops.toList ops.size L st = some outs)
    {id : Nat} {Q : Exit → Act → World → Prop} (h : SR ν B w0 E st a w) (hQ : ∀ st' ∈ outs, ∀ E' a' w', Late st.m.n E st'.m.n E' → SR ν B w0 E' st' a' w' → Q .normal a' w') : (Code.region id ops true).wp P Q a w := by
  unfold exploreL at he
  split at he
  case h_2 => cases he
  rename_i htm hts
  rw [getV_eq] at htm
  have hts := blt_iff.1 hts
  split at he
  · cases he
  rename_i F hF
  split at he
  · cases he
  rename_i ss hss
  have hall := states_ok hss
  let Q' : Exit → Act → World → Prop := fun e a w => e = .normal ∧ Q .normal a w
  have hQp : ∀ c a w, ¬ Q' (.panic c) a w := fun c a w hc => by obtain ⟨hc, _⟩ := hc; cases hc
  refine wp_mono (Q := Q') (wp_region_any hmix (wpAny_of_K (K := TT) _ _ _ _ ?_)) (fun e a w hq => by obtain ⟨rfl, hq⟩ := hq; exact hq)
  rw [← lst_zero]
  have hfull : ∀ i, i < ops.size → (2 ^ ops.size - 1).testBit i = true := fun i hi => by rw [Nat.testBit_two_pow_sub_one]; simpa using hi
  have hmr := h.mr.drew
  have hst : SR ν B w0 E (reserve ops.size st) a w.drew := by
    obtain ⟨t, s, ⟨hh, m, kk⟩⟩ := st
    refine ⟨h.tm, h.sz, h.df, hmr.congr (fun _ _ k => k) (Nat.le_add_right _ _) ?_, rfl⟩
    show E (m + ops.size) = none
    cases e : E (m + ops.size) with
    | none => rfl
    | some p => have := hmr.dom _ p e; simp only at this; omega
  have hres : (reserve ops.size st).m.n = st.m.n + ops.size := by obtain ⟨t, s, ⟨hh, m, kk⟩⟩ := st; rfl
  have hrt : (reserve ops.size st).t = st.t := by obtain ⟨t, s, ⟨hh, m, kk⟩⟩ := st; rfl
  have hcnt := hL.cnt
  have hg0 : left L 0 = L.gl.length := by
    unfold left
    rw [List.filter_eq_self.2 (by simp)]
  have key := levels_okL hcf hL hfree hsel hQp hfull _ _ F hF (fun nd hnd => (hall nd hnd).1) (B := B) (w0 := w0) (E0 := E) (fun nd hnd am Z' E' a' w' hInv hl => ?_) _ (List.mem_singleton.2 rfl) L.gl.length 0 B E a w.drew hg0 ⟨hst, ?_, ?_, ?_, fun i hi _ => ?_, fun i hi => ?_, fun i hi => ?_, fun i hi => hi, fun i hi => ?_, fun e he hi => ?_, ?_, Env.le_refl E, fun _ _ => rfl⟩
  · simp only at key
    rw [show L.r1 + (L.gl.length + L.r2) = ops.size from by omega] at key
    exact key
  · obtain ⟨o', ho', hsub⟩ := runAll_mem he nd.st (hall nd hnd).2
    exact litRest_ok hcf hL hfree hsel hQp hInv (hall nd hnd).1 hl ho' fun st' hst' E2 a2 w2 hlate hsr => ⟨rfl, hQ st' (hsub st' hst') E2 a2 w2 hlate hsr⟩
  · exact .inl ⟨by simp, rfl, fun e _ => by simp⟩
  · have := h.sz
    show L.tm < a.tmps.size
    rw [this]; exact hts
  · show _ ≤ (reserve ops.size st).m.n
    rw [hres]; exact Nat.le_refl _
  · cases e : E (st.m.n + i) with
    | none => rfl
    | some p => have := hmr.dom _ p e; omega
  · simp at hi
  · simp [hi]
  · simp
  · simp at hi
  · show (reserve ops.size st).t.get L.tm = none
    rw [hrt]; exact htm

/-! ### which regions these are -/
def findMake : List Oper → Nat → Option (Nat × Nat)
  | [], _ => none
  | o :: os, i => match o.op with
    | .makeMap _ none => match o.dst with
      | some d => some (i, d)
      | none => none
    | _ => findMake os (i + 1)
def entsOf (W : T (List Nat)) : List Oper → Nat → Option (List Ent)
  | [], _ => some []
  | o :: os, i => match o.op with
    | .insert _ _ (.const kv) (.tmp t) => match constV kv, W.get t, entsOf W os (i + 1) with
      | some k, some [wr], some l => some (⟨i, k, t, wr⟩ :: l)
      | _, _, _ => none
    | _ => entsOf W os (i + 1)
def laterS (gm : Nat) : List Oper → Nat → Nat → Nat
  | [], _, S => S
  | o :: os, i, S => match tb gm i with
    | true => laterS gm os (i + 1) S
    | false => match noneIn (Nat.lor S gm) o.after.toList with
      | true => laterS gm os (i + 1) S
      | false => laterS gm os (i + 1) (Nat.lor S (Nat.pow 2 i))
def countB (S : Nat) : Nat → Nat
  | 0 => 0
  | n + 1 => match tb S n with
    | true => Nat.succ (countB S n)
    | false => countB S n
def forceN {α : Type} (n : Nat) (f : Nat → α) : α := Nat.rec (f 0) (fun m _ => f (Nat.succ m)) n
theorem forceN_eq {α : Type} (n : Nat) (f : Nat → α) : forceN n f = f n := by cases n <;> rfl
variable (P) in
def litOf (ops : List Oper) (n : Nat) : Option Lit := match findMake ops 0 with
  | none => none
  | some (c, tm) => match entsOf (writers ops 0 .nil) ops 0 with
    | some (e1 :: e2 :: e3 :: es) => forceN (gmask (c :: (e1 :: e2 :: e3 :: es).map (·.i))) fun gm => forceN (laterS gm ops 0 0) fun S => forceN (countB S n) fun r2 => forceN (Nat.sub n (Nat.add (Nat.succ (List.length (e1 :: e2 :: e3 :: es))) r2)) fun r1 =>
      forceN (Nat.lor S gm) fun K => forceN (Nat.xor (Nat.sub (Nat.pow 2 n) 1) S) fun m1 => match Lit.chk P ⟨c, tm, e1 :: e2 :: e3 :: es, S, K, m1, r1, r2⟩ ops n with
        | true => some ⟨c, tm, e1 :: e2 :: e3 :: es, S, K, m1, r1, r2⟩
        | false => none
    | _ => none
theorem litOf_ok {ops : Array Oper} {L : Lit} (h : litOf P ops.toList ops.size = some L) : L.Ok P ops := by
  unfold litOf at h
  split at h
  · cases h
  split at h
  case h_2 => cases h
  simp only [forceN_eq] at h
  split at h
  case h_2 => cases h
  rename_i hc
  simp only [Option.some.injEq] at h
  rw [h] at hc
  exact Lit.chk_ok hc

variable (P) (Φ) in
def regionAny (cf : CF) (ops : Array Oper) (st : St) : Option (List St) :=
  match (match pre P Φ ops.toList ops.toList 0 0 st with
        | [] => none
        | H => match heldIn st.m H with
          | true => explore P Φ cf ops ops.toList ops.size H st
          | false => none) with
      | some l => some l
      | none => explore P Φ cf ops ops.toList ops.size [] st
variable (P) (Φ) in
def region (cf : CF) (ops : Array Oper) (draw : Bool) (st : St) : Option (List St) :=
  match draw with
  | false => runOps P Φ cf ops.toList ops.toList st
  | true => match freeAll ops && Region.noSelect ops with
    | false => none
    | true => match litOf P ops.toList ops.size with
      | some L => exploreL P Φ cf ops.toList ops.size L st
      | none => regionAny P Φ cf ops st
theorem region_ok {cf : CF} (hcf : CFok P cf ν) (hmix : P.follows .mixedOrders = true) {ops : Array Oper} {draw : Bool} {st : St} {outs : List St} (he : region P Φ cf ops draw st = some outs)
    {id : Nat} {Q : Exit → Act → World → Prop} (h : SR ν B w0 E st a w) (hQ : ∀ st' ∈ outs, ∀ E' a' w', Late st.m.n E st'.m.n E' → SR ν B w0 E' st' a' w' → Q .normal a' w') : (Code.region id ops draw).wp P Q a w := by
  unfold region at he
  split at he
  · refine wp_region ?_
    have := runOps_ok hcf ops.toList 0 st outs E a w rfl h he hQ
    rw [Array.length_toList, ← List.range_eq_range'] at this
    exact this
  · split at he
    · cases he
    rename_i hf
    rw [Bool.and_eq_true] at hf
    split at he
    · rename_i L hL
      exact exploreL_ok hcf hmix hf.1 hf.2 (litOf_ok hL) he h hQ
    unfold regionAny at he
    split at he
    · rename_i l hl
      simp only [Option.some.injEq] at he; subst he
      split at hl
      · cases hl
      · split at hl
        · rename_i hin
          exact explore_ok hcf hmix hf.1 hf.2 hin hl h hQ
        · cases hl
    · exact explore_ok hcf hmix hf.1 hf.2 rfl he h hQ
end
end Go.Proofs.YtnidkdjapieinaaDoor.Ev
