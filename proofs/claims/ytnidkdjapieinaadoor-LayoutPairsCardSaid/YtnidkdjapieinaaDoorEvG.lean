/- The little machine's maps and its ranges over maps and strings. No program is walked here. -/
import Derived.Test.YtnidkdjapieinaaDoorEvF
noncomputable section
namespace Go.Proofs.YtnidkdjapieinaaDoor.Ev
open Go.RowKit
set_option linter.unusedSimpArgs false
set_option linter.unusedVariables false

section
variable {P : Program}
variable {ν : Nat → Value} {B : Zone} {w0 w : World} {E : Env} {M : Mem}

def natsEq : List Nat → List Nat → Bool
  | [], [] => true
  | a :: as, b :: bs => match Nat.beq a b with
    | true => natsEq as bs
    | false => false
  | _, _ => false
theorem natsEq_iff : ∀ {a b : List Nat}, natsEq a b = true ↔ a = b
  | [], [] => by simp [natsEq]
  | [], b :: bs => by simp [natsEq]
  | a :: as, [] => by simp [natsEq]
  | a :: as, b :: bs => by
    simp only [natsEq]
    cases e : Nat.beq a b with
    | true =>
      have := Nat.eq_of_beq_eq_true e
      subst this
      simp [natsEq_iff (a := as) (b := bs)]
    | false =>
      have := Nat.ne_of_beq_eq_false e
      simp [this]
theorem natsEq_false {a b : List Nat} : natsEq a b = false ↔ a ≠ b := by
  rw [← Bool.not_eq_true, natsEq_iff]
theorem bytes_inj {a b : List Nat} (ha : ∀ c ∈ a, c < 256) (hb : ∀ c ∈ b, c < 256) (h : bytes a = bytes b) : a = b := by
  have h1 : a.map UInt8.ofNat = b.map UInt8.ofNat := by
    have := congrArg (fun s : ByteArray => s.data.toList) h
    simpa [bytes] using this
  have back : ∀ l : List Nat, (∀ c ∈ l, c < 256) → (l.map UInt8.ofNat).map UInt8.toNat = l := by
    intro l hl
    rw [List.map_map]
    conv => rhs; rw [← List.map_id l]
    refine List.map_congr_left fun c hc => ?_
    simp only [Function.comp]
    rw [u8_back (hl c hc)]
    rfl
  rw [← back a ha, ← back b hb, h1]

def intBeq (a b : Int) : Bool := match a, b with
  | .ofNat a, .ofNat b => Nat.beq a b
  | .negSucc a, .negSucc b => Nat.beq a b
  | _, _ => false
theorem intBeq_eq (a b : Int) : intBeq a b = (a == b) := by
  unfold intBeq
  cases a <;> cases b
  · rename_i a b
    rw [Bool.eq_iff_iff]
    simp only [Nat.beq_eq, beq_iff_eq, Int.ofNat.injEq, eq_self]
  · simp
  · simp
  · rename_i a b
    rw [Bool.eq_iff_iff]
    simp only [Nat.beq_eq, beq_iff_eq, Int.negSucc.injEq, eq_self]

/-- Are two keys the same? -/
def keyEq : AV → AV → Option Bool
  | .int k a, .int k' b => match decide (k = k') with
    | true => some (intBeq a b)
    | false => none
  | .str a, .str b => some (natsEq a b)
  | .bool a, .bool b => some (a == b)
  | _, _ => none
variable (P) in
def keyDesc (t : TypeId) : Option TypeDesc := match P.underlying t with
  | some (.int k) => some (.int k)
  | some .string => some .string
  | some .bool => some .bool
  | _ => none
def keyFits (d : TypeDesc) (a : AV) : Bool := match d with
  | .int _ => (match a with | .int _ _ => true | _ => false)
  | .string => (match a with | .str _ => true | _ => false)
  | .bool => (match a with | .bool _ => true | _ => false)
  | _ => false
theorem beq_bytes {a b : List Nat} (ha : ∀ c ∈ a, c < 256) (hb : ∀ c ∈ b, c < 256) : (bytes a == bytes b) = natsEq a b := by
  rw [beq_toListBytes, ByteArray.toList_eq, ByteArray.toList_eq, Bool.eq_iff_iff, natsEq_iff, beq_iff_eq]
  exact ⟨fun h => bytes_inj ha hb (by apply ByteArray.ext; apply Array.ext'; exact h), fun h => by rw [h]⟩
theorem keyEq_ok {d : TypeDesc} {t : TypeId} (hd : keyDesc P t = some d) {a b : AV} {x y : Value} (ha : V ν E a x) (hb : V ν E b y) {r : Bool} (hr : keyEq a b = some r)
    (hk : keyFits d a = true) : Instr.sameNow d x y = some r := by
  unfold keyEq at hr
  split at hr
  · rename_i k m k' n
    have := ha.int_inv; subst this
    have := hb.int_inv; subst this
    split at hr
    case h_2 => cases hr
    rename_i hkk
    have hkk := of_decide_eq_true hkk
    subst hkk
    simp only [Option.some.injEq] at hr; subst hr
    cases d <;> simp [keyFits] at hk
    simp [Instr.sameNow, intBeq_eq]
  · rename_i l m
    have h1 := ha.str_all
    have h2 := hb.str_all
    have := ha.str_inv; subst this
    have := hb.str_inv; subst this
    simp only [Option.some.injEq] at hr; subst hr
    cases d <;> simp [keyFits] at hk
    simp only [Instr.sameNow, Option.some.injEq]
    exact beq_bytes h1 h2
  · rename_i l m
    have := ha.bool_inv; subst this
    have := hb.bool_inv; subst this
    simp only [Option.some.injEq] at hr; subst hr
    cases d <;> simp [keyFits] at hk
    simp [Instr.sameNow]
  · cases hr
/-- Where a key stands. -/
def afind (k : AV) : List (AV × AV × Nat) → Nat → Option (Option (Nat × AV))
  | [], _ => some none
  | e :: es, i => match keyEq k e.1 with
    | some true => some (some (i, e.2.1))
    | some false => afind k es (i + 1)
    | none => none
theorem afind_ok {d : TypeDesc} {t : TypeId} (hd : keyDesc P t = some d) {k : AV} {x : Value} (hk : V ν E k x) (hf : keyFits d k = true) : ∀ {es : List (AV × AV × Nat)} {ms : List MapEntry} {i : Nat} {r : Option (Nat × AV)}, ME ν E es ms → afind k es i = some r →
    match r with
    | none => Instr.findNow d x ms i = some none
    | some (j, v) => ∃ y, Instr.findNow d x ms i = some (some (j, y)) ∧ V ν E v y ∧ i ≤ j ∧ ∃ e, es[j - i]? = some e ∧ keyEq k e.1 = some true ∧ e.2.1 = v
  | [], ms, i, r, h, hr => by
    simp only [ME] at h; subst h
    simp only [afind, Option.some.injEq] at hr; subst hr
    rfl
  | e :: es, ms, i, r, h, hr => by
    simp only [ME] at h
    obtain ⟨m, ms', rfl, h1, h2, h3, h4⟩ := h
    simp only [afind] at hr
    split at hr
    · rename_i hq
      simp only [Option.some.injEq] at hr; subst hr
      have := keyEq_ok hd hk h1 hq hf
      exact ⟨m.val, by simp [Instr.findNow, this], h2, Nat.le_refl _, e, by simp, hq, rfl⟩
    · rename_i hq
      have := keyEq_ok hd hk h1 hq hf
      have ih := afind_ok hd hk hf h4 hr
      cases r with
      | none => simp only at ih ⊢; simp [Instr.findNow, this, ih]
      | some jv =>
        obtain ⟨j, v⟩ := jv
        simp only at ih ⊢
        obtain ⟨y, k1, k2, k3, e', k4, k5, k6⟩ := ih
        exact ⟨y, by simp [Instr.findNow, this, k1], k2, by omega, e', by rw [show j - i = (j - (i + 1)) + 1 from by omega]; simpa using k4, k5, k6⟩
    · cases hr

/-- A key's value where the order is not known; no other key may be the same. -/
def ufind (k : AV) : List (AV × AV) → Option (Option AV)
  | [] => some none
  | e :: es => match keyEq k e.1, ufind k es with
    | some true, some none => some (some e.2)
    | some false, some r => some r
    | _, _ => none
theorem ufind_ok {k : AV} : ∀ {es : List (AV × AV)} {r : Option AV}, ufind k es = some r →
    match r with
    | none => ∀ e ∈ es, keyEq k e.1 = some false
    | some v => (∃ e ∈ es, keyEq k e.1 = some true) ∧ ∀ e ∈ es, keyEq k e.1 = some false ∨ (keyEq k e.1 = some true ∧ e.2 = v)
  | [], r, h => by simp only [ufind, Option.some.injEq] at h; subst h; simp
  | e :: es, r, h => by
    simp only [ufind] at h
    split at h
    · rename_i h1 h2
      have := ufind_ok h2
      simp only at this
      simp only [Option.some.injEq] at h; subst h
      refine ⟨⟨e, by simp, h1⟩, fun e' he' => ?_⟩
      rcases List.mem_cons.1 he' with rfl | he'
      · exact .inr ⟨h1, rfl⟩
      · exact .inl (this e' he')
    · rename_i h1 h2
      have := ufind_ok h2
      simp only [Option.some.injEq] at h; subst h
      split
      · simp only at this
        intro e' he'
        rcases List.mem_cons.1 he' with rfl | he'
        · exact h1
        · exact this e' he'
      · simp only at this
        obtain ⟨⟨e0, k1, k2⟩, k3⟩ := this
        refine ⟨⟨e0, by simp [k1], k2⟩, fun e' he' => ?_⟩
        rcases List.mem_cons.1 he' with rfl | he'
        · exact .inl h1
        · exact k3 e' he'
    · cases h
theorem findNow_none {d : TypeDesc} {x : Value} : ∀ {ms : List MapEntry} {i : Nat}, (∀ m ∈ ms, Instr.sameNow d x m.key = some false) → Instr.findNow d x ms i = some none
  | [], i, h => rfl
  | m :: ms, i, h => by
    have ih := findNow_none (d := d) (x := x) (ms := ms) (i := i + 1) fun m' h' => h m' (List.mem_cons_of_mem _ h')
    simp [Instr.findNow, h m (by simp), ih]
theorem findNow_some {d : TypeDesc} {x : Value} {R : Value → Prop} : ∀ {ms : List MapEntry} {i : Nat}, (∀ m ∈ ms, Instr.sameNow d x m.key = some false ∨ (Instr.sameNow d x m.key = some true ∧ R m.val)) → (∃ m ∈ ms, Instr.sameNow d x m.key = some true) → ∃ j y, Instr.findNow d x ms i = some (some (j, y)) ∧ R y
  | [], i, h, hs => by obtain ⟨m, hm, _⟩ := hs; cases hm
  | m :: ms, i, h, hs => by
    rcases h m (by simp) with h0 | ⟨h0, hR⟩
    · obtain ⟨m', hm', ht⟩ := hs
      rcases List.mem_cons.1 hm' with rfl | hm'
      · rw [h0] at ht; cases ht
      · obtain ⟨j, y, k1, k2⟩ := findNow_some (i := i + 1) (fun m'' h'' => h m'' (List.mem_cons_of_mem _ h'')) ⟨m', hm', ht⟩
        exact ⟨j, y, by simp [Instr.findNow, h0, k1], k2⟩
    · exact ⟨i, m.val, by simp [Instr.findNow, h0], hR⟩
theorem ufind_run {d : TypeDesc} {t : TypeId} (hd : keyDesc P t = some d) {k : AV} {x : Value} (hk : V ν E k x) (hf : keyFits d k = true) {es : List (AV × AV)} {ms : List MapEntry} {r : Option AV} (h : UM ν E es ms) (hr : ufind k es = some r) :
    match r with
    | none => Instr.findNow d x ms 0 = some none
    | some v => ∃ j y, Instr.findNow d x ms 0 = some (some (j, y)) ∧ V ν E v y := by
  have ho := ufind_ok hr
  cases r with
  | none =>
    simp only at ho ⊢
    refine findNow_none fun m hm => ?_
    obtain ⟨e, he, h1, h2⟩ := h.1 m hm
    exact keyEq_ok hd hk h1 (ho e he) hf
  | some v =>
    simp only at ho ⊢
    obtain ⟨⟨e0, k1, k2⟩, k3⟩ := ho
    refine findNow_some (R := fun y => V ν E v y) (fun m hm => ?_) ?_
    · obtain ⟨e, he, h1, h2⟩ := h.1 m hm
      rcases k3 e he with q | ⟨q1, q2⟩
      · exact .inl (keyEq_ok hd hk h1 q hf)
      · exact .inr ⟨keyEq_ok hd hk h1 q1 hf, by rw [← q2]; exact h2⟩
    · obtain ⟨m, hm, h1, h2⟩ := h.2 e0 k1
      exact ⟨m, hm, keyEq_ok hd hk h1 k2 hf⟩

theorem run_checkKey' {d : TypeDesc} {t : TypeId} (hd : keyDesc P t = some d) (b : Bool) (x : Value) (w : World) (n : Nat) : (Instr.checkKey b (n + 1) t x).run P w = .ok () w := by
  unfold keyDesc at hd
  split at hd
  · rename_i k hu; simp [Instr.checkKey, run_underlying hu]
  · rename_i hu; simp [Instr.checkKey, run_underlying hu]
  · rename_i hu; simp [Instr.checkKey, run_underlying hu]
  · cases hd
theorem run_checkKey {d : TypeDesc} {t : TypeId} (hd : keyDesc P t = some d) (b : Bool) (x : Value) (w : World) : (Instr.checkKey b 10000 t x).run P w = .ok () w := run_checkKey' hd b x w 9999
theorem keyDesc_under {d : TypeDesc} {t : TypeId} (hd : keyDesc P t = some d) : P.underlying t = some d := by
  unfold keyDesc at hd
  split at hd
  · rename_i k hu; simp only [Option.some.injEq] at hd; subst hd; exact hu
  · rename_i hu; simp only [Option.some.injEq] at hd; subst hd; exact hu
  · rename_i hu; simp only [Option.some.injEq] at hd; subst hd; exact hu
  · cases hd
theorem run_findKey {d : TypeDesc} {t : TypeId} (hd : keyDesc P t = some d) {x : Value} {ms : List MapEntry} {r : Option (Nat × Value)} (h : Instr.findNow d x ms 0 = some r) (w : World) : (Instr.findKey t x ms).run P w = .ok r w := by
  simp [Instr.findKey, run_underlying (keyDesc_under hd), h]

variable (P) in
def alookup (t : TypeId) (m k : AV) (ok : Bool) (M : Mem) : Option AV :=
  match P.underlying t with
  | some (.map kt et) => match keyDesc P kt, tzero P et with
    | some d, some z => match keyFits d k with
      | false => none
      | true => match m with
        | .nmap => some (match ok with | true => .tup [z, .bool false] | false => z)
        | .map b => match M.get b with
          | some (.map es _) => match afind k es 0 with
            | some none => some (match ok with | true => .tup [z, .bool false] | false => z)
            | some (some (_, v)) => some (match ok with | true => .tup [v, .bool true] | false => v)
            | none => none
          | some (.umap es) => match ufind k es with
            | some none => some (match ok with | true => .tup [z, .bool false] | false => z)
            | some (some v) => some (match ok with | true => .tup [v, .bool true] | false => v)
            | none => none
          | _ => none
        | _ => none
    | _, _ => none
  | _ => none
theorem V.tup2 {a b : AV} {x y : Value} (ha : V ν E a x) (hb : V ν E b y) : V ν E (.tup [a, b]) (.tuple #[x, y]) := by
  simp only [V]
  exact ⟨_, rfl, VL.cons_mk ha (VL.cons_mk hb (by simp only [VL]))⟩
theorem alookup_ok (h : MR ν B w0 E M w) {t : TypeId} {m k : AV} {x y : Value} (hm : V ν E m x) (hk : V ν E k y) {ok : Bool} {r : AV} (hr : alookup P t m k ok M = some r) : ∃ z, (Instr.lookup t x y ok).run P w = .ok z w ∧ V ν E r z := by
  unfold alookup at hr
  split at hr
  case h_2 => cases hr
  rename_i kt et hu
  split at hr
  case h_2 => cases hr
  rename_i d z hd hz
  split at hr
  · cases hr
  rename_i hf
  obtain ⟨zv, hzv, hzV⟩ := run_zero (ν := ν) hz w
  split at hr
  · have : x = .map none := by simpa only [V] using hm
    subst this
    simp only [Option.some.injEq] at hr; subst hr
    refine ⟨if ok then .tuple #[zv, .bool false] else zv, ?_, ?_⟩
    · simp only [Instr.lookup, Sem.run_bind, run_underlying hu, Result.andThen_ok, Sem.run_pure, run_checkKey hd]
      have h0 : Instr.findNow d y [] 0 = some none := rfl
      simp [run_findKey hd h0, hzv]
    · cases ok
      · exact hzV E
      · exact V.tup2 (hzV E) (by simp only [V])
  · rename_i b
    obtain ⟨p, hp, rfl⟩ := hm.map_inv
    split at hr
    · rename_i es clock hb
      obtain ⟨q, e2, r'⟩ := h.obj b _ hb
      rw [hp] at e2
      simp at e2; subst e2
      obtain ⟨ms, hms, hME⟩ := r'
      split at hr
      · rename_i hfi
        have hfo := afind_ok hd hk hf hME hfi
        simp only [Option.some.injEq] at hr; subst hr
        refine ⟨if ok then .tuple #[zv, .bool false] else zv, ?_, ?_⟩
        · simp only [Instr.lookup, Sem.run_bind, run_underlying hu, Result.andThen_ok, run_getMap hms, Sem.run_pure, run_checkKey hd]
          simp only at hfo
          simp [run_findKey hd hfo, hzv]
        · cases ok
          · exact hzV E
          · exact V.tup2 (hzV E) (by simp only [V])
      · rename_i j v hfi
        obtain ⟨u, h1, h2, _⟩ := afind_ok hd hk hf hME hfi
        simp only [Option.some.injEq] at hr; subst hr
        refine ⟨if ok then .tuple #[u, .bool true] else u, ?_, ?_⟩
        · simp only [Instr.lookup, Sem.run_bind, run_underlying hu, Result.andThen_ok, run_getMap hms, Sem.run_pure, run_checkKey hd]
          simp [run_findKey hd h1]
        · cases ok
          · exact h2
          · exact V.tup2 h2 (by simp only [V])
      · cases hr
    · rename_i es hb
      obtain ⟨q, e2, r'⟩ := h.obj b _ hb
      rw [hp] at e2
      simp at e2; subst e2
      obtain ⟨ms, clock, hms, hUM, _⟩ := r'
      split at hr
      · rename_i hfi
        have hfo := ufind_run hd hk hf hUM hfi
        simp only [Option.some.injEq] at hr; subst hr
        refine ⟨if ok then .tuple #[zv, .bool false] else zv, ?_, ?_⟩
        · simp only [Instr.lookup, Sem.run_bind, run_underlying hu, Result.andThen_ok, run_getMap hms, Sem.run_pure, run_checkKey hd]
          simp only at hfo
          simp [run_findKey hd hfo, hzv]
        · cases ok
          · exact hzV E
          · exact V.tup2 (hzV E) (by simp only [V])
      · rename_i v hfi
        obtain ⟨j, u, h1, h2⟩ := ufind_run hd hk hf hUM hfi
        simp only [Option.some.injEq] at hr; subst hr
        refine ⟨if ok then .tuple #[u, .bool true] else u, ?_, ?_⟩
        · simp only [Instr.lookup, Sem.run_bind, run_underlying hu, Result.andThen_ok, run_getMap hms, Sem.run_pure, run_checkKey hd]
          simp [run_findKey hd h1]
        · cases ok
          · exact h2
          · exact V.tup2 h2 (by simp only [V])
      · cases hr
    · cases hr
  · cases hr
variable (P) in
def amakeMap (t : TypeId) (r : Option AV) (M : Mem) : Option (AV × Mem) :=
  match r with
  | none => some (.map M.k, M.new (.map [] 0))
  | some (.int _ _) => match P.underlying t with
    | some (.map _ _) => some (.map M.k, M.new (.map [] 0))
    | _ => none
  | _ => none
theorem amakeMap_ok (h : MR ν B w0 E M w) {t : TypeId} {c : Option AV} {c' : Option Value} (hc : VO ν E c c') {r : AV × Mem} (hr : amakeMap P t c M = some r) : Good P ν B w0 E M w (Instr.makeMap t c') r := by
  have key : (∀ w, (Instr.makeMap t c').run P w = .ok (.map (some w.heap.size)) (w.alloc (.map #[] 0))) → Good P ν B w0 E M w (Instr.makeMap t c') (.map M.k, M.new (.map [] 0)) := fun hrun =>
    ⟨_, _, _, h.ext_put _, hrun w, by simp only [V]; exact ⟨_, Env.put_self _ _ _, rfl⟩, h.new (.map [] 0) (.map #[] 0) 0 ⟨#[], heap_alloc_new w _, by simp only [ME]⟩⟩
  unfold amakeMap at hr
  split at hr
  · simp only [VO] at hc; subst hc
    simp only [Option.some.injEq] at hr; subst hr
    exact key fun w => by simp [Instr.makeMap]
  · simp only [VO] at hc
    obtain ⟨y, rfl, hy⟩ := hc
    have := hy.int_inv; subst this
    split at hr
    case h_2 => cases hr
    rename_i k e hu
    simp only [Option.some.injEq] at hr; subst hr
    exact key fun w => by simp [Instr.makeMap, run_underlying hu, asInt, asIntOf]
  · cases hr

def setVal (v k : AV) : List (AV × AV × Nat) → Nat → List (AV × AV × Nat)
  | [], _ => []
  | e :: es, 0 => (k, v, e.2.2) :: es
  | e :: es, n + 1 => e :: setVal v k es n
theorem setVal_ok {v k : AV} {x y : Value} (hv : V ν E v x) (hk : V ν E k y) : ∀ {es : List (AV × AV × Nat)} {ms : List MapEntry} (n : Nat), ME ν E es ms → ME ν E (setVal v k es n) (ms.modify n fun e => { e with key := y, val := x })
  | [], ms, n, h => by simp only [ME] at h; subst h; cases n <;> simp [setVal, ME]
  | e :: es, ms, 0, h => by
    simp only [ME] at h
    obtain ⟨m, ms', rfl, h1, h2, h3, h4⟩ := h
    simp only [setVal, ME]
    exact ⟨{ m with key := y, val := x }, ms', by simp, hk, hv, h3, h4⟩
  | e :: es, ms, n + 1, h => by
    simp only [ME] at h
    obtain ⟨m, ms', rfl, h1, h2, h3, h4⟩ := h
    simp only [setVal, ME]
    exact ⟨m, _, by simp, h1, h2, h3, setVal_ok hv hk n h4⟩
theorem ME.push {es : List (AV × AV × Nat)} {ms : List MapEntry} {k v : AV} {m : MapEntry} (hk : V ν E k m.key) (hv : V ν E v m.val) (h : ME ν E es ms) : ME ν E (es ++ [(k, v, m.born)]) (ms ++ [m]) := by
  induction es generalizing ms with
  | nil => simp only [ME] at h; subst h; exact ⟨m, [], rfl, hk, hv, rfl, by simp only [ME]⟩
  | cons e es ih =>
    simp only [ME] at h
    obtain ⟨m', ms', rfl, h1, h2, h3, h4⟩ := h
    exact ⟨m', _, rfl, h1, h2, h3, ih h4⟩
theorem ME.get {es : List (AV × AV × Nat)} {ms : List MapEntry} (h : ME ν E es ms) {i : Nat} {e : AV × AV × Nat} (he : es[i]? = some e) : ∃ m, ms[i]? = some m ∧ V ν E e.1 m.key ∧ V ν E e.2.1 m.val ∧ m.born = e.2.2 := by
  induction es generalizing ms i with
  | nil => simp at he
  | cons u us ih =>
    simp only [ME] at h
    obtain ⟨m', ms', rfl, h1, h2, h3, h4⟩ := h
    cases i with
    | zero => simp at he; subst he; exact ⟨m', rfl, h1, h2, h3⟩
    | succ i => simp at he; simpa using ih h4 he

variable (P) in
def amapUpdate (t : TypeId) (m k v : AV) (M : Mem) : Option Mem :=
  match P.underlying t with
  | some (.map kt _) => match keyDesc P kt with
    | some d => match keyFits d k with
      | false => none
      | true => match m with
        | .map b => match M.get b with
          | some (.map es clock) => match afind k es 0 with
            | some none => some (M.put b (.map (es ++ [(k, v, clock)]) (clock + 1)))
            | some (some (i, _)) => some (M.put b (.map (setVal v k es i) clock))
            | none => none
          | _ => none
        | _ => none
    | none => none
  | _ => none
theorem sameBits_key {a b : AV} {x y : Value} (ha : V ν E a x) (hb : V ν E b y) (h : keyEq a b = some true) : Instr.sameBits 10000 y x = true := by
  unfold keyEq at h
  split at h
  · rename_i k m k' n
    have := ha.int_inv; subst this
    have := hb.int_inv; subst this
    split at h
    case h_2 => cases h
    rename_i hkk
    have hkk := of_decide_eq_true hkk
    subst hkk
    simp only [Option.some.injEq, intBeq_eq, beq_iff_eq] at h
    subst h
    simp [Instr.sameBits]
  · have h1 := ha.str_all
    have := ha.str_inv; subst this
    have := hb.str_inv; subst this
    simp only [Option.some.injEq, natsEq_iff] at h
    subst h
    simp only [Instr.sameBits]
    rw [beq_bytes h1 h1, natsEq_iff]
  · have := ha.bool_inv; subst this
    have := hb.bool_inv; subst this
    simp at h
    subst h
    simp [Instr.sameBits]
  · cases h
theorem amapUpdate_ok (h : MR ν B w0 E M w) {t : TypeId} {m k v : AV} {x y z : Value} (hm : V ν E m x) (hk : V ν E k y) (hv : V ν E v z) {M' : Mem} (hr : amapUpdate P t m k v M = some M') :
    ∃ w', (Instr.mapUpdate t x y z).run P w = .ok () w' ∧ MR ν B w0 E M' w' := by
  unfold amapUpdate at hr
  split at hr
  case h_2 => cases hr
  rename_i kt et hu
  split at hr
  case h_2 => cases hr
  rename_i d hd
  split at hr
  · cases hr
  rename_i hf
  split at hr
  case h_2 => cases hr
  rename_i b
  obtain ⟨p, hp, rfl⟩ := hm.map_inv
  split at hr
  case h_2 => cases hr
  rename_i es clock hb
  obtain ⟨q, e2, r'⟩ := h.obj b _ hb
  rw [hp] at e2
  simp at e2; subst e2
  obtain ⟨ms, hms, hME⟩ := r'
  split at hr
  · rename_i hfi
    have hfo := afind_ok hd hk hf hME hfi
    simp only at hfo
    simp only [Option.some.injEq] at hr; subst hr
    refine ⟨_, ?_, h.setMap hb hp (O := .map (ms.push { key := y, val := z, born := clock }) (clock + 1)) (fun w' hw' => ⟨_, hw', by
      rw [Array.toList_push]
      exact ME.push (m := { key := y, val := z, born := clock }) hk hv hME⟩)⟩
    simp [Instr.mapUpdate, run_underlying hu, run_getMap hms, run_checkKey hd, run_findKey hd hfo, run_setMap hms]
  · rename_i i u hfi
    obtain ⟨y', h1, h2, h3, e, h4, h5, h6⟩ := afind_ok hd hk hf hME hfi
    simp only [Nat.sub_zero] at h4
    obtain ⟨me, g1, g2, g3, g4⟩ := hME.get h4
    simp only [Option.some.injEq] at hr; subst hr
    have hsame := sameBits_key hk g2 h5
    have hmi : ms[i]? = some me := by simpa using g1
    refine ⟨_, ?_, h.setMap hb hp (O := .map (ms.modify i fun e => { e with key := y, val := z }) clock) (fun w' hw' => ⟨_, hw', by
      rw [Array.toList_modify]
      exact setVal_ok hv hk i hME⟩)⟩
    simp [Instr.mapUpdate, run_underlying hu, run_getMap hms, run_checkKey hd, run_findKey hd h1, Instr.keyThatStays, hmi, hsame, run_setMap hms]
  · cases hr
end

end Go.Proofs.YtnidkdjapieinaaDoor.Ev
