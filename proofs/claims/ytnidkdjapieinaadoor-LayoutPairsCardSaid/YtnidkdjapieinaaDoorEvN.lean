/- Regions of the little machine: in the order of the text, and in whatever order. No program is walked here. -/
import Derived.Test.YtnidkdjapieinaaDoorEvM
noncomputable section
namespace Go.Proofs.YtnidkdjapieinaaDoor.Ev
open Go.RowKit
set_option linter.unusedSimpArgs false
set_option linter.unusedVariables false

section
variable {P : Program} {Φ : Facts}
variable {ν : Nat → Value} [FactsOk P ν Φ] {B : Zone} {w0 w : World} {E : Env} {M : Mem}
variable {a : Act}

def runAll {α β : Type} (f : α → Option (List β)) : List α → Option (List β)
  | [] => some []
  | s :: ss => match f s with
    | none => none
    | some l => match runAll f ss with
      | none => none
      | some l' => some (l ++ l')
theorem runAll_mem {α β : Type} {f : α → Option (List β)} : ∀ {l : List α} {outs : List β}, runAll f l = some outs → ∀ s ∈ l, ∃ o, f s = some o ∧ ∀ x ∈ o, x ∈ outs
  | [], outs, h, s, hs => by cases hs
  | q :: qs, outs, h, s, hs => by
    simp only [runAll] at h
    split at h
    · cases h
    rename_i l hl
    split at h
    · cases h
    rename_i l' hl'
    simp only [Option.some.injEq] at h; subst h
    rcases List.mem_cons.1 hs with rfl | hs
    · exact ⟨l, hl, fun x hx => by simp [hx]⟩
    · obtain ⟨o, h1, h2⟩ := runAll_mem hl' s hs
      exact ⟨o, h1, fun x hx => by simp [h2 x hx]⟩

variable (P) (Φ) in
def runOps (cf : CF) (ops : List Oper) (os : List Oper) (st : St) : Option (List St) :=
  List.rec (motive := fun _ => St → Option (List St)) (fun st => some [st])
    (fun o _ ih st => Option.rec (motive := fun _ => Option (List St)) none (fun l => List.rec (motive := fun _ => Option (List St)) (some []) (fun s ss _ => List.rec (motive := fun _ => Option (List St)) (ih s) (fun _ _ _ => runAll ih (s :: ss)) ss) l) (stepOp P Φ cf ops st st.m.n o)) os st
variable (P) (Φ) in
theorem runOps_cons (cf : CF) (ops : List Oper) (o : Oper) (os : List Oper) (st : St) : runOps P Φ cf ops (o :: os) st = (match stepOp P Φ cf ops st st.m.n o with
    | none => none
    | some l => match l with
      | [s] => runOps P Φ cf ops os s
      | l => runAll (runOps P Φ cf ops os) l) := by
  show Option.rec (motive := fun _ => Option (List St)) none (fun l => List.rec (motive := fun _ => Option (List St)) (some []) (fun s ss _ => List.rec (motive := fun _ => Option (List St)) (runOps P Φ cf ops os s) (fun _ _ _ => runAll (runOps P Φ cf ops os) (s :: ss)) ss) l) (stepOp P Φ cf ops st st.m.n o) = _
  cases stepOp P Φ cf ops st st.m.n o with
  | none => rfl
  | some l => cases l with
    | nil => rfl
    | cons s ss => cases ss <;> rfl
variable (P) (Φ) in
theorem runOps_nil (cf : CF) (ops : List Oper) (st : St) : runOps P Φ cf ops [] st = some [st] := rfl
theorem MR.n_free (h : MR ν B w0 E M w) : E M.n = none := by
  cases e : E M.n with
  | none => rfl
  | some p => exact absurd (h.dom _ p e) (Nat.lt_irrefl _)
theorem runOps_ok {cf : CF} (hcf : CFok P cf ν) {ops : Array Oper} {Q : Exit → Act → World → Prop} : ∀ (rem : List Oper) (i : Nat) (st : St) (outs : List St) (E : Env) (a : Act) (w : World), ops.toList.drop i = rem → SR ν B w0 E st a w → runOps P Φ cf ops.toList rem st = some outs →
    (∀ st' ∈ outs, ∀ E' a' w', Late st.m.n E st'.m.n E' → SR ν B w0 E' st' a' w' → Q .normal a' w') → wpOps P ops Q (List.range' i rem.length) a w
  | [], i, st, outs, E, a, w, hd, h, hr, hQ => by
    simp only [runOps_nil, Option.some.injEq] at hr; subst hr
    simp only [List.length_nil, List.range'_zero, wpOps]
    exact hQ st (by simp) E a w (Late.refl _ _) h
  | o :: os, i, st, outs, E, a, w, hd, h, hr, hQ => by
    rw [runOps_cons] at hr
    split at hr
    · cases hr
    rename_i l hl
    have hi : ops[i]? = some o := by
      rw [← Array.getElem?_toList]
      have := List.getElem?_drop (xs := ops.toList) (i := i) (j := 0)
      rw [hd] at this
      simpa using this.symm
    have hd' : ops.toList.drop (i + 1) = os := by
      rw [show i + 1 = i + 1 from rfl, ← List.drop_drop, hd]; rfl
    rw [List.length_cons, List.range'_succ, wpOps_cons]
    refine stepOp_ok hcf h h.mr.n_free hi hl fun s hs E' a' w' hn hE hext hSR _ => ?_
    have hlate : Late st.m.n E s.m.n E' := ⟨hn, hE, fun b hb => hext b hb (by omega)⟩
    split at hr
    · rename_i s'
      have : s = s' := by simpa using hs
      subst this
      exact runOps_ok hcf os (i + 1) s outs E' a' w' hd' hSR hr fun st' hst' E2 a2 w2 hl2 hSR2 => hQ st' hst' E2 a2 w2 (hlate.trans hl2) hSR2
    · obtain ⟨o', h1, h2⟩ := runAll_mem hr s hs
      exact runOps_ok hcf os (i + 1) s o' E' a' w' hd' hSR h1 fun st' hst' E2 a2 w2 hl2 hSR2 => hQ st' (h2 st' hst') E2 a2 w2 (hlate.trans hl2) hSR2

/-! ### whatever order -/
/-- Does operation j wait for operation i? -/
def edge (ops : Array Oper) (j i : Nat) : Bool := match ops[j]? with
  | some o => o.after.any fun e => Region.binds .any e && e.on == i
  | none => false
/-- Whatever order is picked; what operation i leans on (K i) stays as it is behind each operation that does not wait for i. -/
def wpAnyK (P : Program) (ops : Array Oper) (Q : Exit → Act → World → Prop) (K : Nat → World → Prop) : Nat → Array Bool → Act → World → Prop
  | 0, listed, a, w => Region.ready .any ops listed = [] ∧ Q .normal a w
  | fuel + 1, listed, a, w => (Region.ready .any ops listed = [] → Q .normal a w) ∧
    ∀ j ∈ Region.ready .any ops listed, wpOp P ops Q j (fun a' w' => (∀ i, edge ops j i = false → K i w → K i w') ∧ wpAnyK P ops Q K fuel (listed.setIfInBounds j true) a' w') a w
theorem wpAny_of_K {ops : Array Oper} {Q : Exit → Act → World → Prop} {K : Nat → World → Prop} : ∀ (fuel : Nat) (listed : Array Bool) (a : Act) (w : World), wpAnyK P ops Q K fuel listed a w → wpAny P .any ops Q fuel listed a w
  | 0, _, _, _, h => h
  | fuel + 1, _, _, _, h => ⟨h.1, fun i hi => wpOp_mono (fun a' w' h' => wpAny_of_K fuel _ a' w' h'.2) (h.2 i hi)⟩
theorem wpAnyK_first {ops : Array Oper} {Q : Exit → Act → World → Prop} {K : Nat → World → Prop} {i : Nat} {oi : Oper} {v : Value} (hi : ops[i]? = some oi) (hsel : ∀ (j : Nat) (o : Oper) cs b, ops[j]? = some o → o.op ≠ .select cs b)
    (hQ : ∀ c a w, Q (.panic c) (a.put oi.dst v) w → Q (.panic c) a w) :
    ∀ (fuel : Nat) (listed : Array Bool) (a : Act) (w : World),
      (∀ j oj, ops[j]? = some oj → j ≠ i → listed.getD j true = false → (∀ e ∈ oj.after, Region.binds .any e = true → e.on ≠ i) → oi.apart ops oj = true) →
      i ∈ Region.ready .any ops listed → YieldsIf P ops (K i) oi v a → K i w →
      wpAnyK P ops Q K fuel (listed.setIfInBounds i true) (a.put oi.dst v) w → wpAnyK P ops Q K (fuel + 1) listed a w := by
  intro fuel
  induction fuel with
  | zero =>
    intro listed a w _ hr hy hS H
    refine ⟨fun h => (by rw [h] at hr; cases hr), fun j hj => ?_⟩
    by_cases hji : j = i
    · subst hji; exact hy.wpOp hi hS ⟨fun _ _ h => h, H⟩
    · have := ready_mono hj hji
      rw [H.1] at this
      cases this
  | succ fuel ih =>
    intro listed a w hfree hr hy hS H
    refine ⟨fun h => (by rw [h] at hr; cases hr), fun j hj => ?_⟩
    by_cases hji : j = i
    · subst hji; exact hy.wpOp hi hS ⟨fun _ _ h => h, H⟩
    · have h1 := H.2 j (ready_mono hj hji)
      obtain ⟨hjun, oj, hoj, hall⟩ := mem_ready.1 hj
      have hnot : ∀ e ∈ oj.after, Region.binds .any e = true → e.on ≠ i := fun e he hb heq => by
        have h1 := hall e he hb
        have h0 := (mem_ready.1 hr).1
        rw [heq] at h1
        rcases Nat.lt_or_ge i listed.size with h' | h'
        · simp [h'] at h0 h1; rw [h0] at h1; cases h1
        · simp [Array.getElem?_eq_none h'] at h1
      have hedge : edge ops j i = false := by
        unfold edge
        rw [hoj]
        simp only
        rw [Array.any_eq_false']
        intro e he hc
        simp only [Bool.and_eq_true, beq_iff_eq] at hc
        exact hnot e he hc.1 hc.2
      have h2 := wpOp_putIf hoj (hfree j oj hoj hji hjun hnot) (fun cs b => hsel i oi cs b hi) (fun cs b => hsel j oj cs b hoj) hQ hy h1
      have hfree' : ∀ k ok, ops[k]? = some ok → k ≠ i → (listed.setIfInBounds j true).getD k true = false →
          (∀ e ∈ ok.after, Region.binds .any e = true → e.on ≠ i) → oi.apart ops ok = true := fun k ok hk hki hun hno => by
        refine hfree k ok hk hki ?_ hno
        by_cases hjk : j = k
        · subst hjk; exact hjun
        · rw [getD_set_ne true hjk] at hun; exact hun
      refine wpOp_mono (fun a' w' h3 => ⟨h3.2.1, ih (listed.setIfInBounds j true) a' w' hfree' (ready_mono hr (Ne.symm hji)) h3.1 (h3.2.1 i hedge hS) ?_⟩) h2
      rw [Array.setIfInBounds_comm _ _ hji]
      exact h3.2.2

/-! ### masks -/
def lst (n mask : Nat) : Array Bool := (Array.range n).map fun i => mask.testBit i
theorem lst_size (n mask : Nat) : (lst n mask).size = n := by simp [lst]
theorem lst_getD {n mask i : Nat} (d : Bool) (h : i < n) : (lst n mask).getD i d = mask.testBit i := by
  simp [lst, h]
theorem lst_getD_ge {n mask i : Nat} (d : Bool) (h : n ≤ i) : (lst n mask).getD i d = d := by
  simp only [Array.getD_eq_getD_getElem?]
  rw [Array.getElem?_eq_none (by rw [lst_size]; exact h)]
  rfl
theorem lst_zero (n : Nat) : lst n 0 = Array.replicate n false := by
  apply Array.ext
  · simp [lst]
  · intro i h1 h2
    simp [lst]
theorem lst_set {n mask i : Nat} : (lst n mask).setIfInBounds i true = lst n (mask ||| 2 ^ i) := by
  apply Array.ext
  · simp [lst]
  · intro j h1 h2
    have hj : j < n := by rw [lst_size] at h2; exact h2
    rw [Array.getElem_setIfInBounds]
    · simp only [lst, Array.getElem_map, Array.getElem_range, Nat.testBit_or, Nat.testBit_two_pow]
      by_cases e : i = j
      · subst e; simp
      · simp [e]
    · rw [lst_size]; exact hj

/-- Is a bit set? -/
def tb (mask i : Nat) : Bool := Nat.beq (Nat.land (Nat.shiftRight mask i) 1) 1
theorem tb_eq (mask i : Nat) : tb mask i = mask.testBit i := by
  unfold tb Nat.testBit
  show Nat.beq ((mask >>> i) &&& 1) 1 = _
  rw [Nat.and_comm, Nat.one_and_eq_mod_two]
  have : (mask >>> i) % 2 = 0 ∨ (mask >>> i) % 2 = 1 := by omega
  rcases this with h | h <;> rw [h] <;> rfl
def edgesIn (mask : Nat) (es : List Edge) : Bool :=
  List.rec (motive := fun _ => Bool) true (fun e _ ih => Bool.rec (motive := fun _ => Bool) ih (Bool.rec (motive := fun _ => Bool) false ih (tb mask e.on)) (Region.binds .any e)) es
theorem edgesIn_nil (mask : Nat) : edgesIn mask [] = true := rfl
theorem edgesIn_cons (mask : Nat) (e : Edge) (es : List Edge) : edgesIn mask (e :: es) = (match Region.binds .any e with
    | false => edgesIn mask es
    | true => match tb mask e.on with
      | true => edgesIn mask es
      | false => false) := by
  show Bool.rec (motive := fun _ => Bool) (edgesIn mask es) (Bool.rec (motive := fun _ => Bool) false (edgesIn mask es) (tb mask e.on)) (Region.binds .any e) = _
  cases Region.binds .any e with
  | false => rfl
  | true => cases tb mask e.on <;> rfl
theorem edgesIn_iff {mask : Nat} : ∀ {l : List Edge}, edgesIn mask l = true ↔ ∀ e ∈ l, Region.binds .any e = true → mask.testBit e.on = true
  | [] => by simp [edgesIn_nil]
  | e :: es => by
    simp only [edgesIn_cons, tb_eq]
    split
    · rename_i h
      rw [edgesIn_iff]
      simp [h]
    · rename_i h
      split
      · rename_i h2
        rw [edgesIn_iff]
        simp [h, h2]
      · rename_i h2
        simp [h, h2]
theorem ready_iff {ops : Array Oper} {mask i : Nat} (hbits : ∀ j, mask.testBit j = true → j < ops.size) :
    i ∈ Region.ready .any ops (lst ops.size mask) ↔ i < ops.size ∧ mask.testBit i = false ∧ ∃ o, ops[i]? = some o ∧ edgesIn mask o.after.toList = true := by
  rw [mem_ready]
  constructor
  · rintro ⟨h1, o, ho, h2⟩
    have hi : i < ops.size := (Array.getElem?_eq_some_iff.1 ho).1
    rw [lst_getD true hi] at h1
    refine ⟨hi, h1, o, ho, edgesIn_iff.2 fun e he hb => ?_⟩
    have := h2 e (by simpa using he) hb
    by_cases hlt : e.on < ops.size
    · rw [lst_getD false hlt] at this; exact this
    · rw [lst_getD_ge false (by omega)] at this; cases this
  · rintro ⟨hi, h1, o, ho, h2⟩
    refine ⟨by rw [lst_getD true hi]; exact h1, o, ho, fun e he hb => ?_⟩
    have := edgesIn_iff.1 h2 e (by simpa using he) hb
    rw [lst_getD false (hbits _ this)]; exact this

/-- Does one wait for number i? -/
def waits (i : Nat) : List Edge → Bool
  | [] => false
  | e :: es => match Nat.beq e.on i with
    | true => match Region.binds .any e with
      | true => true
      | false => waits i es
    | false => waits i es
theorem waits_iff {i : Nat} : ∀ {l : List Edge}, waits i l = true ↔ ∃ e ∈ l, Region.binds .any e = true ∧ e.on = i
  | [] => by simp [waits]
  | e :: es => by
    simp only [waits]
    split
    · rename_i h1
      have h1 := Nat.eq_of_beq_eq_true h1
      split
      · rename_i h2; simp [h1, h2]
      · rename_i h2; rw [waits_iff]; simp [h2]
    · rename_i h1
      have h1 := Nat.ne_of_beq_eq_false h1
      rw [waits_iff]; simp [h1]
theorem waits_edge {ops : Array Oper} {j i : Nat} {o : Oper} (hj : ops[j]? = some o) : waits i o.after.toList = edge ops j i := by
  unfold edge
  rw [hj]
  simp only
  rw [Bool.eq_iff_iff, waits_iff, Array.any_eq_true']
  simp
/-- Which operations write a temporary. -/
def writers : List Oper → Nat → T (List Nat) → T (List Nat)
  | [], _, t => t
  | o :: os, i, t => match o.dst with
    | some d => writers os (i + 1) (T.set (d + 1) t d (match t.get d with | some l => i :: l | none => [i]))
    | none => writers os (i + 1) t
theorem writers_keep : ∀ {os : List Oper} {i : Nat} {t : T (List Nat)} {d k : Nat}, (∃ l, t.get d = some l ∧ k ∈ l) → ∃ l, (writers os i t).get d = some l ∧ k ∈ l
  | [], i, t, d, k, h => h
  | o :: os, i, t, d, k, h => by
    simp only [writers]
    split
    · rename_i d' hd'
      refine writers_keep ?_
      rw [T.get_set _ _ _ _ _ (Nat.lt_succ_self d')]
      by_cases e : d' = d
      · subst e
        obtain ⟨l, h1, h2⟩ := h
        rw [if_pos rfl, h1]
        exact ⟨_, rfl, by simp [h2]⟩
      · rw [if_neg e]; exact h
    · exact writers_keep h
theorem writers_ok : ∀ {os : List Oper} {i : Nat} {t : T (List Nat)} {k : Nat} {o : Oper} {d : Nat}, os[k]? = some o → o.dst = some d → ∃ l, (writers os i t).get d = some l ∧ i + k ∈ l
  | [], i, t, k, o, d, h, hd => by simp at h
  | q :: os, i, t, 0, o, d, h, hd => by
    simp at h; subst h
    simp only [writers, hd]
    refine writers_keep ?_
    rw [T.get_set _ _ _ _ _ (Nat.lt_succ_self d), if_pos rfl]
    split <;> exact ⟨_, rfl, by simp⟩
  | q :: os, i, t, k + 1, o, d, h, hd => by
    simp at h
    simp only [writers]
    split
    · rw [show i + (k + 1) = i + 1 + k from by omega]; exact writers_ok h hd
    · rw [show i + (k + 1) = i + 1 + k from by omega]; exact writers_ok h hd
/-- Number j either is, or waits for, or is waited for by each of these. -/
def tied (ops : List Oper) (j : Nat) (o : Oper) : List Nat → Bool
  | [] => true
  | i :: is => match Nat.beq i j with
    | true => tied ops j o is
    | false => match waits i o.after.toList with
      | true => tied ops j o is
      | false => match nth ops i with
        | some oi => match waits j oi.after.toList with
          | true => tied ops j o is
          | false => false
        | none => tied ops j o is
def tiedAll (ops : List Oper) (W : T (List Nat)) (j : Nat) (o : Oper) : List Tmp → Bool
  | [] => true
  | t :: ts => match W.get t with
    | some l => match tied ops j o l with
      | true => tiedAll ops W j o ts
      | false => false
    | none => tiedAll ops W j o ts
def freeOps (opa : Array Oper) (ops : List Oper) (W : T (List Nat)) : List Oper → Nat → Bool
  | [], _ => true
  | o :: os, j => match tiedAll ops W j o (o.looksAt opa ++ o.dst.toList) with
    | true => freeOps opa ops W os (j + 1)
    | false => false
/-- In a region nobody's temporaries are touched by another that need not wait. -/
def freeAll (ops : Array Oper) : Bool := freeOps ops ops.toList (writers ops.toList 0 .nil) ops.toList 0
theorem tied_ok {ops : List Oper} {j : Nat} {o : Oper} : ∀ {l : List Nat}, tied ops j o l = true → ∀ i ∈ l, i ≠ j → ∀ oi, ops[i]? = some oi → waits i o.after.toList = true ∨ waits j oi.after.toList = true
  | [], h, i, hi, hne, oi, ho => by cases hi
  | k :: ks, h, i, hi, hne, oi, ho => by
    simp only [tied] at h
    rcases List.mem_cons.1 hi with rfl | hi
    · split at h
      · rename_i e; exact absurd (Nat.eq_of_beq_eq_true e) hne
      · split at h
        · rename_i e; exact .inl e
        · rw [nth_eq, ho] at h
          simp only at h
          split at h
          · rename_i e; exact .inr e
          · cases h
    · split at h
      · exact tied_ok h i hi hne oi ho
      · split at h
        · exact tied_ok h i hi hne oi ho
        · split at h
          · split at h
            · exact tied_ok h i hi hne oi ho
            · cases h
          · exact tied_ok h i hi hne oi ho
theorem tiedAll_ok {ops : List Oper} {W : T (List Nat)} {j : Nat} {o : Oper} : ∀ {ts : List Tmp}, tiedAll ops W j o ts = true → ∀ t ∈ ts, ∀ l, W.get t = some l → tied ops j o l = true
  | [], h, t, ht, l, hl => by cases ht
  | u :: us, h, t, ht, l, hl => by
    simp only [tiedAll] at h
    rcases List.mem_cons.1 ht with rfl | ht
    · rw [hl] at h
      simp only at h
      split at h
      · rename_i e; exact e
      · cases h
    · split at h
      · split at h
        · exact tiedAll_ok h t ht l hl
        · cases h
      · exact tiedAll_ok h t ht l hl
theorem freeOps_ok {opa : Array Oper} {ops : List Oper} {W : T (List Nat)} : ∀ {os : List Oper} {j : Nat}, freeOps opa ops W os j = true → ∀ (k : Nat) (o : Oper), os[k]? = some o → tiedAll ops W (j + k) o (o.looksAt opa ++ o.dst.toList) = true
  | [], j, h, k, o, ho => by simp at ho
  | q :: qs, j, h, k, o, ho => by
    simp only [freeOps] at h
    split at h
    case h_2 => cases h
    rename_i h1
    cases k with
    | zero => simp at ho; subst ho; exact h1
    | succ k =>
      simp at ho
      have := freeOps_ok h k o ho
      rw [show j + (k + 1) = j + 1 + k from by omega]; exact this
theorem freeAll_ok {ops : Array Oper} (h : freeAll ops = true) {i j : Nat} {oi oj : Oper} (hi : ops[i]? = some oi) (hj : ops[j]? = some oj) (hne : j ≠ i) (h1 : edge ops j i = false) (h2 : edge ops i j = false) : oi.apart ops oj = true := by
  have hi' : ops.toList[i]? = some oi := by rw [Array.getElem?_toList]; exact hi
  have hj' : ops.toList[j]? = some oj := by rw [Array.getElem?_toList]; exact hj
  -- whoever writes what another touches is tied to it
  have key : ∀ (p q : Nat) (op oq : Oper), ops.toList[p]? = some op → ops.toList[q]? = some oq → ops[p]? = some op → ops[q]? = some oq → p ≠ q → edge ops q p = false → edge ops p q = false → ∀ d, op.dst = some d → d ∉ oq.looksAt ops ++ oq.dst.toList := by
    intro p q op oq hp hq hp' hq' hpq e1 e2 d hd hmem
    obtain ⟨l, g1, g2⟩ := writers_ok (i := 0) (t := .nil) hp hd
    rw [Nat.zero_add] at g2
    have := freeOps_ok h q oq hq
    rw [Nat.zero_add] at this
    rcases tied_ok (tiedAll_ok this d hmem l g1) p g2 hpq op hp with e | e
    · rw [waits_edge hq'] at e; rw [e1] at e; cases e
    · rw [waits_edge hp'] at e; rw [e2] at e; cases e
  have k1 := key i j oi oj hi' hj' hi hj (fun e => hne e.symm) h1 h2
  have k2 := key j i oj oi hj' hi' hj hi hne h2 h1
  unfold Oper.apart
  rw [Bool.and_eq_true]
  constructor
  · split
    · rename_i d hd
      have := k1 d hd
      rw [List.mem_append, not_or] at this
      rw [Bool.and_eq_true]
      refine ⟨by simpa using this.1, ?_⟩
      rw [bne_iff_ne]
      intro e
      exact this.2 (by rw [e]; simp)
    · rfl
  · split
    · rename_i d hd
      have := k2 d hd
      rw [List.mem_append, not_or] at this
      simpa using this.1
    · rfl

/-! ### what loads lean on -/
/-- Values that stand for one alone. -/
def det : AV → Bool
  | .bool _ | .int _ _ | .str _ | .ptr _ _ | .nptr | .slice _ _ _ _ | .nslice | .map _ | .nmap | .nfn | .niface | .opq _ => true
  | .slic _ _ n _ => Nat.blt 0 n
  | _ => false
theorem det_ok {v : AV} (hd : det v = true) {x y : Value} (hx : V ν E v x) (hy : V ν E v y) : x = y := by
  cases v <;> simp only [det] at hd <;> simp only [V] at hx hy
  case slic b o n z =>
    have hn := blt_iff.1 hd
    obtain ⟨p, c, o', e1, rfl, h1, h2, h3, h4⟩ := hx
    obtain ⟨p', c', o'', e1', rfl, h1', h2', h3', h4'⟩ := hy
    rw [e1] at e1'
    simp only [Option.some.injEq] at e1'; subst e1'
    have hc : c = c' := by
      have : c * z = c' * z := by omega
      exact Nat.eq_of_mul_eq_mul_right h3 this
    subst hc
    rw [h4 (by omega), h4' (by omega)]
  case str => rw [hx.1, hy.1]
  case ptr => obtain ⟨p, e1, rfl⟩ := hx; obtain ⟨p', e2, rfl⟩ := hy; rw [e1] at e2; simp only [Option.some.injEq] at e2; subst e2; rfl
  case slice => obtain ⟨p, e1, rfl⟩ := hx; obtain ⟨p', e2, rfl⟩ := hy; rw [e1] at e2; simp only [Option.some.injEq] at e2; subst e2; rfl
  case map => obtain ⟨p, e1, rfl⟩ := hx; obtain ⟨p', e2, rfl⟩ := hy; rw [e1] at e2; simp only [Option.some.injEq] at e2; subst e2; rfl
  case opq => rw [hx.1, hy.1]
  all_goals first
    | (cases hd; done)
    | (rw [hx, hy])
/-- An operation's number and the cells that it loads: block, first, how many. -/
abbrev Held := List (Nat × Nat × Nat × Nat)
def sameCells (K K' : Blk) : Nat → Nat → Bool
  | 0, _ => true
  | n + 1, o => match K.get o, K'.get o with
    | some u, some v => match AV.beq u v, det u with
      | true, true => sameCells K K' n (o + 1)
      | _, _ => false
    | _, _ => false
def sameHeld (M M' : Mem) (b o n : Nat) : Bool := match M.get b, M'.get b with
  | some (.cells K), some (.cells K') => sameCells K K' n o
  | _, _ => false
def heldOk (o : Oper) (M M' : Mem) : Held → Bool
  | [] => true
  | (i, b, f, n) :: hs => match waits i o.after.toList with
    | true => heldOk o M M' hs
    | false => match sameHeld M M' b f n with
      | true => heldOk o M M' hs
      | false => false
/-- The cells that an operation loads are as they were in world ws. -/
def KH (H : Held) (E0 : Env) (ws : World) (i : Nat) (w : World) : Prop :=
  ∀ h ∈ H, h.1 = i → ∀ p, E0 h.2.1 = some p → ∀ j, j < h.2.2.2 → w.cell? ⟨p.1, p.2.1 + (h.2.2.1 + j), none⟩ = ws.cell? ⟨p.1, p.2.1 + (h.2.2.1 + j), none⟩
theorem sameCells_ok {K K' : Blk} : ∀ {n o : Nat}, sameCells K K' n o = true → ∀ j, j < n → ∃ u, K.get (o + j) = some u ∧ K'.get (o + j) = some u ∧ det u = true
  | 0, o, h, j, hj => by omega
  | n + 1, o, h, j, hj => by
    simp only [sameCells] at h
    split at h
    · rename_i u v h1 h2
      split at h
      · rename_i h3 h4
        have := AV.eq_of_beq _ _ h3
        subst this
        cases j with
        | zero => exact ⟨u, h1, h2, h4⟩
        | succ j =>
          have := sameCells_ok h j (by omega)
          rw [show o + (j + 1) = o + 1 + j from by omega]; exact this
      · cases h
    · cases h
theorem heldOk_ok {ops : Array Oper} {E0 E E' : Env} {ws w w' : World} {M M' : Mem} (h : MR ν B w0 E M w) (h' : MR ν B w0 E' M' w') (hE0 : E0.le E) (hE : E.le E') {jj : Nat} {o : Oper} (hj : ops[jj]? = some o) {H : Held} (hh : heldOk o M M' H = true) :
    ∀ i, edge ops jj i = false → KH H E0 ws i w → KH H E0 ws i w' := by
  intro i hedge hK q hq hqi p hp j hlt
  have hmem : ∀ {H : Held}, heldOk o M M' H = true → q ∈ H → waits q.1 o.after.toList = true ∨ sameHeld M M' q.2.1 q.2.2.1 q.2.2.2 = true := by
    intro H
    induction H with
    | nil => intro _ hq; cases hq
    | cons r rs ih =>
      intro hh hq
      obtain ⟨r1, r2, r3, r4⟩ := r
      simp only [heldOk] at hh
      split at hh
      · rename_i hr
        rcases List.mem_cons.1 hq with rfl | hq
        · exact .inl hr
        · exact ih hh hq
      · split at hh
        · rename_i hr
          rcases List.mem_cons.1 hq with rfl | hq
          · exact .inr hr
          · exact ih hh hq
        · cases hh
  have h1 := hmem hh hq
  rw [waits_edge hj, hqi, hedge] at h1
  rcases h1 with h1 | h1
  · cases h1
  unfold sameHeld at h1
  split at h1
  · rename_i K K' hK1 hK2
    obtain ⟨u, g1, g2, g3⟩ := sameCells_ok h1 j hlt
    have hpE := hE0 _ _ hp
    obtain ⟨x, hx, hxV, _⟩ := h.cell hK1 hpE g1
    obtain ⟨y, hy, hyV, _⟩ := h'.cell hK2 (hE _ _ hpE) g2
    have : x = y := det_ok g3 (V.mono hE _ _ hxV) hyV
    subst this
    rw [hy, ← hx]
    exact hK q hq hqi p hp j hlt
  · cases h1
end

end Go.Proofs.YtnidkdjapieinaaDoor.Ev
