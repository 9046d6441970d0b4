/- The plain law of a script's text and of its plain one. -/
import Derived.Test.YtbjlnllbcgghlaaDoorPyU
namespace Go.Proofs.YtbjlnllbcgghlaaDoor
open Go.RowKit Go.Shelf
set_option linter.unusedSimpArgs false
set_option linter.unusedVariables false

/-! A script's text is read as it. -/
theorem first_line {x : PlD} (h : fineK x = true) (r : List UInt8) : FirstNl (lineK x ++ [10] ++ r) (lineK x).length := by
  rw [List.append_assoc]
  refine ⟨by rw [List.getElem?_append_right (Nat.le_refl _), Nat.sub_self]; rfl, fun k hk hc => ?_⟩
  rw [List.getElem?_append_left hk] at hc
  exact line_nl h (List.mem_of_getElem? hc)
theorem go_text : ∀ (l : List PlD) (n at_ : Nat) (acc : List PlD), (∀ x ∈ l, fineK x = true) → (textK l).length < n → goK n (textK l) at_ acc = if 4096 < (acc ++ l).length then ([], 3, 0) else (acc ++ l, 0, 0)
  | [], n, at_, acc, _, hn => by
    obtain ⟨n, rfl⟩ : ∃ k, n = k + 1 := ⟨n - 1, by omega⟩
    rw [show textK [] = [] from rfl, go_end, List.append_nil]
  | x :: l, n, at_, acc, hf, hn => by
    obtain ⟨n, rfl⟩ : ∃ k, n = k + 1 := ⟨n - 1, by omega⟩
    have hx := hf x (List.mem_cons_self ..)
    have e : textK (x :: l) = lineK x ++ [10] ++ textK l := by unfold textK; rw [List.flatMap_cons]
    rw [e] at hn ⊢
    rw [go_step n at_ acc (first_line hx _) hx (by rw [List.append_assoc, List.take_left' rfl])]
    rw [show (lineK x).length + 1 = (lineK x ++ [10]).length by simp, List.drop_left' rfl]
    rw [go_text l n _ (acc ++ [x]) (fun y hy => hf y (List.mem_cons_of_mem _ hy)) (by simp only [List.length_append, List.length_cons, List.length_nil] at hn; omega)]
    rw [List.append_assoc]; rfl
theorem parse_text {l : List PlD} (h : chkK l = 0) : parseK (mkW (textK l)) = (l, 0, 0) := by
  obtain ⟨h1, h2⟩ := chk_zero h
  unfold parseK
  rw [show (mkW (textK l)).data.toList = textK l from by simp [mkW], go_text l _ 0 [] h2 (by show (textK l).length < (textK l).toArray.size + 1; rw [List.size_toArray]; omega), List.nil_append, if_neg (by omega)]

/-! What the plain script keeps. -/
theorem endB_app (a b : List PlD) : endB (a ++ b) = (endB a || endB b) := by unfold endB; rw [List.any_append]
theorem inB_app : ∀ (a b : List PlD), inB (a ++ b) = if endB a = true then inB a else inB a ++ inB b
  | [], b => by simp [inB, upEnd, endB]
  | x :: a, b => by
    have ih := inB_app a b
    by_cases hx : x.kind = 2
    · have e : endB (x :: a) = true := by simp [endB, hx]
      rw [if_pos e]
      simp [inB, upEnd, hx]
    · have e : endB (x :: a) = endB a := by simp [endB, hx]
      have e1 : ∀ r, inB (x :: r) = feedB x ++ inB r := fun r => by simp [inB, upEnd, hx]
      rw [e, List.cons_append, e1, e1, ih]
      split
      · rfl
      · rw [List.append_assoc]
theorem inB_one (x : PlD) (h : x.kind ≠ 2) : inB [x] = feedB x ∧ endB [x] = false := by simp [inB, upEnd, endB, h]
def runN (x : PlD) : Int := if x.kind = 3 then x.n else 0
def sumR (l : List PlD) : Int := (l.map runN).sum
theorem sumR_app (a b : List PlD) : sumR (a ++ b) = sumR a + sumR b := by unfold sumR; rw [List.map_append, List.sum_append]
theorem sumR_one (x : PlD) : sumR [x] = runN x := by simp [sumR]
/-- One step keeps what is fed, whether it ends, and the steps. -/
theorem step_keeps {acc : List PlD} {x : PlD} (ha : ∀ y ∈ acc, fineK y = true) (hx : fineK x = true) : inB (stepP acc x) = inB (acc ++ [x]) ∧ endB (stepP acc x) = endB (acc ++ [x]) ∧ sumR (stepP acc x) = sumR (acc ++ [x]) := by
  by_cases hs : skipK x
  · rw [step_skip hs, endB_app, inB_app, sumR_app, sumR_one]
    have h2 : x.kind ≠ 2 := by rcases hs with h | h | ⟨h, -⟩ | ⟨h, -⟩ <;> omega
    obtain ⟨i1, i2⟩ := inB_one x h2
    have hf : feedB x = [] := by
      unfold feedB
      rcases hs with h | h | ⟨h, hb⟩ | ⟨h, -⟩
      · rw [if_neg (by omega)]
      · rw [if_neg (by omega)]
      · rw [if_pos h, hb]
      · rw [if_neg (by omega)]
    have hr : runN x = 0 := by
      unfold runN
      rcases hs with h | h | ⟨h, hb⟩ | ⟨h, hn⟩
      · rw [if_neg (by omega)]
      · rw [if_neg (by omega)]
      · rw [if_neg (by omega)]
      · rw [if_pos h, hn]
    rw [i1, i2, hf, hr]
    refine ⟨?_, by simp, by omega⟩
    split <;> simp
  · rcases last_cases acc with rfl | ⟨acc0, y, rfl⟩
    · rw [step_nil hs]; exact ⟨rfl, rfl, rfl⟩
    · by_cases hk : x.kind = 2 ∨ y.kind ≠ x.kind
      · rw [step_new hs hk]; exact ⟨rfl, rfl, rfl⟩
      · have hk1 : x.kind ≠ 2 := by omega
        have hk2 : y.kind = x.kind := by omega
        rw [step_join hs hk1 hk2]
        obtain ⟨y1, y2, y3, y4, y5, y6, y7⟩ := fine_to (ha y (by simp))
        obtain ⟨x1, x2, x3, x4, x5, x6, x7⟩ := fine_to hx
        obtain ⟨i1, i2⟩ := inB_one x hk1
        obtain ⟨j1, j2⟩ := inB_one y (by omega)
        unfold joinK
        split
        · obtain ⟨z1, z2⟩ := inB_one ⟨y.kind, y.n + x.n, y.bytes ++ x.bytes⟩ (by show y.kind ≠ 2; omega)
          have hf : feedB ⟨y.kind, y.n + x.n, y.bytes ++ x.bytes⟩ = feedB y ++ feedB x := by
            unfold feedB
            simp only
            by_cases e : x.kind = 1
            · rw [if_pos (by omega), if_pos (by omega), if_pos e]
            · rw [if_neg (by omega), if_neg (by omega), if_neg e]; rfl
          have hr : runN ⟨y.kind, y.n + x.n, y.bytes ++ x.bytes⟩ = runN y + runN x := by
            unfold runN
            simp only
            by_cases e : x.kind = 3
            · rw [if_pos (by omega), if_pos (by omega), if_pos e]
            · rw [if_neg (by omega), if_neg (by omega), if_neg e]; rfl
          simp only [inB_app, endB_app, sumR_app, sumR_one, z1, z2, i1, i2, j1, j2, hf, hr]
          refine ⟨?_, by simp, by omega⟩
          cases endB acc0 <;> simp
        · next hov =>
          have hk3 : x.kind = 3 := by
            rcases Decidable.em (x.kind = 3) with e | e
            · exact e
            · have := x5 e; have := y5 (by omega); omega
          obtain ⟨z1, z2⟩ := inB_one ⟨y.kind, 1048576, y.bytes ++ x.bytes⟩ (by show y.kind ≠ 2; omega)
          obtain ⟨u1, u2⟩ := inB_one ⟨x.kind, y.n + x.n - 1048576, x.bytes⟩ hk1
          have f1 : feedB ⟨y.kind, 1048576, y.bytes ++ x.bytes⟩ = [] := by unfold feedB; exact if_neg (by show y.kind ≠ 1; omega)
          have f2 : feedB ⟨x.kind, y.n + x.n - 1048576, x.bytes⟩ = [] := by unfold feedB; exact if_neg (by show x.kind ≠ 1; omega)
          have f3 : feedB y = [] := by unfold feedB; exact if_neg (by omega)
          have f4 : feedB x = [] := by unfold feedB; exact if_neg (by omega)
          have r1 : runN ⟨y.kind, 1048576, y.bytes ++ x.bytes⟩ = 1048576 := by unfold runN; exact if_pos (by show y.kind = 3; omega)
          have r2 : runN ⟨x.kind, y.n + x.n - 1048576, x.bytes⟩ = y.n + x.n - 1048576 := by unfold runN; exact if_pos hk3
          have r3 : runN y = y.n := by unfold runN; exact if_pos (by omega)
          have r4 : runN x = x.n := by unfold runN; exact if_pos hk3
          rw [show acc0 ++ [(⟨y.kind, 1048576, y.bytes ++ x.bytes⟩ : PlD), ⟨x.kind, y.n + x.n - 1048576, x.bytes⟩] = acc0 ++ [⟨y.kind, 1048576, y.bytes ++ x.bytes⟩] ++ [⟨x.kind, y.n + x.n - 1048576, x.bytes⟩] by simp]
          simp only [inB_app, endB_app, sumR_app, sumR_one, z1, z2, u1, u2, i1, i2, j1, j2, f1, f2, f3, f4, r1, r2, r3, r4]
          refine ⟨?_, by simp, by omega⟩
          cases endB acc0 <;> simp
theorem plain_keeps (l : List PlD) (hf : ∀ x ∈ l, fineK x = true) : inB (plainK l) = inB l ∧ endB (plainK l) = endB l ∧ sumR (plainK l) = sumR l := by
  have go : ∀ (l acc : List PlD), (∀ x ∈ l, fineK x = true) → (∀ y ∈ acc, fineK y = true) → inB (l.foldl stepP acc) = inB (acc ++ l) ∧ endB (l.foldl stepP acc) = endB (acc ++ l) ∧ sumR (l.foldl stepP acc) = sumR (acc ++ l) := by
    intro l
    induction l with
    | nil => intro acc _ _; rw [List.append_nil]; exact ⟨rfl, rfl, rfl⟩
    | cons x l ih =>
      intro acc hl ha
      have hx := hl x (List.mem_cons_self ..)
      obtain ⟨k1, k2, k3⟩ := step_keeps ha hx
      obtain ⟨g1, g2, g3⟩ := ih (stepP acc x) (fun y hy => hl y (List.mem_cons_of_mem _ hy)) (step_fine ha hx)
      rw [List.foldl_cons, g1, g2, g3, show acc ++ x :: l = acc ++ [x] ++ l by simp]
      rw [inB_app (stepP acc x), inB_app (acc ++ [x]), endB_app (stepP acc x), endB_app (acc ++ [x]), sumR_app (stepP acc x), sumR_app (acc ++ [x]), k1, k2, k3]
      exact ⟨rfl, rfl, rfl⟩
  have := go l [] hf (fun y hy => by cases hy)
  rw [List.nil_append] at this
  exact this
theorem steps_sum (l : List PlD) (hf : ∀ x ∈ l, fineK x = true) (hl : l.length ≤ 100000) : stepsK l = sumR l ∧ 0 ≤ sumR l ∧ sumR l ≤ 1048576 * (l.length : Int) := by
  have go : ∀ (l : List PlD) (s : Int), (∀ x ∈ l, fineK x = true) → 0 ≤ s → s + 1048576 * (l.length : Int) ≤ 1000000000000000 → l.foldl stepF s = s + sumR l ∧ 0 ≤ sumR l ∧ sumR l ≤ 1048576 * (l.length : Int) := by
    intro l
    induction l with
    | nil => intro s _ _ _; simp [sumR]
    | cons x l ih =>
      intro s hl h0 h1
      obtain ⟨x1, x2, x3, x4, x5, x6, x7⟩ := fine_to (hl x (List.mem_cons_self ..))
      have e : sumR (x :: l) = runN x + sumR l := by simp [sumR]
      have hr : 0 ≤ runN x ∧ runN x ≤ 1048576 := by unfold runN; split <;> omega
      rw [List.length_cons] at h1 ⊢
      have hst : stepF s x = s + runN x := by
        unfold stepF runN
        split
        · exact IntWalk.wrap64_in _ ⟨by omega, by omega⟩
        · omega
      obtain ⟨g1, g2, g3⟩ := ih (stepF s x) (fun y hy => hl y (List.mem_cons_of_mem _ hy)) (by omega) (by omega)
      rw [List.foldl_cons, g1, hst, e]
      omega
  have := go l 0 hf (by omega) (by omega)
  exact ⟨by unfold stepsK; rw [this.1]; omega, this.2⟩

/-! The plain one is its own plain one. -/
def OkP (a b : PlD) : Prop := b.kind = 2 ∨ a.kind ≠ b.kind ∨ (a.kind = 3 ∧ b.kind = 3 ∧ a.n = 1048576 ∧ a.bytes = [])
structure Norm (l : List PlD) : Prop where
  no : ∀ y ∈ l, ¬ skipK y
  adj : ∀ i a b, l[i]? = some a → l[i + 1]? = some b → OkP a b
theorem Norm.snoc {l0 : List PlD} {y x : PlD} (h : Norm (l0 ++ [y])) (hx : ¬ skipK x) (ho : OkP y x) : Norm (l0 ++ [y] ++ [x]) := by
  refine ⟨fun z hz => ?_, fun i a b ha hb => ?_⟩
  · rcases List.mem_append.1 hz with hz | hz
    · exact h.no z hz
    · simp at hz; subst hz; exact hx
  · rcases Nat.lt_trichotomy (i + 1) (l0 ++ [y]).length with q | q | q
    · rw [List.getElem?_append_left (by omega)] at ha
      rw [List.getElem?_append_left q] at hb
      exact h.adj i a b ha hb
    · rw [List.getElem?_append_left (by omega)] at ha
      rw [q, List.getElem?_append_right (Nat.le_refl _), Nat.sub_self] at hb
      simp at q
      rw [q, List.getElem?_append_right (Nat.le_refl _), Nat.sub_self] at ha
      simp at ha hb
      subst ha; subst hb
      exact ho
    · rw [List.getElem?_append_right (by omega)] at hb
      have h9 := (List.getElem?_eq_some_iff.1 hb).1
      rw [List.length_singleton] at h9; omega
theorem Norm.repl {l0 : List PlD} {y y' : PlD} (h : Norm (l0 ++ [y])) (hk : y'.kind = y.kind) (hx : ¬ skipK y') : Norm (l0 ++ [y']) := by
  refine ⟨fun z hz => ?_, fun i a b ha hb => ?_⟩
  · rcases List.mem_append.1 hz with hz | hz
    · exact h.no z (by simp [hz])
    · simp at hz; subst hz; exact hx
  · rcases Nat.lt_trichotomy (i + 1) l0.length with q | q | q
    · rw [List.getElem?_append_left (by omega)] at ha hb
      exact h.adj i a b (by rw [List.getElem?_append_left (by omega)]; exact ha) (by rw [List.getElem?_append_left (by omega)]; exact hb)
    · rw [List.getElem?_append_left (by omega)] at ha
      rw [q, List.getElem?_append_right (Nat.le_refl _), Nat.sub_self] at hb
      simp at hb; subst hb
      have := h.adj i a y (by rw [List.getElem?_append_left (by omega)]; exact ha) (by rw [q, List.getElem?_append_right (Nat.le_refl _), Nat.sub_self]; rfl)
      unfold OkP at *
      rw [hk]; exact this
    · rw [List.getElem?_append_right (by omega)] at hb
      have := (List.getElem?_eq_some_iff.1 hb).1
      simp at this; omega
theorem step_norm {acc : List PlD} {x : PlD} (h : Norm acc) (ha : ∀ y ∈ acc, fineK y = true) (hx : fineK x = true) : Norm (stepP acc x) := by
  by_cases hs : skipK x
  · rw [step_skip hs]; exact h
  · rcases last_cases acc with rfl | ⟨acc0, y, rfl⟩
    · rw [step_nil hs]
      refine ⟨fun z hz => (by simp at hz; subst hz; exact hs), fun i a b ha hb => ?_⟩
      have := (List.getElem?_eq_some_iff.1 hb).1
      simp at this
    · by_cases hk : x.kind = 2 ∨ y.kind ≠ x.kind
      · rw [step_new hs hk]
        exact h.snoc hs (hk.imp id .inl)
      · have hk1 : x.kind ≠ 2 := by omega
        have hk2 : y.kind = x.kind := by omega
        rw [step_join hs hk1 hk2]
        have hy := h.no y (by simp)
        obtain ⟨y1, y2, y3, y4, y5, y6, y7⟩ := fine_to (ha y (by simp))
        obtain ⟨x1, x2, x3, x4, x5, x6, x7⟩ := fine_to hx
        have hyn : y.kind = 3 → y.n ≠ 0 := fun e e2 => hy (.inr (.inr (.inr ⟨e, e2⟩)))
        have hyb : y.kind = 1 → y.bytes ≠ [] := fun e e2 => hy (.inr (.inr (.inl ⟨e, e2⟩)))
        unfold joinK
        split
        · refine h.repl rfl ?_
          rintro (q | q | ⟨q, q2⟩ | ⟨q, q2⟩)
          · exact hy (.inl q)
          · exact hy (.inr (.inl q))
          · exact hyb q (List.append_eq_nil_iff.1 q2).1
          · simp only at q q2
            have := hyn q
            omega
        · next hov =>
          have hk3 : x.kind = 3 := by
            rcases Decidable.em (x.kind = 3) with e | e
            · exact e
            · have := x5 e; have := y5 (by omega); omega
          have hb1 : y.bytes = [] := by
            rcases y3 with q | q
            · omega
            · exact q
          have hb2 : x.bytes = [] := by
            rcases x3 with q | q
            · omega
            · exact q
          rw [show acc0 ++ [(⟨y.kind, 1048576, y.bytes ++ x.bytes⟩ : PlD), ⟨x.kind, y.n + x.n - 1048576, x.bytes⟩] = acc0 ++ [⟨y.kind, 1048576, y.bytes ++ x.bytes⟩] ++ [⟨x.kind, y.n + x.n - 1048576, x.bytes⟩] by simp]
          refine Norm.snoc (h.repl rfl ?_) ?_ (.inr (.inr ⟨by show y.kind = 3; omega, hk3, rfl, by show y.bytes ++ x.bytes = []; rw [hb1, hb2]; rfl⟩))
          · rintro (q | q | ⟨q, q2⟩ | ⟨q, q2⟩)
            · simp only at q; omega
            · simp only at q; omega
            · simp only at q; omega
            · cases q2
          · rintro (q | q | ⟨q, q2⟩ | ⟨q, q2⟩)
            · simp only at q; omega
            · simp only at q; omega
            · simp only at q; omega
            · simp only at q2; omega
theorem plain_norm (l : List PlD) (hf : ∀ x ∈ l, fineK x = true) : Norm (plainK l) := by
  have go : ∀ (l acc : List PlD), (∀ x ∈ l, fineK x = true) → (∀ y ∈ acc, fineK y = true) → Norm acc → Norm (l.foldl stepP acc) := by
    intro l
    induction l with
    | nil => intro acc _ _ h; exact h
    | cons x l ih =>
      intro acc hl ha h
      have hx := hl x (List.mem_cons_self ..)
      rw [List.foldl_cons]
      exact ih _ (fun y hy => hl y (List.mem_cons_of_mem _ hy)) (step_fine ha hx) (step_norm h ha hx)
  exact go l [] hf (fun y hy => by cases hy) ⟨fun y hy => (by cases hy), fun i a b ha _ => (by simp at ha)⟩
theorem norm_self {p : List PlD} (h : Norm p) (hf : ∀ x ∈ p, fineK x = true) : plainK p = p := by
  have go : ∀ k, k ≤ p.length → plainK (p.take k) = p.take k := by
    intro k
    induction k with
    | zero => intro _; rfl
    | succ k ih =>
      intro hk
      obtain ⟨x, hx⟩ : ∃ x, p[k]? = some x := ⟨_, List.getElem?_eq_getElem (by omega)⟩
      have hxm := List.mem_of_getElem? hx
      rw [plain_next hx, ih (by omega)]
      have hs := h.no x hxm
      rcases Nat.eq_zero_or_pos k with rfl | hk0
      · rw [List.take_zero, step_nil hs, List.take_add_one, hx]; rfl
      · obtain ⟨y, hy⟩ : ∃ y, p[k - 1]? = some y := ⟨_, List.getElem?_eq_getElem (by omega)⟩
        have e : p.take k = p.take (k - 1) ++ [y] := by
          conv => lhs; rw [show k = k - 1 + 1 by omega, List.take_add_one, hy]
          rfl
        have e2 : p.take (k + 1) = p.take (k - 1) ++ [y] ++ [x] := by rw [List.take_add_one, hx, e]; rfl
        rw [e2, e]
        have ho := h.adj (k - 1) y x hy (by rw [show k - 1 + 1 = k by omega]; exact hx)
        by_cases hn : x.kind = 2 ∨ y.kind ≠ x.kind
        · rw [step_new hs hn]
        · rcases ho with ho | ho | ⟨o1, o2, o3, o4⟩
          · exact absurd (.inl ho) hn
          · exact absurd (.inr ho) hn
          · rw [step_join hs (by omega) (by omega)]
            have hxb : x.bytes = [] := (fine_zero (hf x hxm)).2 (by omega)
            have hx0 : x.n ≠ 0 := fun e => hs (.inr (.inr (.inr ⟨o2, e⟩)))
            have hx1 := (fine_to (hf x hxm)).2.2.2.2.2.1
            unfold joinK
            rw [if_neg (by omega), o4, hxb]
            obtain ⟨yk, yn, yb⟩ := y
            obtain ⟨xk, xn, xb⟩ := x
            simp only at o1 o2 o3 o4 hxb
            subst o3; subst o4; subst hxb
            simp only [List.append_assoc, List.cons_append, List.nil_append]
            rw [show (1048576 : Int) + xn - 1048576 = xn by omega]
  have := go p.length (Nat.le_refl _)
  rwa [List.take_length] at this
/-- All that the law asks of the plain script. -/
theorem plain_all {l : List PlD} (h : chkK l = 0) : chkK (plainK l) = 0 ∧ plainK (plainK l) = plainK l ∧ (plainK l).length ≤ l.length ∧ bsum (plainK l) ≤ bsum l ∧ inB (plainK l) = inB l ∧ endB (plainK l) = endB l ∧ stepsK (plainK l) = stepsK l ∧ ∀ x ∈ plainK l, x.kind ≠ 4 ∧ x.kind ≠ 5 := by
  obtain ⟨h1, h2⟩ := chk_zero h
  obtain ⟨p1, p2, p3⟩ := plain_ok l h2
  obtain ⟨k1, k2, k3⟩ := plain_keeps l h2
  have hN := plain_norm l h2
  refine ⟨chk_fine (by omega) p1, norm_self hN p1, p2, p3, k1, k2, ?_, fun x hx => ⟨fun e => hN.no x hx (.inl e), fun e => hN.no x hx (.inr (.inl e))⟩⟩
  rw [(steps_sum _ p1 (by omega)).1, (steps_sum l h2 (by omega)).1, k3]
end Go.Proofs.YtbjlnllbcgghlaaDoor
