/- The shape of some words, in plain lists: words with their pointers' numbers; objects one behind the other. -/
import Derived.Test.YtlmljommgmbckaaHsA
namespace Go.Proofs.Ytlmljommgmbckaa
open Go.RowKit

def derefS (H : HS) (x : Wd) : Wd := if x.1 = 5 ∧ (headOf H x.2).k = 7 then H.word (x.2.toNat + 1) else x
def wordS (H : HS) (l : List Int) (x : Wd) : Wd × List Int :=
  if (derefS H x).1 = 5 then
    if (derefS H x).2 ∈ l then ((5, (l.idxOf (derefS H x).2 : Int) + 1), l) else ((5, (l.length : Int) + 1), l ++ [(derefS H x).2])
  else (derefS H x, l)
def allS (H : HS) : List Int → List Wd → List Wd × List Int
  | l, [] => ([], l)
  | l, x :: xs => ((wordS H l x).1 :: (allS H (wordS H l x).2 xs).1, (allS H (wordS H l x).2 xs).2)
def objWs (H : HS) (a : Int) : List Wd := (H.ws.drop (a.toNat + 1)).take (headOf H a).s.toNat
structure ObjS where
  k : Int
  i : Int
  ws : List Wd
def bfsN (H : HS) (rs : List Wd) : Nat → List Int × List ObjS
  | 0 => ((allS H [] rs).2, [⟨0, 0, (allS H [] rs).1⟩])
  | n + 1 => match (bfsN H rs n).1[n]? with
    | some a => ((allS H (bfsN H rs n).1 (objWs H a)).2, (bfsN H rs n).2 ++ [⟨(headOf H a).k, (headOf H a).i, (allS H (bfsN H rs n).1 (objWs H a)).1⟩])
    | none => bfsN H rs n

theorem allS_snoc (H : HS) (x : Wd) (xs : List Wd) : ∀ l, allS H l (xs ++ [x]) = ((allS H l xs).1 ++ [(wordS H (allS H l xs).2 x).1], (wordS H (allS H l xs).2 x).2) := by
  induction xs with
  | nil => intro l; rfl
  | cons y ys ih => intro l; simp only [List.cons_append, allS, ih]
theorem allS_len (H : HS) (xs : List Wd) : ∀ l, (allS H l xs).1.length = xs.length := by
  induction xs with
  | nil => intro l; rfl
  | cons y ys ih => intro l; simp only [allS, List.length_cons, ih]
theorem bfs_succ {H : HS} {rs : List Wd} {n : Nat} {a : Int} (h : (bfsN H rs n).1[n]? = some a) :
    bfsN H rs (n + 1) = ((allS H (bfsN H rs n).1 (objWs H a)).2, (bfsN H rs n).2 ++ [⟨(headOf H a).k, (headOf H a).i, (allS H (bfsN H rs n).1 (objWs H a)).1⟩]) := by
  rw [bfsN, h]

/-- Objects that have numbers: live ones, each once, none of them an Ind. -/
def FineL (H : HS) (l : List Int) : Prop := l.Nodup ∧ ∀ a ∈ l, a ∈ H.st ∧ (headOf H a).k ≠ 7

theorem deref_fine {H : HS} {gl : List Wd} (S : Sound H gl) {x : Wd} (h : standsK H x.1 x.2 = true) : standsK H (derefS H x).1 (derefS H x).2 = true ∧ ((derefS H x).1 = 5 → (derefS H x).2 ∈ H.st ∧ (headOf H (derefS H x).2).k ≠ 7) := by
  unfold derefS
  by_cases c : x.1 = 5 ∧ (headOf H x.2).k = 7
  · rw [if_pos c]
    rw [c.1] at h
    have hm := S.mark h
    have hv := S.ind _ hm c.2
    refine ⟨value_stands hv, fun k5 => ?_⟩
    have hv2 := hv
    rw [k5] at hv2
    have := value_low hv2
    exact ⟨S.heads _ this.1, by omega⟩
  · rw [if_neg c]
    refine ⟨h, fun k5 => ?_⟩
    rw [k5] at h
    exact ⟨S.mark h, fun q => c ⟨k5, q⟩⟩
theorem wordS_fine {H : HS} {gl : List Wd} (S : Sound H gl) {x : Wd} (h : standsK H x.1 x.2 = true) {l : List Int} (hl : FineL H l) : FineL H (wordS H l x).2 := by
  have hd := deref_fine S h
  unfold wordS
  split
  · rename_i k5
    split
    · exact hl
    · rename_i hn
      refine ⟨?_, fun a ha => ?_⟩
      · rw [List.nodup_append]
        exact ⟨hl.1, by simp, fun a ha b hb => by simp at hb; rintro rfl; subst hb; exact hn ha⟩
      · rcases List.mem_append.1 ha with q | q
        · exact hl.2 a q
        · simp at q; subst q; exact hd.2 k5
  · exact hl
theorem allS_fine {H : HS} {gl : List Wd} (S : Sound H gl) {xs : List Wd} (h : ∀ x ∈ xs, standsK H x.1 x.2 = true) : ∀ {l : List Int}, FineL H l → FineL H (allS H l xs).2 := by
  induction xs with
  | nil => intro l hl; exact hl
  | cons y ys ih => intro l hl; exact ih (fun x hx => h x (List.mem_cons_of_mem _ hx)) (wordS_fine S (h y List.mem_cons_self) hl)
theorem objWs_stands {H : HS} {gl : List Wd} (S : Sound H gl) {a : Int} (ha : a ∈ H.st) (hN : H.top ≤ H.ws.length) : ∀ x ∈ objWs H a, standsK H x.1 x.2 = true := by
  obtain ⟨q1, q2, q3, q4⟩ := S.good.at_ a ha
  intro x hx
  obtain ⟨j, hj, rfl⟩ := List.getElem_of_mem hx
  unfold objWs at hj
  rw [List.length_take, List.length_drop] at hj
  have e : (objWs H a)[j] = H.word (a.toNat + 1 + j) := by
    unfold objWs HS.word
    rw [List.getElem_take, List.getElem_drop, List.getD_eq_getElem?_getD, List.getElem?_eq_getElem (by omega)]
    rfl
  rw [e]
  exact S.ins a ha _ (by omega) (by omega)
theorem bfs_fine {H : HS} {gl : List Wd} (S : Sound H gl) (hN : H.top ≤ H.ws.length) {rs : List Wd} (h : ∀ x ∈ rs, standsK H x.1 x.2 = true) : ∀ n, FineL H (bfsN H rs n).1 := by
  intro n
  induction n with
  | zero => exact allS_fine S h ⟨List.nodup_nil, fun a ha => by simp at ha⟩
  | succ n ih =>
    rw [bfsN]
    split
    · rename_i a ha
      exact allS_fine S (objWs_stands S (ih.2 a (List.mem_of_getElem? ha)).1 hN) ih
    · exact ih
theorem nodup_len : ∀ (n : Nat) (l : List Int), l.Nodup → (∀ a ∈ l, 0 ≤ a ∧ a < n) → l.length ≤ n := by
  intro n
  induction n with
  | zero =>
    intro l _ h
    cases l with
    | nil => exact Nat.le_refl _
    | cons a _ => have := h a List.mem_cons_self; omega
  | succ n ih =>
    intro l hn h
    by_cases hm : (n : Int) ∈ l
    · have h1 := ih (l.erase n) (hn.erase _) (fun a ha => by
        have h2 := (hn.mem_erase_iff).1 ha
        have h3 := h a h2.2
        have h4 := h2.1
        omega)
      rw [List.length_erase_of_mem hm] at h1
      omega
    · have := ih l hn (fun a ha => by
        have h3 := h a ha
        have : a ≠ (n : Int) := fun e => hm (e ▸ ha)
        omega)
      omega
theorem fine_len {H : HS} {gl : List Wd} (S : Sound H gl) {l : List Int} (h : FineL H l) : l.length ≤ H.top :=
  nodup_len H.top l h.1 fun a ha => by have := S.good.at_ a (h.2 a ha).1; omega
theorem allS_grows (H : HS) (xs : List Wd) : ∀ l, ∃ r, (allS H l xs).2 = l ++ r := by
  induction xs with
  | nil => intro l; exact ⟨[], by simp [allS]⟩
  | cons y ys ih =>
    intro l
    have h1 : ∃ r, (wordS H l y).2 = l ++ r := by
      unfold wordS
      split
      · split
        · exact ⟨[], by simp⟩
        · exact ⟨_, rfl⟩
      · exact ⟨[], by simp⟩
    obtain ⟨r, hr⟩ := h1
    obtain ⟨r2, hr2⟩ := ih (wordS H l y).2
    refine ⟨r ++ r2, ?_⟩
    show (allS H (wordS H l y).2 ys).2 = _
    rw [hr2, hr, List.append_assoc]
theorem bfs_out (H : HS) (rs : List Wd) : ∀ n, ∃ r, (bfsN H rs n).2 = ⟨0, 0, (allS H [] rs).1⟩ :: r := by
  intro n
  induction n with
  | zero => exact ⟨[], rfl⟩
  | succ n ih =>
    obtain ⟨r, hr⟩ := ih
    rw [bfsN]
    split
    · exact ⟨r ++ _, by simp only [hr]; rfl⟩
    · exact ⟨r, hr⟩

end Go.Proofs.Ytlmljommgmbckaa
