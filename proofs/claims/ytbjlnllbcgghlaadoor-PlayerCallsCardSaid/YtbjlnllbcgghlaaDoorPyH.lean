/- The words of a line. -/
import Derived.Test.YtbjlnllbcgghlaaDoorPyG
import Derived.Lib.SplitLaws
import Derived.Lib.IndexBytes
namespace Go.Proofs.YtbjlnllbcgghlaaDoor
open Go.RowKit Go.Shelf
set_option linter.unusedSimpArgs false
set_option linter.unusedVariables false

theorem idx_at : ∀ (w r : List UInt8), (32 : UInt8) ∉ w → Lib.index (w ++ 32 :: r) [32] = (w.length : Int)
  | [], r, _ => by simp [Lib.index, List.isPrefixOf]
  | c :: w, r, h => by
    simp only [List.mem_cons, not_or] at h
    rw [List.cons_append, Lib.index, idx_at w r h.2]
    have hp : ([32] : List UInt8).isPrefixOf (c :: (w ++ 32 :: r)) = false := by simp [List.isPrefixOf, h.1]
    rw [hp]
    simp only [Bool.false_eq_true, if_false, List.length_cons]
    rw [if_neg (by simp <;> omega)]
    omega
theorem split_join : ∀ (rest : List (List UInt8)) (w0 : List UInt8), (32 : UInt8) ∉ w0 → (∀ x ∈ rest, (32 : UInt8) ∉ x) → Lib.splitK [32] 0 rest.length (w0 ++ rest.flatMap (fun x => 32 :: x)) = w0 :: rest
  | [], w0, _, _ => by simp [Lib.splitK]
  | x :: rest, w0, h0, hr => by
    rw [List.flatMap_cons, List.cons_append, List.length_cons, Lib.splitK, idx_at _ _ h0, if_neg (by simp <;> omega)]
    have e1 : ((w0.length : Int)).toNat = w0.length := by omega
    rw [e1, Nat.add_zero, List.take_left' rfl, show w0 ++ 32 :: (x ++ rest.flatMap (fun x => 32 :: x)) = (w0 ++ [32]) ++ (x ++ rest.flatMap (fun x => 32 :: x)) by simp, List.drop_left' (by simp)]
    rw [split_join rest x (hr x (List.mem_cons_self ..)) (fun y hy => hr y (List.mem_cons_of_mem _ hy))]
theorem count_join : ∀ (rest : List (List UInt8)) (w0 : List UInt8), (32 : UInt8) ∉ w0 → (∀ x ∈ rest, (32 : UInt8) ∉ x) → (w0 ++ rest.flatMap (fun x => 32 :: x)).count 32 = rest.length
  | [], w0, h0, _ => by simp [List.count_eq_zero.2 h0]
  | x :: rest, w0, h0, hr => by
    rw [List.count_append, List.count_eq_zero.2 h0, List.flatMap_cons, List.cons_append, List.count_cons_self, count_join rest x (hr x (List.mem_cons_self ..)) (fun y hy => hr y (List.mem_cons_of_mem _ hy)), List.length_cons]
    omega
theorem splitB_size (sep : ByteArray) : ∀ (k : Nat) (s : ByteArray), ∀ x ∈ Lib.splitB sep 0 k s, x.size ≤ s.size
  | 0, s, x, h => by simp [Lib.splitB] at h; subst h; exact Nat.le_refl _
  | k + 1, s, x, h => by
    unfold Lib.splitB at h
    split at h
    · simp at h; subst h; exact Nat.le_refl _
    · rcases List.mem_cons.1 h with rfl | h
      · rw [ByteArray.size_extract]; omega
      · have := splitB_size sep k _ x h
        rw [ByteArray.size_extract] at this
        omega
/-- A line told by its words. -/
def joined (w0 : List UInt8) (rest : List (List UInt8)) : ByteArray := ⟨(w0 ++ rest.flatMap (fun x => 32 :: x)).toArray⟩
def noSp (w0 : List UInt8) (rest : List (List UInt8)) : Prop := (32 : UInt8) ∉ w0 ∧ ∀ x ∈ rest, (32 : UInt8) ∉ x
theorem split_any (s : ByteArray) (w : World) (hs : s.size ≤ 1000000) (hL : LayP w) :
    Calls Tryd.prog 33 #[.string s, .string ⟨#[32]⟩] w fun e w' => ∃ ws : List ByteArray, 1 ≤ ws.length ∧ ws.length ≤ 1000001 ∧ (∀ x ∈ ws, x.size ≤ 1000000) ∧ (∀ w0 rest, noSp w0 rest → s = joined w0 rest → ws = (w0 :: rest).map (fun l => (⟨l.toArray⟩ : ByteArray))) ∧ e = .returned (.slice (some ⟨w.heap.size, 0, none⟩) ws.length ws.length) ∧ Blk w' w.heap.size (ws.map Value.string).toArray ∧ Below w.heap.size w w' := by
  obtain ⟨m, hm⟩ := hL.ml
  refine (Tryd.strings_Split s ⟨#[32]⟩ m w (by omega) hm (by decide)).mono ?_
  rintro e w' ⟨rfl, rfl⟩
  have hc : Lib.countB s ⟨#[32]⟩ ≤ s.size := Lib.countB_le ⟨#[32]⟩ (by decide) s.size s (Nat.le_refl _)
  have hl := Lib.splitB_all ⟨#[32]⟩ (by decide) 0 _ s rfl
  refine ⟨Lib.splitB ⟨#[32]⟩ 0 (Lib.countB s ⟨#[32]⟩) s, by omega, by omega, fun x hx => Nat.le_trans (splitB_size _ _ _ x hx) hs, ?_, by rw [hl], Blk.new _ _ _, (Below.refl _ w).alloc (Nat.le_refl _) _⟩
  rintro w0 rest ⟨h0, hr⟩ rfl
  have hcount : Lib.countB (joined w0 rest) ⟨#[32]⟩ = rest.length := by
    show Lib.count (w0 ++ rest.flatMap (fun x => 32 :: x)) [32] = _
    rw [Lib.count_one, count_join rest w0 h0 hr]
  have hd := Lib.splitB_data ⟨#[32]⟩ 0 rest.length (joined w0 rest)
  rw [show (joined w0 rest).data.toList = w0 ++ rest.flatMap (fun x => 32 :: x) from rfl, show ((⟨#[32]⟩ : ByteArray).data.toList) = [32] from rfl, split_join rest w0 h0 hr] at hd
  rw [hcount, ← hd, List.map_map]
  conv => lhs; rw [← List.map_id (Lib.splitB ⟨#[32]⟩ 0 rest.length (joined w0 rest))]
  refine List.map_congr_left fun x _ => ?_
  simp
/-! The words of a play's line. -/
def wordsK (x : PlD) : List UInt8 × List (List UInt8) := if x.kind = 1 then ([102, 101, 101, 100], x.bytes.map hexK) else if x.kind = 3 then ([114, 117, 110], [Lib.itoa x.n]) else if x.kind = 2 then ([101, 110, 100], []) else if x.kind = 4 then ([109, 105, 110, 111, 114], []) else ([109, 97, 106, 111, 114], [])
theorem digB_sp : ∀ i : Fin 16, digB i.1 ≠ 32 := by decide
theorem hexK_sp (c : UInt8) : (32 : UInt8) ∉ hexK c := by
  have hc := c.toNat_lt
  have h1 := digB_sp ⟨c.toNat / 16, by omega⟩
  have h2 := digB_sp ⟨c.toNat % 16, by omega⟩
  simp only at h1 h2
  unfold hexK
  simp only [List.mem_cons, List.not_mem_nil, or_false, not_or]
  exact ⟨Ne.symm h1, Ne.symm h2⟩
theorem dec_sp (n : Nat) : ∀ c ∈ Lib.decDigits n, 48 ≤ c.toNat ∧ c.toNat ≤ 57 := by
  intro c hc
  obtain ⟨k, hk⟩ := List.getElem?_of_mem hc
  obtain ⟨d, hd⟩ := Lib.digit_of_decFrom _ _ _ (dec_val n) k c hk
  have := Lib.digitVal_eq hd
  exact ⟨this.1, this.2.1⟩
theorem itoa_nat (n : Int) (h : 0 ≤ n) : Lib.itoa n = Lib.decDigits n.toNat := by unfold Lib.itoa; rw [if_neg (by omega)]
theorem words_ok {x : PlD} (h : fineK x = true) : noSp (wordsK x).1 (wordsK x).2 ∧ (⟨(lineK x).toArray⟩ : ByteArray) = joined (wordsK x).1 (wordsK x).2 := by
  obtain ⟨k, n, bs⟩ := x
  rcases fine_kind h with e | e | ⟨e, h0, h1⟩ | e | e <;> (simp only at e; subst e)
  · refine ⟨⟨show (32 : UInt8) ∉ ([102, 101, 101, 100] : List UInt8) by decide, fun y hy => ?_⟩, ?_⟩
    · obtain ⟨c, -, rfl⟩ := List.mem_map.1 hy
      exact hexK_sp c
    · show (⟨_⟩ : ByteArray) = ⟨_⟩
      simp [wordsK, lineK, List.flatMap_map]
  · exact ⟨⟨show (32 : UInt8) ∉ ([101, 110, 100] : List UInt8) by decide, fun y hy => by cases hy⟩, rfl⟩
  · refine ⟨⟨show (32 : UInt8) ∉ ([114, 117, 110] : List UInt8) by decide, fun y hy => ?_⟩, ?_⟩
    · simp [wordsK] at hy
      subst hy
      simp only at h0
      rw [itoa_nat n h0]
      intro hc
      have := dec_sp _ _ hc
      revert this; decide
    · show (⟨_⟩ : ByteArray) = ⟨_⟩
      simp [wordsK, lineK]
  · exact ⟨⟨show (32 : UInt8) ∉ ([109, 105, 110, 111, 114] : List UInt8) by decide, fun y hy => by cases hy⟩, rfl⟩
  · exact ⟨⟨show (32 : UInt8) ∉ ([109, 97, 106, 111, 114] : List UInt8) by decide, fun y hy => by cases hy⟩, rfl⟩
end Go.Proofs.YtbjlnllbcgghlaaDoor
