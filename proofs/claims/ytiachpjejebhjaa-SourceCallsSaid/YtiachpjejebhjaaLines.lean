/- Contract of source.Lines: a slice of the text's lines, in memory of its own. Condition: the text has at most 100000 bytes. -/
import Derived.RangeFuncBox
import Derived.Maps.AppendAt
import Derived.Test.YtiachpjejebhjaaWhere
namespace Go.Proofs.Ytiachpjejebhjaa
open Go.RowKit Go.Shelf
attribute [local go_sem] Oper.semAt_some

theorem infoStr : (Try.prog.info? 9).map (fun i => (i.zero, i.size, i.bytes)) = some (some (.string ByteArray.empty), 1, 16) := by kernel_rfl

theorem ownsRow_low {W : World} {b b' : Nat} {e : TypeId} {size : Nat} {v : Value} {n : Nat} {xs : List Value} (h : W.ownsRow b e size v n xs) (hb : b' ≤ b) : W.ownsRow b' e size v n xs := by
  obtain ⟨h1, h2⟩ := h
  refine ⟨h1, ?_⟩
  rcases h2 with h2 | ⟨g, cap, cur, hv, hg, r⟩
  · exact .inl h2
  · exact .inr ⟨g, cap, cur, hv, by omega, r⟩

theorem ownsRow_block {W : World} {b : Nat} {e : TypeId} {size : Nat} {v : Value} {n : Nat} {xs : List Value} (h : W.ownsRow b e size v n xs) {k : Nat} (hk : k < b) : some k ≠ v.ownBlock := by
  rcases h.2 with ⟨rfl, _⟩ | ⟨g, cap, cur, rfl, hg, _⟩
  · simp [Value.ownBlock]
  · simp [Value.ownBlock]; omega

abbrev encL (s : ByteArray) (x : Nat × Nat) : Value := .string (s.extract x.1 x.2)

set_option maxRecDepth 100000 in
set_option maxHeartbeats 2000000 in
theorem Lines_in (s : ByteArray) (hs : s.size ≤ 100000) (w : World) :
    CallsIn Fence.wide 3 Try.prog 8 #[.string s] w fun e W' => ∃ v, e = .returned v ∧ W'.ownsRow w.heap.size 9 1 v (segs s.data.toList).length ((segs s.data.toList).map (encL s)) ∧ Below w.heap.size w W' := by
  obtain ⟨i0, hi, hz0, hz1, hz2⟩ := info_parts infoStr
  refine callsIn_of_wp_marks Try.func8 rfl trivial ?_ rfl
  simp only [Try.ntmps8, List.size_toArray, List.length_cons, List.length_nil, Nat.reduceAdd, Nat.reduceSub, Array.replicate_succ, Array.replicate_zero, List.push_toArray, List.append_toArray, List.nil_append, List.cons_append]
  gi_wp2_with (refine ⟨trivial, ?_⟩; gi_at_call 19; refine (lines_in _ s _).mono ?_; rintro e w' ⟨rfl, rfl⟩)
  have bO := Boxed.new w 23 (.slice none 0 0)
  have bN := Boxed.new (w.alloc (.cells #[.slice none 0 0] 23)) 9 (.string s)
  rw [World.size_alloc] at bN
  have hB0 : Below w.heap.size w ((w.alloc (.cells #[.slice none 0 0] 23)).alloc (.cells #[.string s] 9)) := ((Below.refl _ w).alloc (Nat.le_refl _) _).alloc (by simp) _
  apply wpIn_rangeFunc_ownF (F := Fence.wide) rfl (by omega) (gf := 22) (lb := #[.pointer (some ⟨w.heap.size + 1, 0, none⟩)]) rfl trivial (enters_of Try.func22 (by kernel_rfl) rfl)
    (lines_stops _ (by omega) (w.heap.size + 1) s hs _ (by simp) bN.cell) keepsBox_t (fun W l o o' _ h ho _ => keepsBox_b W l o o' h ho) (Below.refl _ _) (fun _ => rfl)
    (fun pre W => (∃ v, Boxed W w.heap.size 23 v ∧ W.ownsRow (w.heap.size + 2) 9 1 v pre.length (pre.map fun x => encL s x.1) ∧ w.heap.size + 2 ≤ W.heap.size) ∧ Below w.heap.size w W)
    (fun _ _ _ => False)
    (OwnFrom.and (Own.from (by
      rintro st A B row ⟨v, h1, h2, h3⟩ hg hr
      have hO : Own (fun pre W => ∃ v, Boxed W w.heap.size 23 v ∧ W.ownsRow (w.heap.size + 2) 9 1 v (List.length (α := Seg s) pre) (List.map (fun x => encL s x.1) pre) ∧ True) := holdsRow_own (w.heap.size + 2) w.heap.size 23 9 1 _ _ (fun _ _ => True)
      have hQ := hO st A B row ⟨v, h1, h2, trivial⟩ hg hr
      obtain ⟨v', g1, g2, _⟩ := hQ
      exact ⟨v', g1, g2, Nat.le_trans h3 hg.size⟩) _) (ownFrom_below (Nat.le_refl _) (by simp; omega)))
    (fun _ _ _ _ _ hs _ _ => hs)
    ⟨⟨_, bO.alloc _, World.ownsRow_nil _ _ _ _, by simp⟩, hB0⟩
  case hassign =>
    intro l x W K hK
    gi_wp2
    exact hK
  case hbody =>
    rintro l pre x W ⟨⟨v, hv, hrow, hsz⟩, hB⟩ hlt
    have hc := hv.cell
    have hl0 : s.data.toList.length = s.size := rfl
    have hlen := segs_len s.data.toList
    have hpl : pre.length ≤ 100001 := by omega
    gi_wp2_with (gi_at_builtin; refine wpListIn_append_own _ rfl _ _ 23 rfl (w.heap.size + 2) 9 i0 (.string ByteArray.empty) 1 16 Try.underlying23 hi hz0 hz1 hz2 rfl (by decide) _ _ _ rfl (hrow.alloc _) ⟨W.heap.size, 0, none⟩ 1 1 [encL s x.1] rfl rfl (cell_one_new _ _ _) (by simp [Value.oneCell']) (by unfold maxLen; omega) (by omega) (by simp; omega) ?_; intro v' w1 hown' hgrow _; obtain ⟨g', cap', hv'⟩ := ownsRow_succ hown'; subst hv'; have hl1 := ownsRow_low hrow (b' := w.heap.size) (by omega); have hl2 := ownsRow_low hown' (b' := w.heap.size) (by omega); have happ := Boxed.appended (tmp := .cells #[encL s x.1] 9) hv (by decide) hl1 hB.size (Nat.le_refl _) hl2 hgrow; obtain ⟨hv1, hv2, hr2, hk2, hb2⟩ := happ; have hc1 := hv1.cell; have hf1 := hv1.frozen)
    refine ⟨hk2, ?_, ⟨⟨_, hv2, ?_, ?_⟩, hB.trans hb2⟩⟩
    · intro u hu
      have h1 : ((W.alloc (.cells #[encL s x.1] 9)).cell? ⟨w.heap.size + 1, 0, none⟩) = some u := by rw [World.cell?_of_block (w := W) (Below.heap_alloc _ _ _ (by simp; omega))]; exact hu
      have h2 := World.cell?_of_block (a := ⟨w.heap.size + 1, 0, none⟩) (hgrow.block (w.heap.size + 1) (by simp; omega) (ownsRow_block hrow (by omega)))
      rw [World.cell?_setCell_other _ _ _ _ (by simp), h2]; exact h1
    · have hk3 := hown'.kept (grownBy_setCell' w1 w.heap.size (.slice (some ⟨g', 0, none⟩) (pre.length + 1) cap')) (.inr (ownsRow_block hown' (by omega)).symm)
      simpa using hk3
    · have h1 := hgrow.size; simp at h1; simp; omega
  case hdone =>
    rintro D ys W hD hys ⟨⟨v, hv, hrow, _⟩, hB⟩ hK
    have hc := hv.cell
    gi_wp2
    refine ⟨by simp, .inl ⟨_, _, rfl, run_takeDeferred hK, ?_⟩⟩
    have e1 : ys.length = (segs s.data.toList).length := by rw [← hys]; simp
    have e2 : (ys.map fun x => encL s x.1) = (segs s.data.toList).map (encL s) := by
      have h := congrArg (List.map (encL s)) hys
      rw [List.map_map] at h; exact h
    rw [e1, e2] at hrow
    exact ⟨_, results_tmp rfl _ _ _, v, rfl, ownsRow_low (ownsRow_putObj hrow _ hK rfl) (by omega), hB.trans (belowK_b (w := w) (Nat.le_refl _) W D _ _ (by simp at hD; omega) hK rfl rfl)⟩
  case hstop =>
    rintro D c pre W _ _ h _
    exact h.elim

end Go.Proofs.Ytiachpjejebhjaa
