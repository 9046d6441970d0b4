/- Contract of source.At. Condition: the text has at most 100000 bytes. -/
import Derived.Test.YtiachpjejebhjaaWhere
import Derived.Test.YtiachpjejebhjaaPlain3
namespace Go.Proofs.Ytiachpjejebhjaa
open Go.RowKit Go.Shelf
attribute [local go_sem] Oper.semAt_some

/-- Lines that have come so far are a text's first ones. -/
theorem pre_seg {s : ByteArray} {pre : List (Seg s)} {x : Seg s} (h : (pre ++ [x]).map (·.1) <+: segs s.data.toList) : ∃ h : pre.length < (segs s.data.toList).length, (segs s.data.toList)[pre.length] = x.1 := by
  obtain ⟨r, hr⟩ := h
  simp only [List.map_append, List.map_cons, List.map_nil, List.append_assoc, List.singleton_append] at hr
  have hl : pre.length < (segs s.data.toList).length := by rw [← hr]; simp
  refine ⟨hl, ?_⟩
  have e : (segs s.data.toList)[pre.length]? = some x.1 := by
    have h := congrArg (fun L : List (Nat × Nat) => L[pre.length]?) hr
    rw [← h]; simp
  rw [List.getElem?_eq_getElem hl] at e
  exact Option.some.inj e

theorem extract_byte (s : ByteArray) (f t j : Nat) (ht : t ≤ s.size) (hj : j < (s.extract f t).size) : (s.extract f t)[j] = s.data.toList[f + j]'(by have : (s.extract f t).size = t - f := (by simp; omega); show f + j < s.size; omega) := by
  have e : (s.extract f t).data.toList = lineB s.data.toList (f, t) := by
    rw [Lib.extract_data, lineB, List.drop_take]
  have hsz : (s.extract f t).size = t - f := by simp; omega
  have e2 : (s.extract f t)[j] = (s.extract f t).data.toList[j]'hj := rfl
  have e3 := lineB_get s.data.toList (f, t) j (by show f + j < t; omega)
  rw [← e, List.getElem?_eq_getElem (l := (s.extract f t).data.toList) hj, List.getElem?_eq_getElem (by show f + j < s.size; omega)] at e3
  rw [e2]
  exact Option.some.inj e3

/-- How the loop's body may be left: the line is told; the column is found, or it is not there. -/
def AtX (s : ByteArray) (line col : Int) (B : Nat) (c : Code) (pre : List (Seg s)) (W : World) : Prop :=
  ∃ (p : List (Seg s)) (x : Seg s), pre = p ++ [x] ∧ line = (p.length : Int) + 1 ∧
      ((c = .ret ∧ ∃ k : Nat, x.1.1 ≤ k ∧ k ≤ x.1.2 ∧ colFrom s.data.toList x.1.1 k = col ∧ W.cell? ⟨B + 1 + 1, 0, none⟩ = some (.int .i64 k) ∧ W.cell? ⟨B + 1 + 1 + 1, 0, none⟩ = some (.int .i64 0)) ∨
       (c = .exit 0 ∧ (∀ k, x.1.1 ≤ k → k ≤ x.1.2 → colFrom s.data.toList x.1.1 k ≠ col) ∧ W.cell? ⟨B + 1 + 1, 0, none⟩ = some (.int .i64 0) ∧ W.frozen? ⟨B + 1 + 1, 0, none⟩ = false ∧ W.cell? ⟨B + 1 + 1 + 1, 0, none⟩ = some (.int .i64 0) ∧ W.frozen? ⟨B + 1 + 1 + 1, 0, none⟩ = false))

set_option maxRecDepth 100000 in
set_option maxHeartbeats 2000000 in
theorem at_in (s : ByteArray) (hs : s.size ≤ 100000) (line col : Int) (w : World) :
    CallsIn Fence.wide 3 Try.prog 10 #[.string s, .int .i64 line, .int .i64 col] w fun e w' => e = .returned (.tuple #[.int .i64 (atF s.data.toList line col).1, .int .i64 (atF s.data.toList line col).2]) ∧ Below w.heap.size w w' := by
  refine callsIn_of_wp_marks Try.func10 rfl trivial ?_ rfl
  simp only [Try.ntmps10, List.size_toArray, List.length_cons, List.length_nil, Nat.reduceAdd, Nat.reduceSub, Array.replicate_succ, Array.replicate_zero, List.push_toArray, List.append_toArray, List.nil_append, List.cons_append]
  gi_wp2_with (refine ⟨trivial, ?_⟩; gi_at_call 19; refine (lines_in _ s _).mono ?_; rintro e w' ⟨rfl, rfl⟩)
  obtain ⟨W0, hW0⟩ : ∃ W0, (((((w.alloc (.cells #[.int .i64 line] 3)).alloc (.cells #[.int .i64 col] 3)).alloc (.cells #[.int .i64 0] 3)).alloc (.cells #[.int .i64 0] 27)).alloc (.cells #[.int .i64 0] 3)).alloc (.cells #[.string s] 9) = W0 := ⟨_, rfl⟩
  have hsz : W0.heap.size = w.heap.size + 6 := by rw [← hW0]; simp
  have hbel : Below w.heap.size w W0 := by
    rw [← hW0]
    exact ((((((Below.refl _ w).alloc (Nat.le_refl _) _).alloc (by simp) _).alloc (by simp; omega) _).alloc (by simp; omega) _).alloc (by simp; omega) _).alloc (by simp; omega) _
  have c0 : W0.cell? ⟨w.heap.size, 0, none⟩ = some (.int .i64 line) := by rw [← hW0]; simp [go_sem]
  have c1 : W0.cell? ⟨w.heap.size + 1, 0, none⟩ = some (.int .i64 col) := by rw [← hW0]; simp [go_sem]
  have c2 : W0.cell? ⟨w.heap.size + 1 + 1, 0, none⟩ = some (.int .i64 0) := by rw [← hW0]; simp [go_sem]
  have c3 : W0.cell? ⟨w.heap.size + 1 + 1 + 1, 0, none⟩ = some (.int .i64 0) := by rw [← hW0]; simp [go_sem]
  have c4 : W0.cell? ⟨w.heap.size + 1 + 1 + 1 + 1, 0, none⟩ = some (.int .i64 0) := by rw [← hW0]; simp [go_sem]
  have c5 : W0.cell? ⟨w.heap.size + 1 + 1 + 1 + 1 + 1, 0, none⟩ = some (.string s) := by rw [← hW0]; simp [go_sem]
  have f2 : W0.frozen? ⟨w.heap.size + 1 + 1, 0, none⟩ = false := by rw [← hW0]; simp [go_sem]
  have f3 : W0.frozen? ⟨w.heap.size + 1 + 1 + 1, 0, none⟩ = false := by rw [← hW0]; simp [go_sem]
  have f4 : W0.frozen? ⟨w.heap.size + 1 + 1 + 1 + 1, 0, none⟩ = false := by rw [← hW0]; simp [go_sem]
  rw [hW0]
  clear hW0
  have hl0 : s.data.toList.length = s.size := rfl
  apply wpIn_rangeFunc_ownF (F := Fence.wide) rfl (by omega) (gf := 22) (lb := #[.pointer (some ⟨w.heap.size + 1 + 1 + 1 + 1 + 1, 0, none⟩)]) rfl trivial (enters_of Try.func22 (by kernel_rfl) rfl)
    (lines_stops _ (by omega) (w.heap.size + 1 + 1 + 1 + 1 + 1) s hs W0 (by omega) c5) keepsBox_t (fun W l o o' _ h ho _ => keepsBox_b W l o o' h ho) (Below.refl _ _) (fun _ => rfl)
    (fun pre W => (W.cell? ⟨w.heap.size, 0, none⟩ = some (.int .i64 line) ∧ W.cell? ⟨w.heap.size + 1, 0, none⟩ = some (.int .i64 col) ∧ W.cell? ⟨w.heap.size + 1 + 1, 0, none⟩ = some (.int .i64 0) ∧ W.frozen? ⟨w.heap.size + 1 + 1, 0, none⟩ = false ∧
      W.cell? ⟨w.heap.size + 1 + 1 + 1, 0, none⟩ = some (.int .i64 0) ∧ W.frozen? ⟨w.heap.size + 1 + 1 + 1, 0, none⟩ = false ∧ W.cell? ⟨w.heap.size + 1 + 1 + 1 + 1, 0, none⟩ = some (.int .i64 (pre.length : Nat)) ∧ W.frozen? ⟨w.heap.size + 1 + 1 + 1 + 1, 0, none⟩ = false ∧ ¬ (1 ≤ line ∧ line ≤ (pre.length : Int))) ∧ Below w.heap.size w W)
    (fun c pre W => AtX s line col w.heap.size c pre W ∧ Below w.heap.size w W)
    (OwnFrom.and (Own.from (fun s A B row hs hg hr => by
      obtain ⟨h1, h2, h3, h4, h5, h6, h7, h8, h9⟩ := hs
      exact ⟨cell_kept h1 hg hr, cell_kept h2 hg hr, cell_kept h3 hg hr, (frozen_kept h3 hg hr).trans h4, cell_kept h5 hg hr, (frozen_kept h5 hg hr).trans h6, cell_kept h7 hg hr, (frozen_kept h7 hg hr).trans h8, h9⟩) _) (ownFrom_below (Nat.le_refl _) (by omega)))
    (fun c => OwnFrom.and (Own.from (fun s A B row hs hg hr => by
      unfold AtX at hs ⊢
      obtain ⟨p, x, h1, h2, h3⟩ := hs
      rcases h3 with ⟨h3, k, h4, h5, h6, h7, h8⟩ | ⟨h3, h4, h5, h6, h7, h8⟩
      · exact ⟨p, x, h1, h2, .inl ⟨h3, k, h4, h5, h6, cell_kept h7 hg hr, cell_kept h8 hg hr⟩⟩
      · exact ⟨p, x, h1, h2, .inr ⟨h3, h4, cell_kept h5 hg hr, (frozen_kept h5 hg hr).trans h6, cell_kept h7 hg hr, (frozen_kept h7 hg hr).trans h8⟩⟩) _) (ownFrom_below (Nat.le_refl _) (by omega)))
    ⟨⟨c0, c1, c2, f2, c3, f3, c4, f4, by simp; omega⟩, hbel⟩
  case hassign =>
    intro l x W K hK
    gi_wp2
    exact hK
  case hbody =>
    rintro l pre x W ⟨⟨d0, d1, d2, g2, d3, g3, d4, g4, hp⟩, hB⟩ hlen
    obtain ⟨hx1, hx2⟩ := seg_in x
    obtain ⟨⟨f, t⟩, hx⟩ := x
    simp only at hx1 hx2 ⊢
    have hlen' : pre.length ≤ 100001 := by have := segs_len s.data.toList; omega
    by_cases hln : line = (pre.length : Int) + 1
    · have hb : ((((pre.length : Int) + 1) != line) = false) := by rw [hln]; simp
      have Hln := Lib.hid hln; clear hln hp
      gi_wp2
      gi_loop [11, 12] (fun c i => ∃ (j : Nat) (cc : Int), i = .int .i64 j ∧ j ≤ t - f + 1 ∧ c = .int .i64 cc ∧ (j ≤ t - f → cc = colFrom s.data.toList f (f + j)) ∧ ∀ k, f ≤ k → k < f + j → colFrom s.data.toList f k ≠ col) (fun _ i => t - f + 1 - (intOf i).toNat)
      case atStart => exact ⟨0, 1, rfl, Nat.zero_le _, rfl, fun _ => by rw [Nat.add_zero, colFrom_self _ _ _ (Nat.le_refl _)], fun k h1 h2 => by omega⟩
      case round =>
        obtain ⟨j, cc, rfl, hj, rfl, hcc, hno⟩ := hrel
        by_cases hjl : j ≤ t - f
        · obtain rfl := hcc hjl
          have hcol := colFrom_bd s.data.toList f (f + j) (by omega)
          have hcol1 := hcol.1
          have hcol2 : colFrom s.data.toList f (f + j) ≤ 1000000 := by omega
          clear hcol
          by_cases hc : colFrom s.data.toList f (f + j) = col
          · have hcb : (colFrom s.data.toList f (f + j) == col) = true := by rw [beq_iff_eq]; exact hc
            have Hc := Lib.hid hc; clear hc hcc
            gi_wp2
            refine ⟨((KeepsOthers.setCell _ _ _).trans (KeepsOthers.setCell _ _ _)).trans (KeepsOthers.setCell _ _ _), ⟨?_, ((hB.setCell (by simp; omega) _).setCell (by simp; omega) _).setCell (by simp; omega) _⟩⟩
            unfold AtX
            refine ⟨pre, ⟨(f, t), hx⟩, rfl, Hln.out, .inl ⟨rfl, f + j, by simp, by simp; omega, Hc.out, ?_, ?_⟩⟩
            · simp [go_sem, d2]
            · simp [go_sem, d3]
          · have hcb : (colFrom s.data.toList f (f + j) == col) = false := by rw [beq_eq_false_iff_ne]; exact hc
            have Hc := Lib.hid hc; clear hc hcc
            by_cases hjt : j < t - f
            · have hsz : (s.extract f t).size = t - f := by simp; omega
              have hjs : j < (s.extract f t).size := by omega
              gi_wp2_with (refine ⟨trivial, ?_⟩; gi_at_call 20; refine (CallsIn.inRound l (callsIn_wide.2 (next_any _ _ _ hcol1 hcol2))).mono ?_; rintro e w' ⟨rfl, rfl⟩)
              go_round
              case rel => exact ⟨j + 1, _, by go_num, by omega, rfl, fun _ => by rw [show f + (j + 1) = f + j + 1 from rfl, colFrom_succ _ _ _ (by omega) (by omega), extract_byte s f t j hx2 hjs], fun k h1 h2 => by
                by_cases e : k = f + j
                · rw [e]; exact Hc.out
                · exact hno k h1 (by omega)⟩
              case measure => simp [intOf]; omega
            · gi_wp2
              go_round
              case rel => exact ⟨j + 1, _, by go_num, by omega, rfl, fun h => by omega, fun k h1 h2 => by
                by_cases e : k = f + j
                · rw [e]; exact Hc.out
                · exact hno k h1 (by omega)⟩
              case measure => simp [intOf]; omega
        · clear hcc
          gi_wp2
          refine ⟨KeepsOthers.setCell _ _ _, ⟨?_, hB.setCell (by simp; omega) _⟩⟩
          unfold AtX
          refine ⟨pre, ⟨(f, t), hx⟩, rfl, Hln.out, .inr ⟨rfl, fun k h1 h2 => hno k h1 (by simp only at h2; omega), ?_, ?_, ?_, ?_⟩⟩
          · simp [go_sem, d2]
          · simp [go_sem, g2]
          · simp [go_sem, d3]
          · simp [go_sem, g3]
    · have hb : ((((pre.length : Int) + 1) != line) = true) := by rw [bne_iff_ne]; omega
      gi_wp2
      refine ⟨KeepsOthers.setCell _ _ _, fun v hv => ?_, ⟨⟨?_, ?_, ?_, ?_, ?_, ?_, ?_, ?_, ?_⟩, hB.setCell (by simp; omega) _⟩⟩
      · rw [World.cell?_setCell_other _ _ _ _ (by simp)]; exact hv
      · simp [go_sem, d0]
      · simp [go_sem, d1]
      · simp [go_sem, d2]
      · simp [go_sem, g2]
      · simp [go_sem, d3]
      · simp [go_sem, g3]
      · simp [go_sem, d4]
      · simp [go_sem, g4]
      · simp; omega
  case hdone =>
    rintro D ys W hD hys ⟨⟨d0, d1, d2, g2, d3, g3, d4, g4, hp⟩, hB⟩ hK
    have hN : ys.length = (segs s.data.toList).length := by rw [← hys]; simp
    have hres : atF s.data.toList line col = (0, 2) := atF_out _ _ _ (by omega)
    have Hres := Lib.hid hres
    clear hres hN hys hp
    gi_wp2
    generalize hWF : (W.setCell ⟨w.heap.size + 1 + 1, 0, none⟩ (.int .i64 0)).setCell ⟨w.heap.size + 1 + 1 + 1, 0, none⟩ (.int .i64 2) = WF
    have q2 : WF.cell? ⟨w.heap.size + 1 + 1, 0, none⟩ = some (.int .i64 0) := by rw [← hWF]; simp [go_sem, d2]
    have q3 : WF.cell? ⟨w.heap.size + 1 + 1 + 1, 0, none⟩ = some (.int .i64 2) := by rw [← hWF]; simp [go_sem, d3]
    have hKF : WF.heap[D]? = some (.deferred (some [])) := by rw [← hWF]; exact ((KeepsOthers.setCell _ _ _).trans (KeepsOthers.setCell _ _ _)).same D _ hK rfl
    have hBF : Below w.heap.size w WF := by rw [← hWF]; exact (hB.setCell (by simp; omega) _).setCell (by simp; omega) _
    clear hWF
    refine ⟨by simp, .inl ⟨_, _, rfl, run_takeDeferred hKF, ?_⟩⟩
    have r2 := cell_kept q2 (grownBy_putObj' _ D (.deferred none)) (fun r e => by cases e; exact ⟨_, hKF, rfl⟩)
    have r3 := cell_kept q3 (grownBy_putObj' _ D (.deferred none)) (fun r e => by cases e; exact ⟨_, hKF, rfl⟩)
    refine ⟨.tuple #[.int .i64 0, .int .i64 2], ?_, ?_, hBF.trans (belowK_b (w := w) (Nat.le_refl _) _ D _ _ (by omega) hKF rfl rfl)⟩
    · simp [results, Try.f10, go_sem, r2, r3]
    · rw [Hres.out]
  case hstop =>
    rintro D c pre W hD hpre ⟨hX, hB⟩ hK
    unfold AtX at hX
    obtain ⟨p, x, rfl, hln, hc⟩ := hX
    obtain ⟨hm, hmx⟩ := pre_seg hpre
    rcases hc with ⟨rfl, k, h1, h2, h3, q2, q3⟩ | ⟨rfl, h1, d2, g2, d3, g3⟩
    · have hres : atF s.data.toList line col = ((k : Int), 0) := atF_found _ _ _ p.length hm hln k (by rw [hmx]; exact h1) (by rw [hmx]; exact h2) (by rw [hmx]; exact h3)
      have Hres := Lib.hid hres
      clear hres h3 hln hmx hpre
      gi_wp2
      refine ⟨by simp, .inl ⟨_, _, rfl, run_takeDeferred hK, ?_⟩⟩
      have r2 := cell_kept q2 (grownBy_putObj' _ D (.deferred none)) (fun r e => by cases e; exact ⟨_, hK, rfl⟩)
      have r3 := cell_kept q3 (grownBy_putObj' _ D (.deferred none)) (fun r e => by cases e; exact ⟨_, hK, rfl⟩)
      refine ⟨.tuple #[.int .i64 k, .int .i64 0], ?_, ?_, hB.trans (belowK_b (w := w) (Nat.le_refl _) _ D _ _ (by omega) hK rfl rfl)⟩
      · simp [results, Try.f10, go_sem, r2, r3]
      · rw [Hres.out]
    · have hres : atF s.data.toList line col = (0, 2) := atF_miss _ _ _ p.length hm hln (fun k a b => by rw [hmx] at a b ⊢; exact h1 k a b)
      have Hres := Lib.hid hres
      clear hres h1 hln hmx hpre
      gi_wp2
      generalize hWF : (W.setCell ⟨w.heap.size + 1 + 1, 0, none⟩ (.int .i64 0)).setCell ⟨w.heap.size + 1 + 1 + 1, 0, none⟩ (.int .i64 2) = WF
      have q2 : WF.cell? ⟨w.heap.size + 1 + 1, 0, none⟩ = some (.int .i64 0) := by rw [← hWF]; simp [go_sem, d2]
      have q3 : WF.cell? ⟨w.heap.size + 1 + 1 + 1, 0, none⟩ = some (.int .i64 2) := by rw [← hWF]; simp [go_sem, d3]
      have hKF : WF.heap[D]? = some (.deferred (some [])) := by rw [← hWF]; exact ((KeepsOthers.setCell _ _ _).trans (KeepsOthers.setCell _ _ _)).same D _ hK rfl
      have hBF : Below w.heap.size w WF := by rw [← hWF]; exact (hB.setCell (by simp; omega) _).setCell (by simp; omega) _
      clear hWF
      refine ⟨by simp, .inl ⟨_, _, rfl, run_takeDeferred hKF, ?_⟩⟩
      have r2 := cell_kept q2 (grownBy_putObj' _ D (.deferred none)) (fun r e => by cases e; exact ⟨_, hKF, rfl⟩)
      have r3 := cell_kept q3 (grownBy_putObj' _ D (.deferred none)) (fun r e => by cases e; exact ⟨_, hKF, rfl⟩)
      refine ⟨.tuple #[.int .i64 0, .int .i64 2], ?_, ?_, hBF.trans (belowK_b (w := w) (Nat.le_refl _) _ D _ _ (by omega) hKF rfl rfl)⟩
      · simp [results, Try.f10, go_sem, r2, r3]
      · rw [Hres.out]

theorem at_any (s : ByteArray) (hs : s.size ≤ 100000) (line col : Int) (w : World) :
    Calls Try.prog 10 #[.string s, .int .i64 line, .int .i64 col] w fun e w' => e = .returned (.tuple #[.int .i64 (atF s.data.toList line col).1, .int .i64 (atF s.data.toList line col).2]) ∧ Below w.heap.size w w' :=
  (callsIn_wide (n := 3)).1 (at_in s hs line col w)

end Go.Proofs.Ytiachpjejebhjaa
