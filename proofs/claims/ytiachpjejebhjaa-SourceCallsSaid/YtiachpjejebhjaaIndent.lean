/- Contracts of thunkmillref01.Indent and source.Indent. Condition: the text has at most 100000 bytes. -/
import Derived.Test.YtiachpjejebhjaaRefLines
import Derived.Test.YtiachpjejebhjaaAt
namespace Go.Proofs.Ytiachpjejebhjaa
open Go.RowKit Go.Shelf

theorem line_data (s : ByteArray) (x : Nat × Nat) : (s.extract x.1 x.2).data.toList = lineB s.data.toList x := by
  rw [Lib.extract_data, lineB, List.drop_take]

theorem byte_eq (c : UInt8) (n : Nat) (hn : n < 256) : ((c.toNat : Int) = n) ↔ c = UInt8.ofNat n := by
  constructor
  · intro h
    have h' : c.toNat = n := by omega
    rw [← h']; simp
  · rintro rfl
    simp [Nat.mod_eq_of_lt hn]

/-- What an indent's loop keeps. -/
def IndRel (u : ByteArray) (j : Nat) (c : Int) : Prop := j ≤ u.size ∧ 1 ≤ c ∧ c ≤ 8 * j + 1 ∧ indGo 1 u.data.toList = indGo c (u.data.toList.drop j)

theorem indRel_hit {u : ByteArray} {j : Nat} {c : Int} (h : IndRel u j c) (hj : j < u.size) (h1 : u[j] ≠ 32) (h2 : u[j] ≠ 9) : indGo 1 u.data.toList = c := by
  rw [h.2.2.2]; exact indGo_hit c u.data.toList j hj h1 h2
theorem indRel_miss {u : ByteArray} {j : Nat} {c : Int} (h : IndRel u j c) (hj : j < u.size) (h1 : u[j] = 32 ∨ u[j] = 9) : IndRel u (j + 1) (nextC c u[j].toNat) := by
  have := nextC_bd c u[j].toNat
  exact ⟨hj, by have := h.2.1; omega, by have := h.2.2.1; omega, by rw [h.2.2.2]; exact indGo_miss c u.data.toList j hj h1⟩
theorem indRel_end {u : ByteArray} {c : Int} (h : IndRel u u.size c) : indGo 1 u.data.toList = 0 := by
  rw [h.2.2.2]; exact indGo_end c u.data.toList u.size (Nat.le_refl _)

/-- A byte is a blank of two kinds, or none. -/
theorem blank_kinds (c : UInt8) : (c = 32 ∧ ((c.toNat : Int) != 32) = false) ∨ (c = 9 ∧ ((c.toNat : Int) != 32) = true ∧ ((c.toNat : Int) != 9) = false) ∨ (c ≠ 32 ∧ c ≠ 9 ∧ ((c.toNat : Int) != 32) = true ∧ ((c.toNat : Int) != 9) = true) := by
  have a1 := byte_eq c 32 (by omega)
  have a2 := byte_eq c 9 (by omega)
  by_cases h1 : c = 32
  · left; exact ⟨h1, by rw [bne_eq_false_iff_eq]; exact a1.2 h1⟩
  · by_cases h2 : c = 9
    · right; left; exact ⟨h2, by rw [bne_iff_ne]; exact fun h => h1 (a1.1 h), by rw [bne_eq_false_iff_eq]; exact a2.2 h2⟩
    · right; right; exact ⟨h1, h2, by rw [bne_iff_ne]; exact fun h => h1 (a1.1 h), by rw [bne_iff_ne]; exact fun h => h2 (a2.1 h)⟩

set_option maxRecDepth 100000 in
set_option maxHeartbeats 2000000 in
theorem indentR_any (s : ByteArray) (hs : s.size ≤ 100000) (line : Int) (w : World) :
    Calls Try.prog 16 #[.string s, .int .i64 line] w fun e w' => e = .returned (.tuple #[.int .i64 (indentF s.data.toList line).1, .int .i64 (indentF s.data.toList line).2]) ∧ Below w.heap.size w w' := by
  have hl0 : s.data.toList.length = s.size := rfl
  have hN := segs_pos s.data.toList
  by_cases hin : 1 ≤ line ∧ line ≤ (segs s.data.toList).length
  · obtain ⟨m, rfl⟩ : ∃ m : Nat, line = (m : Int) + 1 := ⟨(line - 1).toNat, by omega⟩
    have hm : m < (segs s.data.toList).length := by omega
    have hres := indentF_in s.data.toList _ m hm rfl
    have a2 := (segs_facts s.data.toList m hm).2.1
    generalize hx : (segs s.data.toList)[m] = x at a2 hres
    have Hx := Lib.hid hx
    obtain ⟨u, hu⟩ : ∃ u, s.extract x.1 x.2 = u := ⟨_, rfl⟩
    have hud := line_data s x
    rw [hu] at hud
    rw [← hud] at hres
    have Hres := Lib.hid hres
    have husz : u.size ≤ 100000 := by
      have h := congrArg List.length hud
      rw [lineB_len _ _ a2] at h
      have : u.size = x.2 - x.1 := h
      omega
    have Hu := Lib.hid hu
    clear hres hx hu hud hin
    go_enter Try.func16, Try.ntmps16
    go_wp2_with fail
    refine (LinesR_any s hs w).mono ?_
    rintro e w1 ⟨v, rfl, hown, hb1⟩
    obtain ⟨N, hNe⟩ : ∃ N, (segs s.data.toList).length = N := ⟨_, rfl⟩
    obtain ⟨g, cap, rfl⟩ : ∃ g cap, v = .slice (some ⟨g, 0, none⟩) N cap := by
      rcases hown.2 with ⟨_, h0⟩ | ⟨g, cap, _, rfl, _⟩
      · omega
      · exact ⟨g, cap, by rw [hNe]⟩
    have hcell : w1.cell? ⟨g, m, none⟩ = some (.string u) := by
      have h := hown.cells (g := g) rfl m (encL s x) (by rw [List.getElem?_map, List.getElem?_eq_getElem hm, Hx.out]; rfl)
      have e : encL s x = .string u := by show Value.string (s.extract x.1 x.2) = _; rw [Hu.out]
      rw [e] at h
      cases m with
      | zero => simpa [Addr.add] using h
      | succ m => simpa [Addr.add] using h
    have hmN : m < N := by omega
    have hmB : m ≤ 100001 := by have := segs_len s.data.toList; omega
    have t1 : decide ((m : Int) + 1 < 1) = false := by simp; omega
    have t2 : decide ((N : Int) < (m : Int) + 1) = false := by simp; omega
    clear hown hNe hm hN Hx
    have hsub : (m : Int) + 1 - 1 = (m : Int) := by omega
    go_wp2
    go_loop [8, 9] (fun c i => ∃ (j : Nat) (cc : Int), i = .int .i64 j ∧ c = .int .i64 cc ∧ IndRel u j cc) (fun _ i => u.size - (intOf i).toNat)
    case atStart => exact ⟨0, 1, rfl, rfl, Nat.zero_le _, by omega, by omega, rfl⟩
    case round =>
      obtain ⟨j, cc, rfl, rfl, hr⟩ := hrel
      have r1 := hr.1
      have r2 := hr.2.1
      have r3 : cc ≤ 1000000 := by have := hr.2.2.1; omega
      have Hr := Lib.hid hr
      clear hr
      by_cases hlt : j < u.size
      · rcases blank_kinds u[j] with ⟨c1, c2⟩ | ⟨c1, c2, c3⟩ | ⟨c1, c2, c3, c4⟩
        · have hn := Lib.hid (indRel_miss Hr.out hlt (.inl c1))
          clear c1
          go_wp2_with (go_at_call 21; refine (nextR_any _ _ _ r2 r3).mono ?_; rintro e w' ⟨rfl, rfl⟩)
          go_round
          case rel => exact ⟨j + 1, _, by go_num, rfl, hn.out⟩
          case measure => simp [intOf]; omega
        · have hn := Lib.hid (indRel_miss Hr.out hlt (.inr c1))
          clear c1
          go_wp2_with (go_at_call 21; refine (nextR_any _ _ _ r2 r3).mono ?_; rintro e w' ⟨rfl, rfl⟩)
          go_round
          case rel => exact ⟨j + 1, _, by go_num, rfl, hn.out⟩
          case measure => simp [intOf]; omega
        · have hn := Lib.hid (indRel_hit Hr.out hlt c1 c2)
          clear c1 c2
          go_wp2
          go_ret2
          exact ⟨by rw [Hres.out, hn.out]; first | done | rfl, hb1⟩
      · have hje : j = u.size := by omega
        have hn := Lib.hid (indRel_end (hje ▸ Hr.out))
        clear hje
        go_wp2
        go_ret2
        exact ⟨by rw [Hres.out, hn.out]; first | done | rfl, hb1⟩
  · have hres := indentF_out s.data.toList line (by omega)
    have Hres := Lib.hid hres
    clear hres
    go_enter Try.func16, Try.ntmps16
    go_wp2_with fail
    refine (LinesR_any s hs w).mono ?_
    rintro e w1 ⟨v, rfl, hown, hb1⟩
    obtain ⟨N, hNe⟩ : ∃ N, (segs s.data.toList).length = N := ⟨_, rfl⟩
    obtain ⟨g, cap, rfl⟩ : ∃ g cap, v = .slice (some ⟨g, 0, none⟩) N cap := by
      rcases hown.2 with ⟨_, h0⟩ | ⟨g, cap, _, rfl, _⟩
      · omega
      · exact ⟨g, cap, by rw [hNe]⟩
    rw [hNe] at hin
    clear hown hNe hN
    by_cases hlo : line < 1
    · go_wp2
      go_ret2
      exact ⟨by rw [Hres.out]; first | done | rfl, hb1⟩
    · have t2 : (N : Int) < line := by omega
      go_wp2
      go_ret2
      exact ⟨by rw [Hres.out]; first | done | rfl, hb1⟩


attribute [local go_sem] Oper.semAt_some

/-- How the loop's body is left: the line is told. -/
def IndX (s : ByteArray) (line : Int) (B : Nat) (c : Code) (pre : List (Seg s)) (W : World) : Prop :=
  c = .ret ∧ ∃ (p : List (Seg s)) (x : Seg s), pre = p ++ [x] ∧ line = (p.length : Int) + 1 ∧ W.cell? ⟨B + 1, 0, none⟩ = some (.int .i64 (indGo 1 (s.extract x.1.1 x.1.2).data.toList)) ∧ W.cell? ⟨B + 1 + 1, 0, none⟩ = some (.int .i64 0)

set_option maxRecDepth 100000 in
set_option maxHeartbeats 2000000 in
theorem indent_in (s : ByteArray) (hs : s.size ≤ 100000) (line : Int) (w : World) :
    CallsIn Fence.wide 3 Try.prog 11 #[.string s, .int .i64 line] w fun e w' => e = .returned (.tuple #[.int .i64 (indentF s.data.toList line).1, .int .i64 (indentF s.data.toList line).2]) ∧ Below w.heap.size w w' := by
  refine callsIn_of_wp_marks Try.func11 rfl trivial ?_ rfl
  simp only [Try.ntmps11, List.size_toArray, List.length_cons, List.length_nil, Nat.reduceAdd, Nat.reduceSub, Array.replicate_succ, Array.replicate_zero, List.push_toArray, List.append_toArray, List.nil_append, List.cons_append]
  gi_wp2_with (refine ⟨trivial, ?_⟩; gi_at_call 19; refine (lines_in _ s _).mono ?_; rintro e w' ⟨rfl, rfl⟩)
  obtain ⟨W0, hW0⟩ : ∃ W0, ((((w.alloc (.cells #[.int .i64 line] 3)).alloc (.cells #[.int .i64 0] 3)).alloc (.cells #[.int .i64 0] 27)).alloc (.cells #[.int .i64 0] 3)).alloc (.cells #[.string s] 9) = W0 := ⟨_, rfl⟩
  have hsz : W0.heap.size = w.heap.size + 5 := by rw [← hW0]; simp
  have hbel : Below w.heap.size w W0 := by
    rw [← hW0]
    exact (((((Below.refl _ w).alloc (Nat.le_refl _) _).alloc (by simp) _).alloc (by simp <;> omega) _).alloc (by simp <;> omega) _).alloc (by simp <;> omega) _
  have c0 : W0.cell? ⟨w.heap.size, 0, none⟩ = some (.int .i64 line) := by rw [← hW0]; simp [go_sem]
  have c1 : W0.cell? ⟨w.heap.size + 1, 0, none⟩ = some (.int .i64 0) := by rw [← hW0]; simp [go_sem]
  have c2 : W0.cell? ⟨w.heap.size + 1 + 1, 0, none⟩ = some (.int .i64 0) := by rw [← hW0]; simp [go_sem]
  have c3 : W0.cell? ⟨w.heap.size + 1 + 1 + 1, 0, none⟩ = some (.int .i64 0) := by rw [← hW0]; simp [go_sem]
  have c4 : W0.cell? ⟨w.heap.size + 1 + 1 + 1 + 1, 0, none⟩ = some (.string s) := by rw [← hW0]; simp [go_sem]
  have f1 : W0.frozen? ⟨w.heap.size + 1, 0, none⟩ = false := by rw [← hW0]; simp [go_sem]
  have f2 : W0.frozen? ⟨w.heap.size + 1 + 1, 0, none⟩ = false := by rw [← hW0]; simp [go_sem]
  have f3 : W0.frozen? ⟨w.heap.size + 1 + 1 + 1, 0, none⟩ = false := by rw [← hW0]; simp [go_sem]
  rw [hW0]
  clear hW0
  have hl0 : s.data.toList.length = s.size := rfl
  apply wpIn_rangeFunc_ownF (F := Fence.wide) rfl (by omega) (gf := 22) (lb := #[.pointer (some ⟨w.heap.size + 1 + 1 + 1 + 1, 0, none⟩)]) rfl trivial (enters_of Try.func22 (by kernel_rfl) rfl)
    (lines_stops _ (by omega) (w.heap.size + 1 + 1 + 1 + 1) s hs W0 (by omega) c4) keepsBox_t (fun W l o o' _ h ho _ => keepsBox_b W l o o' h ho) (Below.refl _ _) (fun _ => rfl)
    (fun pre W => (W.cell? ⟨w.heap.size, 0, none⟩ = some (.int .i64 line) ∧ W.cell? ⟨w.heap.size + 1, 0, none⟩ = some (.int .i64 0) ∧ W.frozen? ⟨w.heap.size + 1, 0, none⟩ = false ∧
      W.cell? ⟨w.heap.size + 1 + 1, 0, none⟩ = some (.int .i64 0) ∧ W.frozen? ⟨w.heap.size + 1 + 1, 0, none⟩ = false ∧ W.cell? ⟨w.heap.size + 1 + 1 + 1, 0, none⟩ = some (.int .i64 (pre.length : Nat)) ∧ W.frozen? ⟨w.heap.size + 1 + 1 + 1, 0, none⟩ = false ∧ ¬ (1 ≤ line ∧ line ≤ (pre.length : Int))) ∧ Below w.heap.size w W)
    (fun c pre W => IndX s line w.heap.size c pre W ∧ Below w.heap.size w W)
    (OwnFrom.and (Own.from (fun s A B row hs hg hr => by
      obtain ⟨h1, h3, h4, h5, h6, h7, h8, h9⟩ := hs
      exact ⟨cell_kept h1 hg hr, cell_kept h3 hg hr, (frozen_kept h3 hg hr).trans h4, cell_kept h5 hg hr, (frozen_kept h5 hg hr).trans h6, cell_kept h7 hg hr, (frozen_kept h7 hg hr).trans h8, h9⟩) _) (ownFrom_below (Nat.le_refl _) (by omega)))
    (fun c => OwnFrom.and (Own.from (fun s A B row hs hg hr => by
      unfold IndX at hs ⊢
      obtain ⟨h0, p, x, h1, h2, h3, h4⟩ := hs
      exact ⟨h0, p, x, h1, h2, cell_kept h3 hg hr, cell_kept h4 hg hr⟩) _) (ownFrom_below (Nat.le_refl _) (by omega)))
    ⟨⟨c0, c1, f1, c2, f2, c3, f3, by simp; omega⟩, hbel⟩
  case hassign =>
    intro l x W K hK
    gi_wp2
    exact hK
  case hbody =>
    rintro l pre x W ⟨⟨d0, d1, g1, d2, g2, d3, g3, hp⟩, hB⟩ hlen
    obtain ⟨hx1, hx2⟩ := seg_in x
    have husz : (s.extract x.1.1 x.1.2).size ≤ 100000 := by simp; omega
    obtain ⟨u, hu⟩ : ∃ u, s.extract x.1.1 x.1.2 = u := ⟨_, rfl⟩
    rw [hu] at husz
    rw [hu]
    have Hu := Lib.hid hu
    clear hu
    have hlen' : pre.length ≤ 100001 := by have := segs_len s.data.toList; omega
    by_cases hln : line = (pre.length : Int) + 1
    · have hb : ((((pre.length : Int) + 1) != line) = false) := by rw [hln]; simp
      have Hln := Lib.hid hln; clear hln hp
      gi_wp2
      gi_loop [9, 22] (fun c i => ∃ (j : Nat) (cc : Int), i = .int .i64 j ∧ c = .int .i64 cc ∧ IndRel u j cc) (fun _ i => u.size - (intOf i).toNat)
      case atStart => exact ⟨0, 1, rfl, rfl, Nat.zero_le _, by omega, by omega, rfl⟩
      case round =>
        obtain ⟨j, cc, rfl, rfl, hr⟩ := hrel
        have r1 := hr.1
        have r2 := hr.2.1
        have r3 : cc ≤ 1000000 := by have := hr.2.2.1; omega
        have Hr := Lib.hid hr
        clear hr
        by_cases hlt : j < u.size
        · rcases blank_kinds u[j] with ⟨k1, k2⟩ | ⟨k1, k2, k3⟩ | ⟨k1, k2, k3, k4⟩
          · have hn := Lib.hid (indRel_miss Hr.out hlt (.inl k1))
            clear k1
            gi_wp2_with (refine ⟨trivial, ?_⟩; gi_at_call 20; refine (CallsIn.inRound l (callsIn_wide.2 (next_any _ _ _ r2 r3))).mono ?_; rintro e w' ⟨rfl, rfl⟩)
            go_round
            case rel => exact ⟨j + 1, _, by go_num, rfl, hn.out⟩
            case measure => simp [intOf]; omega
          · have hn := Lib.hid (indRel_miss Hr.out hlt (.inr k1))
            clear k1
            gi_wp2_with (refine ⟨trivial, ?_⟩; gi_at_call 20; refine (CallsIn.inRound l (callsIn_wide.2 (next_any _ _ _ r2 r3))).mono ?_; rintro e w' ⟨rfl, rfl⟩)
            go_round
            case rel => exact ⟨j + 1, _, by go_num, rfl, hn.out⟩
            case measure => simp [intOf]; omega
          · have hn := Lib.hid (indRel_hit Hr.out hlt k1 k2)
            clear k1 k2
            gi_wp2
            refine ⟨((KeepsOthers.setCell _ _ _).trans (KeepsOthers.setCell _ _ _)).trans (KeepsOthers.setCell _ _ _), ⟨?_, ((hB.setCell (by simp <;> omega) _).setCell (by simp <;> omega) _).setCell (by simp <;> omega) _⟩⟩
            unfold IndX
            refine ⟨rfl, pre, x, rfl, Hln.out, ?_, ?_⟩
            · rw [Hu.out, hn.out]; simp [go_sem, d1]
            · simp [go_sem, d2]
        · have hje : j = u.size := by omega
          have hn := Lib.hid (indRel_end (hje ▸ Hr.out))
          clear hje
          gi_wp2
          refine ⟨((KeepsOthers.setCell _ _ _).trans (KeepsOthers.setCell _ _ _)).trans (KeepsOthers.setCell _ _ _), ⟨?_, ((hB.setCell (by simp <;> omega) _).setCell (by simp <;> omega) _).setCell (by simp <;> omega) _⟩⟩
          unfold IndX
          refine ⟨rfl, pre, x, rfl, Hln.out, ?_, ?_⟩
          · rw [Hu.out, hn.out]; simp [go_sem, d1]
          · simp [go_sem, d2]
    · have hb : ((((pre.length : Int) + 1) != line) = true) := by rw [bne_iff_ne]; omega
      gi_wp2
      refine ⟨KeepsOthers.setCell _ _ _, fun v hv => ?_, ⟨⟨?_, ?_, ?_, ?_, ?_, ?_, ?_, ?_⟩, hB.setCell (by simp <;> omega) _⟩⟩
      · rw [World.cell?_setCell_other _ _ _ _ (by simp)]; exact hv
      · simp [go_sem, d0]
      · simp [go_sem, d1]
      · simp [go_sem, g1]
      · simp [go_sem, d2]
      · simp [go_sem, g2]
      · simp [go_sem, d3]
      · simp [go_sem, g3]
      · simp; omega
  case hdone =>
    rintro D ys W hD hys ⟨⟨d0, d1, g1, d2, g2, d3, g3, hp⟩, hB⟩ hK
    have hN : ys.length = (segs s.data.toList).length := by rw [← hys]; simp
    have hres : indentF s.data.toList line = (0, 2) := indentF_out _ _ (by omega)
    have Hres := Lib.hid hres
    clear hres hN hys hp
    gi_wp2
    generalize hWF : (W.setCell ⟨w.heap.size + 1, 0, none⟩ (.int .i64 0)).setCell ⟨w.heap.size + 1 + 1, 0, none⟩ (.int .i64 2) = WF
    have q2 : WF.cell? ⟨w.heap.size + 1, 0, none⟩ = some (.int .i64 0) := by rw [← hWF]; simp [go_sem, d1]
    have q3 : WF.cell? ⟨w.heap.size + 1 + 1, 0, none⟩ = some (.int .i64 2) := by rw [← hWF]; simp [go_sem, d2]
    have hKF : WF.heap[D]? = some (.deferred (some [])) := by rw [← hWF]; exact ((KeepsOthers.setCell _ _ _).trans (KeepsOthers.setCell _ _ _)).same D _ hK rfl
    have hBF : Below w.heap.size w WF := by rw [← hWF]; exact (hB.setCell (by simp) _).setCell (by simp <;> omega) _
    clear hWF
    refine ⟨by simp, .inl ⟨_, _, rfl, run_takeDeferred hKF, ?_⟩⟩
    have r2 := cell_kept q2 (grownBy_putObj' _ D (.deferred none)) (fun r e => by cases e; exact ⟨_, hKF, rfl⟩)
    have r3 := cell_kept q3 (grownBy_putObj' _ D (.deferred none)) (fun r e => by cases e; exact ⟨_, hKF, rfl⟩)
    refine ⟨.tuple #[.int .i64 0, .int .i64 2], ?_, ?_, hBF.trans (belowK_b (w := w) (Nat.le_refl _) _ D _ _ (by omega) hKF rfl rfl)⟩
    · simp [results, Try.f11, go_sem, r2, r3]
    · rw [Hres.out]
  case hstop =>
    rintro D c pre W hD hpre ⟨hX, hB⟩ hK
    unfold IndX at hX
    obtain ⟨rfl, p, x, rfl, hln, q2, q3⟩ := hX
    obtain ⟨hm, hmx⟩ := pre_seg hpre
    have hres : indentF s.data.toList line = (indGo 1 (s.extract x.1.1 x.1.2).data.toList, 0) := by
      rw [indentF_in s.data.toList line p.length hm hln, hmx, line_data]
    have Hres := Lib.hid hres
    clear hres hln hmx hpre
    gi_wp2
    refine ⟨by simp, .inl ⟨_, _, rfl, run_takeDeferred hK, ?_⟩⟩
    have r2 := cell_kept q2 (grownBy_putObj' _ D (.deferred none)) (fun r e => by cases e; exact ⟨_, hK, rfl⟩)
    have r3 := cell_kept q3 (grownBy_putObj' _ D (.deferred none)) (fun r e => by cases e; exact ⟨_, hK, rfl⟩)
    refine ⟨.tuple #[.int .i64 (indGo 1 (s.extract x.1.1 x.1.2).data.toList), .int .i64 0], ?_, ?_, hB.trans (belowK_b (w := w) (Nat.le_refl _) _ D _ _ (by omega) hK rfl rfl)⟩
    · simp [results, Try.f11, go_sem, r2, r3]
    · rw [Hres.out]

theorem indent_any (s : ByteArray) (hs : s.size ≤ 100000) (line : Int) (w : World) :
    Calls Try.prog 11 #[.string s, .int .i64 line] w fun e w' => e = .returned (.tuple #[.int .i64 (indentF s.data.toList line).1, .int .i64 (indentF s.data.toList line).2]) ∧ Below w.heap.size w w' :=
  (callsIn_wide (n := 3)).1 (indent_in s hs line w)

end Go.Proofs.Ytiachpjejebhjaa
