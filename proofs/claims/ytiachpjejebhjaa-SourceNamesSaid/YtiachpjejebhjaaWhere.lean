/- Contracts of source.lines' value, of source.Where. Conditions: the text has at most 100000 bytes. -/
import Derived.Deep.QuietTactic
import Derived.Test.YtiachpjejebhjaaIter
import Derived.Test.YtiachpjejebhjaaNext
namespace Go.Proofs.Ytiachpjejebhjaa
open Go.RowKit Go.Shelf
attribute [local go_sem] Oper.semAt_some

set_option maxHeartbeats 1000000 in
theorem lines_in (n : Nat) (s : ByteArray) (w : World) :
    CallsIn Fence.wide n Try.prog 19 #[.string s] w fun e w' => e = .returned (.func (.func 22) #[] #[.pointer (some ⟨w.heap.size, 0, none⟩)]) ∧ w.alloc (.cells #[.string s] 9) = w' := by
  refine callsIn_of_wp Try.func19 rfl trivial ?_ rfl
  simp only [Try.ntmps19, List.size_toArray, List.length_cons, List.length_nil, Nat.reduceAdd, Nat.reduceSub, Array.replicate_succ, Array.replicate_zero, List.push_toArray, List.append_toArray, List.nil_append, List.cons_append]
  gi_wp2
  go_ret
  exact ⟨rfl, rfl⟩

theorem lines_stops (n : Nat) (hn : 1 ≤ n) (Bn : Nat) (s : ByteArray) (hs : s.size ≤ 100000) (w : World) (hB : Bn < w.heap.size) (hc : w.cell? ⟨Bn, 0, none⟩ = some (.string s)) :
    SeqStopsK Fence.wide n Try.prog 22 #[.pointer (some ⟨Bn, 0, none⟩)] (encS s) (KeepsBox Bn) (fun ys => ys.map (·.1) = segs s.data.toList) (fun pre => pre.map (·.1) <+: segs s.data.toList) (segs s.data.toList).length w :=
  fun l J Jx W hW _ _ hY h0 => iter_in n hn l Bn s hs J Jx hY W ((hW.cell (p := ⟨Bn, 0, none⟩) hB).trans hc) h0

theorem seg_in {s : ByteArray} (x : Seg s) : x.1.1 ≤ x.1.2 ∧ x.1.2 ≤ s.size := by
  obtain ⟨p, r, h⟩ := List.append_of_mem x.2
  have := segs_mem s.data.toList p x.1 r h
  exact ⟨this.1, this.2.1⟩

set_option maxRecDepth 100000 in
set_option maxHeartbeats 2000000 in
theorem where_in (s : ByteArray) (hs : s.size ≤ 100000) (k : Nat) (hk : k ≤ s.size) (w : World) :
    CallsIn Fence.wide 3 Try.prog 9 #[.string s, .int .i64 k] w fun e w' => e = .returned (.tuple #[.int .i64 (posR s.data.toList k).1, .int .i64 (posR s.data.toList k).2, .int .i64 0]) ∧ Below w.heap.size w w' := by
  have hk1 : ¬ ((k : Int) < 0) := by omega
  have hk2 : ¬ ((s.size : Int) < k) := by omega
  refine callsIn_of_wp_marks Try.func9 rfl trivial ?_ rfl
  simp only [Try.ntmps9, List.size_toArray, List.length_cons, List.length_nil, Nat.reduceAdd, Nat.reduceSub, Array.replicate_succ, Array.replicate_zero, List.push_toArray, List.append_toArray, List.nil_append, List.cons_append]
  gi_wp2_with (refine ⟨trivial, ?_⟩; gi_at_call 19; refine (lines_in _ s _).mono ?_; rintro e w' ⟨rfl, rfl⟩)
  obtain ⟨W0, hW0⟩ : ∃ W0, ((((w.alloc (.cells #[.string s] 9)).alloc (.cells #[.int .i64 k] 3)).alloc (.cells #[.int .i64 0] 3)).alloc (.cells #[.int .i64 0] 3)).alloc (.cells #[.string s] 9) = W0 := ⟨_, rfl⟩
  have hsz : W0.heap.size = w.heap.size + 5 := by rw [← hW0]; simp
  have hbel : Below w.heap.size w W0 := by
    rw [← hW0]
    exact (((((Below.refl _ w).alloc (Nat.le_refl _) _).alloc (by simp) _).alloc (by simp; omega) _).alloc (by simp; omega) _).alloc (by simp; omega) _
  have c0 : W0.cell? ⟨w.heap.size, 0, none⟩ = some (.string s) := by rw [← hW0]; simp [go_sem]
  have c1 : W0.cell? ⟨w.heap.size + 1, 0, none⟩ = some (.int .i64 k) := by rw [← hW0]; simp [go_sem]
  have c2 : W0.cell? ⟨w.heap.size + 1 + 1, 0, none⟩ = some (.int .i64 0) := by rw [← hW0]; simp [go_sem]
  have c3 : W0.cell? ⟨w.heap.size + 1 + 1 + 1, 0, none⟩ = some (.int .i64 0) := by rw [← hW0]; simp [go_sem]
  have c4 : W0.cell? ⟨w.heap.size + 1 + 1 + 1 + 1, 0, none⟩ = some (.string s) := by rw [← hW0]; simp [go_sem]
  have f2 : W0.frozen? ⟨w.heap.size + 1 + 1, 0, none⟩ = false := by rw [← hW0]; simp [go_sem]
  have f3 : W0.frozen? ⟨w.heap.size + 1 + 1 + 1, 0, none⟩ = false := by rw [← hW0]; simp [go_sem]
  rw [hW0]
  clear hW0
  have hl0 : s.data.toList.length = s.size := rfl
  apply wpIn_rangeFunc_ownF (F := Fence.wide) rfl (by omega) (gf := 22) (lb := #[.pointer (some ⟨w.heap.size + 1 + 1 + 1 + 1, 0, none⟩)]) rfl trivial (enters_of Try.func22 (by kernel_rfl) rfl)
    (lines_stops _ (by omega) (w.heap.size + 1 + 1 + 1 + 1) s hs W0 (by omega) c4) keepsBox_t (fun W l o o' _ h ho _ => keepsBox_b W l o o' h ho) (Below.refl _ _) (fun _ => rfl)
    (fun pre W => (W.cell? ⟨w.heap.size, 0, none⟩ = some (.string s) ∧ W.cell? ⟨w.heap.size + 1, 0, none⟩ = some (.int .i64 k) ∧ W.cell? ⟨w.heap.size + 1 + 1, 0, none⟩ = some (.int .i64 (pre.length : Nat)) ∧ W.frozen? ⟨w.heap.size + 1 + 1, 0, none⟩ = false ∧
      W.cell? ⟨w.heap.size + 1 + 1 + 1, 0, none⟩ = some (.int .i64 0) ∧ W.frozen? ⟨w.heap.size + 1 + 1 + 1, 0, none⟩ = false ∧ ∀ y ∈ pre, y.1.2 < k) ∧ Below w.heap.size w W)
    (fun c pre W => (c = .exit 0 ∧ (∃ (p : List (Seg s)) (x : Seg s), pre = p ++ [x] ∧ k ≤ x.1.2 ∧ (∀ y ∈ p, y.1.2 < k) ∧ W.cell? ⟨w.heap.size + 1 + 1 + 1, 0, none⟩ = some (.int .i64 (colFrom s.data.toList x.1.1 k))) ∧ W.cell? ⟨w.heap.size + 1 + 1, 0, none⟩ = some (.int .i64 (pre.length : Nat)) ∧
      W.frozen? ⟨w.heap.size + 1 + 1, 0, none⟩ = false ∧ W.frozen? ⟨w.heap.size + 1 + 1 + 1, 0, none⟩ = false) ∧ Below w.heap.size w W)
    (OwnFrom.and (Own.from (fun s A B row hs hg hr => ⟨cell_kept hs.1 hg hr, cell_kept hs.2.1 hg hr, cell_kept hs.2.2.1 hg hr, (frozen_kept hs.2.2.1 hg hr).trans hs.2.2.2.1, cell_kept hs.2.2.2.2.1 hg hr, (frozen_kept hs.2.2.2.2.1 hg hr).trans hs.2.2.2.2.2.1, hs.2.2.2.2.2.2⟩) _) (ownFrom_below (Nat.le_refl _) (by omega)))
    (fun c => OwnFrom.and (Own.from (fun s A B row hs hg hr => by
      obtain ⟨h1, ⟨p, x, h2, h3, h4, h5⟩, h6, h7, h8⟩ := hs
      exact ⟨h1, ⟨p, x, h2, h3, h4, cell_kept h5 hg hr⟩, cell_kept h6 hg hr, (frozen_kept h6 hg hr).trans h7, (frozen_kept h5 hg hr).trans h8⟩) _) (ownFrom_below (Nat.le_refl _) (by omega)))
    ⟨⟨c0, c1, c2, f2, c3, f3, by simp⟩, hbel⟩
  case hassign =>
    intro l x W K hK
    gi_wp2
    exact hK
  case hbody =>
    rintro l pre x W ⟨⟨d0, d1, d2, g2, d3, g3, hp⟩, hB⟩ hlen
    obtain ⟨hx1, hx2⟩ := seg_in x
    obtain ⟨⟨f, t⟩, hx⟩ := x
    simp only at hx1 hx2 ⊢
    have hlen' : pre.length ≤ 100001 := by have := segs_len s.data.toList; omega
    have hc3 := World.cell?_setCell_same' W ⟨w.heap.size + 1 + 1 + 1, 0, none⟩
    clear hc3
    by_cases hkx : t < k
    · gi_wp2
      refine ⟨KeepsOthers.setCell _ _ _, fun v hv => ?_, ⟨⟨?_, ?_, ?_, ?_, ?_, ?_, ?_⟩, hB.setCell (by simp; omega) _⟩⟩
      · rw [World.cell?_setCell_other _ _ _ _ (by simp)]; exact hv
      · simp [go_sem, d0]
      · simp [go_sem, d1]
      · simp [go_sem, d2]
      · simp [go_sem, g2]
      · simp [go_sem, d3]
      · simp [go_sem, g3]
      · intro y hy
        rcases List.mem_append.1 hy with hy | hy
        · exact hp y hy
        · simp at hy; subst hy; exact hkx
    · gi_wp2
      gi_loopw [9] (fun i wr => ∃ j : Nat, i = .int .i64 j ∧ f ≤ j ∧ (j ≤ k ∨ j = f) ∧ wr.cell? ⟨w.heap.size + 1 + 1 + 1, 0, none⟩ = some (.int .i64 (colFrom s.data.toList f j)) ∧
          wr.cell? ⟨w.heap.size, 0, none⟩ = some (.string s) ∧ wr.cell? ⟨w.heap.size + 1, 0, none⟩ = some (.int .i64 k) ∧ wr.cell? ⟨w.heap.size + 1 + 1, 0, none⟩ = some (.int .i64 ((pre.length : Int) + 1)) ∧
          wr.frozen? ⟨w.heap.size + 1 + 1, 0, none⟩ = false ∧ wr.frozen? ⟨w.heap.size + 1 + 1 + 1, 0, none⟩ = false ∧ Below w.heap.size w wr ∧ KeepsOthers W wr) (fun i _ => k - (intOf i).toNat)
      case atStart =>
        refine ⟨f, rfl, Nat.le_refl _, .inr rfl, ?_, ?_, ?_, ?_, ?_, ?_, (hB.setCell (by simp; omega) _).setCell (by simp; omega) _, (KeepsOthers.setCell _ _ _).trans (KeepsOthers.setCell _ _ _)⟩
        · rw [colFrom_self _ _ _ (Nat.le_refl _)]; simp [go_sem, d3]
        · simp [go_sem, d0]
        · simp [go_sem, d1]
        · simp [go_sem, d2]
        · simp [go_sem, g2]
        · simp [go_sem, g3]
      case round =>
        obtain ⟨j, rfl, hj1, hj2, e3, e0, e1, e2, g2', g3', hB', hKO⟩ := hrel
        have hcol := colFrom_bd s.data.toList f j (by omega)
        have hcol1 := hcol.1
        have hcol2 : colFrom s.data.toList f j ≤ 1000000 := by omega
        clear hcol
        by_cases hjk : j < k
        · have hjs : j < s.size := by omega
          have hmix : Try.prog.follows .mixedOrders = true := by kernel_rfl
          gi_wp2_with (gi_region_with_o (refine ⟨trivial, ?_⟩; gi_at_call 20; refine (CallsIn.inRound l (callsIn_wide.2 (next_any _ _ _ hcol1 hcol2))).mono ?_; rintro e w' ⟨rfl, rfl⟩))
          all_goals
            go_roundw
            case rel =>
              refine ⟨j + 1, by go_num, by omega, .inl (by omega), ?_, ?_, ?_, ?_, ?_, ?_, (hB'.setCell (by simp; omega) _).drew, (hKO.trans (KeepsOthers.setCell _ _ _)).trans (KeepsOthers.drew _)⟩
              · rw [colFrom_succ _ _ _ hj1 hjs]; simp [go_sem, e3]; rfl
              · simp [go_sem, e0]
              · simp [go_sem, e1]
              · simp [go_sem, e2]
              · simp [go_sem, g2']
              · simp [go_sem, g3']
            case measure => simp [intOf]; omega
        · gi_wp2
          refine ⟨hKO, ⟨⟨rfl, ⟨pre, ⟨(f, t), hx⟩, rfl, by simp; omega, hp, ?_⟩, ?_, g2', g3'⟩, hB'⟩⟩
          · rw [e3]
            by_cases hkj : j = k
            · rw [hkj]
            · obtain rfl : j = f := by omega
              rw [colFrom_self _ _ _ (Nat.le_refl _)]; exact congrArg (fun c => some (Value.int .i64 c)) (colFrom_self _ j k (by omega)).symm
          · rw [e2]; simp
  case hdone =>
    rintro D ys W hD hys ⟨⟨d0, d1, d2, g2, d3, g3, hp⟩, hB⟩ hK
    exfalso
    obtain ⟨y, hy, hye⟩ := segs_end s.data.toList
    rw [← hys] at hy
    obtain ⟨z, hz, rfl⟩ := List.mem_map.1 hy
    have := hp z hz
    omega
  case hstop =>
    rintro D c pre W hD hpre ⟨⟨rfl, ⟨p, x, rfl, hx, hp, d3⟩, d2, g2, g3⟩, hB⟩ hK
    have hpos := segs_where s.data.toList k (p.map (·.1)) x.1 (by simpa using hpre) (by intro y hy; obtain ⟨z, hz, rfl⟩ := List.mem_map.1 hy; exact hp z hz) hx
    have hmix : Try.prog.follows .mixedOrders = true := by kernel_rfl
    have Hpos := Lib.hid hpos
    clear hpos hpre hp
    gi_wp2_with (gi_region_with_o fail)
    all_goals
      generalize hWF : ((W.setCell ⟨w.heap.size + 1 + 1, 0, none⟩ (.int .i64 ((p.length : Int) + 1))).setCell ⟨w.heap.size + 1 + 1 + 1, 0, none⟩ (.int .i64 (colFrom s.data.toList x.1.1 k))).drew = WF
      have q2 : WF.cell? ⟨w.heap.size + 1 + 1, 0, none⟩ = some (.int .i64 ((p.length : Int) + 1)) := by rw [← hWF]; simp [go_sem, d2]
      have q3 : WF.cell? ⟨w.heap.size + 1 + 1 + 1, 0, none⟩ = some (.int .i64 (colFrom s.data.toList x.1.1 k)) := by rw [← hWF]; simp [go_sem, d3]
      have hKF : WF.heap[D]? = some (.deferred (some [])) := by rw [← hWF]; exact (((KeepsOthers.setCell _ _ _).trans (KeepsOthers.setCell _ _ _)).trans (KeepsOthers.drew _)).same D _ hK rfl
      have hBF : Below w.heap.size w WF := by rw [← hWF]; exact ((hB.setCell (by simp; omega) _).setCell (by simp; omega) _).drew
      clear hWF
      refine ⟨by simp, .inl ⟨_, _, rfl, run_takeDeferred hKF, ?_⟩⟩
      have r2 := cell_kept q2 (grownBy_putObj' _ D (.deferred none)) (fun r e => by cases e; exact ⟨_, hKF, rfl⟩)
      have r3 := cell_kept q3 (grownBy_putObj' _ D (.deferred none)) (fun r e => by cases e; exact ⟨_, hKF, rfl⟩)
      refine ⟨.tuple #[.int .i64 ((p.length : Int) + 1), .int .i64 (colFrom s.data.toList x.1.1 k), .int .i64 0], ?_, ?_, hBF.trans (belowK_b (w := w) (Nat.le_refl _) _ D _ _ (by omega) hKF rfl rfl)⟩
      · simp [results, Try.f9, go_sem, r2, r3]
      · rw [Hpos.out]; simp

theorem where_any (s : ByteArray) (hs : s.size ≤ 100000) (k : Nat) (hk : k ≤ s.size) (w : World) :
    Calls Try.prog 9 #[.string s, .int .i64 k] w fun e w' => e = .returned (.tuple #[.int .i64 (posR s.data.toList k).1, .int .i64 (posR s.data.toList k).2, .int .i64 0]) ∧ Below w.heap.size w w' :=
  (callsIn_wide (n := 3)).1 (where_in s hs k hk w)

theorem where_out (s : ByteArray) (k : Int) (hk : k < 0 ∨ (s.size : Int) < k) (w : World) :
    Calls Try.prog 9 #[.string s, .int .i64 k] w fun e w' => e = .returned (.tuple #[.int .i64 0, .int .i64 0, .int .i64 2]) ∧ Below w.heap.size w w' := by
  by_cases hk1 : k < 0
  · go_enter Try.func9, Try.ntmps9
    go_wp2
    exact bodyPost_ret (v := .tuple #[.int .i64 0, .int .i64 0, .int .i64 2]) (by simp [results, Try.results9, go_sem]) rfl ⟨rfl,
      ((((((Below.refl _ w).alloc (Nat.le_refl _) _).alloc (by simp) _).alloc (by simp; omega) _).alloc (by simp; omega) _))⟩
  · have hk2 : (s.size : Int) < k := by omega
    go_enter Try.func9, Try.ntmps9
    go_wp2
    exact bodyPost_ret (v := .tuple #[.int .i64 0, .int .i64 0, .int .i64 2]) (by simp [results, Try.results9, go_sem]) rfl ⟨rfl,
      ((((((Below.refl _ w).alloc (Nat.le_refl _) _).alloc (by simp) _).alloc (by simp; omega) _).alloc (by simp; omega) _))⟩

end Go.Proofs.Ytiachpjejebhjaa
