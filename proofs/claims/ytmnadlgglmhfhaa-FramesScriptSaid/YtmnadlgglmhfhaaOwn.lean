/- Contract of frames.own and thunkmillref24.own: a frame in memory of its own. -/
import Derived.Test.YtmnadlgglmhfhaaMem
namespace Go.Proofs.Ytmnadlgglmhfhaa
open Go.RowKit

set_option maxRecDepth 100000 in
set_option maxHeartbeats 2000000 in
theorem own_any (k o n : Int) (s : ByteArray) (vw vd : Value) (ws ds : List Wd) (w : World) (hw : WAt w vw ws) (hd : WAt w vd ds) (hlw : ws.length ≤ 1000000000000) (hld : ds.length ≤ 1000000000000) :
    Calls Try.prog 41 #[.agg #[.int .i64 k, .int .i64 o, .int .i64 n, .string s, vw, vd]] w fun e w' => ∃ vw' vd' m, e = .returned (.agg #[.int .i64 k, .int .i64 o, .int .i64 n, .string s, vw', vd']) ∧
      WOwn w' w.heap.size vw' ws ∧ WOwn w' m vd' ds ∧ w.heap.size ≤ m ∧ m ≤ w'.heap.size ∧ (∀ b, vw'.ownBlock = some b → b < m) ∧ Below w.heap.size w w' := by
  have Hw := Lib.hid hw; have Hd := Lib.hid hd
  obtain ⟨aw, cw, rfl, _⟩ := hw
  obtain ⟨ad, cd, rfl, _⟩ := hd
  obtain ⟨lw, hlwe⟩ : ∃ l, ws.length = l := ⟨_, rfl⟩
  obtain ⟨ld, hlde⟩ : ∃ l, ds.length = l := ⟨_, rfl⟩
  rw [hlwe] at Hw
  rw [hlde] at Hd
  have Hlw := Lib.hid hlw; have Hld := Lib.hid hld
  rw [hlwe, hlde]
  clear hlwe hlde hlw hld
  go_enter Try.func41, Try.ntmps41
  go_wp2_with fail
  generalize hW0 : (w.alloc (Obj.cells #[.int .i64 k, .int .i64 o, .int .i64 n, .string s, .slice aw lw cw, .slice ad ld cd] 32)).alloc (Obj.cells #[.int .i64 0, .int .i64 0, .int .i64 0, .string { data := #[] }, .slice none 0 0, .slice none 0 0] 32) = W0
  have hsz : W0.heap.size = w.heap.size + 2 := by rw [← hW0]; simp
  have hbel : Below w.heap.size w W0 := by rw [← hW0]; exact ((Below.refl _ w).alloc (Nat.le_refl _) _).alloc (by simp) _
  have B0 : Blk W0 w.heap.size #[.int .i64 k, .int .i64 o, .int .i64 n, .string s, .slice aw lw cw, .slice ad ld cd] := by rw [← hW0]; exact (Blk.new w _ _).alloc _
  have B1 : Blk W0 (w.heap.size + 1) #[.int .i64 0, .int .i64 0, .int .i64 0, .string { data := #[] }, .slice none 0 0, .slice none 0 0] := by rw [← hW0]; have h := Blk.new (w.alloc (Obj.cells #[.int .i64 k, .int .i64 o, .int .i64 n, .string s, .slice aw lw cw, .slice ad ld cd] 32)) #[.int .i64 0, .int .i64 0, .int .i64 0, .string { data := #[] }, .slice none 0 0, .slice none 0 0] 32; rwa [World.size_alloc] at h
  have c0 := B0.cell
  have f0 := B0.free
  have k1 := fun W (hW : Below w.heap.size w W) => clone_any (.slice aw lw cw) ws W (Hw.out.below hW (Nat.le_refl _)) Hlw.out
  have k2 := fun W (hW : Below w.heap.size w W) => clone_any (.slice ad ld cd) ds W (Hd.out.below hW (Nat.le_refl _)) Hld.out
  have K1 := Lib.hid k1; have K2 := Lib.hid k2
  clear k1 k2 hW0
  go_region_with (first | (go_at_call 45; with_reducible refine (K1.out _ ?_).mono ?_; exact hbel.drew; rintro e w1 ⟨v1, rfl, o1, hb1⟩; obtain ⟨s1, d1, rfl⟩ := own_shape o1; have q1 := below_of_drew hb1; have D0 := B0.below q1 B0.lt; have D1 := B1.below q1 B1.lt; have g0 := D0.cell; have e0 := D0.free; have l1 := hbel.trans (q1.mono hbel.size)) | (go_at_call 45; with_reducible refine (K2.out _ ?_).mono ?_; exact l1; rintro e w2 ⟨v2, rfl, o2, hb2⟩; obtain ⟨s2, d2, rfl⟩ := own_shape o2; have G0 := D0.below hb2 D0.lt; have G1 := D1.below hb2 D1.lt; have u0 := G0.cell; have t0 := G0.free; have l2 := l1.trans (hb2.mono l1.size)))
  all_goals
    generalize hWF : (w2.setCell ⟨w.heap.size, 4, none⟩ (.slice s1 ws.length d1)).setCell ⟨w.heap.size, 5, none⟩ (.slice s2 ds.length d2) = WF
    have E0 : Blk WF w.heap.size #[.int .i64 k, .int .i64 o, .int .i64 n, .string s, .slice s1 ws.length d1, .slice s2 ds.length d2] := by rw [← hWF]; exact (G0.set 4 _ (by simp)).set 5 _ (by simp)
    have E1 := (G1.other ⟨w.heap.size, 4, none⟩ (.slice s1 ws.length d1) (by simp)).other ⟨w.heap.size, 5, none⟩ (.slice s2 ds.length d2) (by simp)
    rw [hWF] at E1
    have lF : Below w.heap.size w WF := by rw [← hWF]; exact (l2.setCell (by simp) _).setCell (by simp) _
    have p1 : WOwn WF (w.heap.size + 2) (.slice s1 ws.length d1) ws := by
      rw [← hWF]
      have h : WOwn w1 (w.heap.size + 2) (.slice s1 ws.length d1) ws := by rw [← hsz]; exact o1
      have h2 : WOwn w2 (w.heap.size + 2) (.slice s1 ws.length d1) ws := own_on h hb2 (own_lt h)
      exact ownsRow_setCell_below (ownsRow_setCell_below h2 (by simp) _) (by simp) _
    have p2' : WOwn WF w1.heap.size (.slice s2 ds.length d2) ds := by rw [← hWF]; exact ownsRow_setCell_below (ownsRow_setCell_below o2 (by have := l1.size; have := D0.lt; simp; omega) _) (by have := D0.lt; simp; omega) _
    have hsF : w1.heap.size ≤ WF.heap.size := by rw [← hWF]; have := hb2.size; simpa [World.setCell] using this
    have O6 := fun u0 u1 u2 u3 u4 u5 => ((((((Only.refl (w.heap.size + 1) WF).set 0 u0).set 1 u1).set 2 u2).set 3 u3).set 4 u4).set 5 u5
    have O6 := O6 (.int .i64 k) (.int .i64 o) (.int .i64 n) (.string s) (.slice s1 ws.length d1) (.slice s2 ds.length d2)
    have x0 := E0.cell; have y0 := E0.free; have x1 := E1.cell; have y1 := E1.free
    clear hWF c0 f0 g0 e0 u0 t0
    go_wp2
    refine bodyPost_ret (v := .agg #[.int .i64 k, .int .i64 o, .int .i64 n, .string s, .slice s1 ws.length d1, .slice s2 ds.length d2]) (by simp [results, Try.results41, go_sem, x1]) rfl ⟨_, _, w1.heap.size, rfl, ?_, ?_, l1.size, ?_, own_lt o1, ?_⟩
    · exact O6.own (own_low p1 (by omega)) (fun e => by have := own_from p1 _ e; omega)
    · exact O6.own p2' (fun e => by have := own_from p2' _ e; have := D1.lt; omega)
    · rw [O6.size]; exact hsF
    · exact lF.trans (O6.below (by omega))

end Go.Proofs.Ytmnadlgglmhfhaa
