/- core: an expression has no fields but those named. -/
import Derived.Test.YtkcgchpflppmnaaOeG
import Derived.Test.YtkcgchpflppmnaaOcK
namespace Go.Proofs.Ytkcgchpflppmnaa
open Go.RowKit
set_option linter.unusedSimpArgs false
set_option linter.unusedVariables false
set_option maxRecDepth 100000 in
set_option maxHeartbeats 4000000 in
theorem only_n (b o : Nat) (kd nu : Int) (nm : ByteArray) (p q r t : Option Addr) (n3 p2 n4 q2 n5 r2 n6 t2 : Nat) (w : World) (hb : b < w.heap.size) (h : CellsAt w b o [.int .i64 kd, .string nm, .int .i64 nu, .slice p n3 p2, .slice q n4 q2, .slice r n5 r2, .slice t n6 t2]) :
    Calls Try.prog 53 #[.pointer (some ⟨b, o, none⟩), .string ⟨#[110]⟩] w fun e w' => SomeBool w e w' := by
  have hB : Below w.heap.size w (w.alloc (.cells #[.string ⟨#[110]⟩] 9)) := (Below.refl _ w).alloc (Nat.le_refl _) _
  have hc : (w.alloc (.cells #[.string ⟨#[110]⟩] 9)).cell? ⟨w.heap.size, 0, none⟩ = some (.string ⟨#[110]⟩) := (Blk.new w #[.string ⟨#[110]⟩] 9).cell 0
  have Kn := hasF_any ⟨#[110]⟩ 110 w.heap.size (w.alloc (.cells #[.string ⟨#[110]⟩] 9)) hc
  rw [show decide (0 ≤ Lib.indexByte (⟨#[110]⟩ : ByteArray).data.toList 110) = true by decide] at Kn
  have Ki := hasF_any ⟨#[110]⟩ 105 w.heap.size (w.alloc (.cells #[.string ⟨#[110]⟩] 9)) hc
  rw [show decide (0 ≤ Lib.indexByte (⟨#[110]⟩ : ByteArray).data.toList 105) = false by decide] at Ki
  have Kp := hasF_any ⟨#[110]⟩ 112 w.heap.size (w.alloc (.cells #[.string ⟨#[110]⟩] 9)) hc
  rw [show decide (0 ≤ Lib.indexByte (⟨#[110]⟩ : ByteArray).data.toList 112) = false by decide] at Kp
  have Kb := hasF_any ⟨#[110]⟩ 98 w.heap.size (w.alloc (.cells #[.string ⟨#[110]⟩] 9)) hc
  rw [show decide (0 ≤ Lib.indexByte (⟨#[110]⟩ : ByteArray).data.toList 98) = false by decide] at Kb
  have Ka := hasF_any ⟨#[110]⟩ 97 w.heap.size (w.alloc (.cells #[.string ⟨#[110]⟩] 9)) hc
  rw [show decide (0 ≤ Lib.indexByte (⟨#[110]⟩ : ByteArray).data.toList 97) = false by decide] at Ka
  have Kc := hasF_any ⟨#[110]⟩ 99 w.heap.size (w.alloc (.cells #[.string ⟨#[110]⟩] 9)) hc
  rw [show decide (0 ≤ Lib.indexByte (⟨#[110]⟩ : ByteArray).data.toList 99) = false by decide] at Kc
  have x1 := (hB.cell (p := ⟨b, o + 1, none⟩) hb).trans (h 1 _ rfl)
  have x2 := (hB.cell (p := ⟨b, o + 2, none⟩) hb).trans (h 2 _ rfl)
  have x3 := (hB.cell (p := ⟨b, o + 3, none⟩) hb).trans (h 3 _ rfl)
  have x4 := (hB.cell (p := ⟨b, o + 4, none⟩) hb).trans (h 4 _ rfl)
  have x5 := (hB.cell (p := ⟨b, o + 5, none⟩) hb).trans (h 5 _ rfl)
  have x6 := (hB.cell (p := ⟨b, o + 6, none⟩) hb).trans (h 6 _ rfl)
  clear h
  go_enter Try.func53, Try.ntmps53
  go_upto_region 1 with fail
  generalize hW : w.alloc (.cells #[.string ⟨#[110]⟩] 9) = W at *
  generalize hz : w.heap.size = z at *
  clear hW
  have HZ := Lib.hid hz
  have HB := Lib.hid hB
  clear hz hB hc hb
  go_upto_region 2 with fail
  dsimp only [List.append]
  by_cases hi : nu = 0
  · have fi : (nu == 0) = true := by simpa using hi
    by_cases hp : n3 = 0
    · have fp : ((n3 : Int) == 0) = true := by simp; omega
      have gp : (n3 == 0) = true := by simp; omega
      by_cases hb : n4 = 0
      · have fb : ((n4 : Int) == 0) = true := by simp; omega
        have gb : (n4 == 0) = true := by simp; omega
        by_cases ha : n5 = 0
        · have fa : ((n5 : Int) == 0) = true := by simp; omega
          have ga : (n5 == 0) = true := by simp; omega
          by_cases hc : n6 = 0
          · have fc : ((n6 : Int) == 0) = true := by simp; omega
            have gc : (n6 == 0) = true := by simp; omega
            go_wp2_with (go_at_call 70; first | ((with_reducible (refine (Kn).mono ?_)); rintro r1 w1 ⟨rfl, e1⟩; subst e1; clear Kn) | ((with_reducible (refine (Ki).mono ?_)); rintro r1 w1 ⟨rfl, e1⟩; subst e1; clear Ki) | ((with_reducible (refine (Kp).mono ?_)); rintro r1 w1 ⟨rfl, e1⟩; subst e1; clear Kp) | ((with_reducible (refine (Kb).mono ?_)); rintro r1 w1 ⟨rfl, e1⟩; subst e1; clear Kb) | ((with_reducible (refine (Ka).mono ?_)); rintro r1 w1 ⟨rfl, e1⟩; subst e1; clear Ka) | ((with_reducible (refine (Kc).mono ?_)); rintro r1 w1 ⟨rfl, e1⟩; subst e1; clear Kc))
            go_ret
            exact SomeBool.mk rfl (HZ.out ▸ HB.out)
          · have fc : ((n6 : Int) == 0) = false := by simp; omega
            have gc : (n6 == 0) = false := by simp; omega
            go_wp2_with (go_at_call 70; first | ((with_reducible (refine (Kn).mono ?_)); rintro r1 w1 ⟨rfl, e1⟩; subst e1; clear Kn) | ((with_reducible (refine (Ki).mono ?_)); rintro r1 w1 ⟨rfl, e1⟩; subst e1; clear Ki) | ((with_reducible (refine (Kp).mono ?_)); rintro r1 w1 ⟨rfl, e1⟩; subst e1; clear Kp) | ((with_reducible (refine (Kb).mono ?_)); rintro r1 w1 ⟨rfl, e1⟩; subst e1; clear Kb) | ((with_reducible (refine (Ka).mono ?_)); rintro r1 w1 ⟨rfl, e1⟩; subst e1; clear Ka) | ((with_reducible (refine (Kc).mono ?_)); rintro r1 w1 ⟨rfl, e1⟩; subst e1; clear Kc))
            go_ret
            exact SomeBool.mk rfl (HZ.out ▸ HB.out)
        · have fa : ((n5 : Int) == 0) = false := by simp; omega
          have ga : (n5 == 0) = false := by simp; omega
          go_wp2_with (go_at_call 70; first | ((with_reducible (refine (Kn).mono ?_)); rintro r1 w1 ⟨rfl, e1⟩; subst e1; clear Kn) | ((with_reducible (refine (Ki).mono ?_)); rintro r1 w1 ⟨rfl, e1⟩; subst e1; clear Ki) | ((with_reducible (refine (Kp).mono ?_)); rintro r1 w1 ⟨rfl, e1⟩; subst e1; clear Kp) | ((with_reducible (refine (Kb).mono ?_)); rintro r1 w1 ⟨rfl, e1⟩; subst e1; clear Kb) | ((with_reducible (refine (Ka).mono ?_)); rintro r1 w1 ⟨rfl, e1⟩; subst e1; clear Ka) | ((with_reducible (refine (Kc).mono ?_)); rintro r1 w1 ⟨rfl, e1⟩; subst e1; clear Kc))
          go_ret
          exact SomeBool.mk rfl (HZ.out ▸ HB.out)
      · have fb : ((n4 : Int) == 0) = false := by simp; omega
        have gb : (n4 == 0) = false := by simp; omega
        go_wp2_with (go_at_call 70; first | ((with_reducible (refine (Kn).mono ?_)); rintro r1 w1 ⟨rfl, e1⟩; subst e1; clear Kn) | ((with_reducible (refine (Ki).mono ?_)); rintro r1 w1 ⟨rfl, e1⟩; subst e1; clear Ki) | ((with_reducible (refine (Kp).mono ?_)); rintro r1 w1 ⟨rfl, e1⟩; subst e1; clear Kp) | ((with_reducible (refine (Kb).mono ?_)); rintro r1 w1 ⟨rfl, e1⟩; subst e1; clear Kb) | ((with_reducible (refine (Ka).mono ?_)); rintro r1 w1 ⟨rfl, e1⟩; subst e1; clear Ka) | ((with_reducible (refine (Kc).mono ?_)); rintro r1 w1 ⟨rfl, e1⟩; subst e1; clear Kc))
        go_ret
        exact SomeBool.mk rfl (HZ.out ▸ HB.out)
    · have fp : ((n3 : Int) == 0) = false := by simp; omega
      have gp : (n3 == 0) = false := by simp; omega
      go_wp2_with (go_at_call 70; first | ((with_reducible (refine (Kn).mono ?_)); rintro r1 w1 ⟨rfl, e1⟩; subst e1; clear Kn) | ((with_reducible (refine (Ki).mono ?_)); rintro r1 w1 ⟨rfl, e1⟩; subst e1; clear Ki) | ((with_reducible (refine (Kp).mono ?_)); rintro r1 w1 ⟨rfl, e1⟩; subst e1; clear Kp) | ((with_reducible (refine (Kb).mono ?_)); rintro r1 w1 ⟨rfl, e1⟩; subst e1; clear Kb) | ((with_reducible (refine (Ka).mono ?_)); rintro r1 w1 ⟨rfl, e1⟩; subst e1; clear Ka) | ((with_reducible (refine (Kc).mono ?_)); rintro r1 w1 ⟨rfl, e1⟩; subst e1; clear Kc))
      go_ret
      exact SomeBool.mk rfl (HZ.out ▸ HB.out)
  · have fi : (nu == 0) = false := by simpa using hi
    go_wp2_with (go_at_call 70; first | ((with_reducible (refine (Kn).mono ?_)); rintro r1 w1 ⟨rfl, e1⟩; subst e1; clear Kn) | ((with_reducible (refine (Ki).mono ?_)); rintro r1 w1 ⟨rfl, e1⟩; subst e1; clear Ki) | ((with_reducible (refine (Kp).mono ?_)); rintro r1 w1 ⟨rfl, e1⟩; subst e1; clear Kp) | ((with_reducible (refine (Kb).mono ?_)); rintro r1 w1 ⟨rfl, e1⟩; subst e1; clear Kb) | ((with_reducible (refine (Ka).mono ?_)); rintro r1 w1 ⟨rfl, e1⟩; subst e1; clear Ka) | ((with_reducible (refine (Kc).mono ?_)); rintro r1 w1 ⟨rfl, e1⟩; subst e1; clear Kc))
    go_ret
    exact SomeBool.mk rfl (HZ.out ▸ HB.out)

set_option maxRecDepth 100000 in
set_option maxHeartbeats 4000000 in
theorem only_i (b o : Nat) (kd nu : Int) (nm : ByteArray) (p q r t : Option Addr) (n3 p2 n4 q2 n5 r2 n6 t2 : Nat) (w : World) (hb : b < w.heap.size) (h : CellsAt w b o [.int .i64 kd, .string nm, .int .i64 nu, .slice p n3 p2, .slice q n4 q2, .slice r n5 r2, .slice t n6 t2]) :
    Calls Try.prog 53 #[.pointer (some ⟨b, o, none⟩), .string ⟨#[105]⟩] w fun e w' => SomeBool w e w' := by
  have hB : Below w.heap.size w (w.alloc (.cells #[.string ⟨#[105]⟩] 9)) := (Below.refl _ w).alloc (Nat.le_refl _) _
  have hc : (w.alloc (.cells #[.string ⟨#[105]⟩] 9)).cell? ⟨w.heap.size, 0, none⟩ = some (.string ⟨#[105]⟩) := (Blk.new w #[.string ⟨#[105]⟩] 9).cell 0
  have Kn := hasF_any ⟨#[105]⟩ 110 w.heap.size (w.alloc (.cells #[.string ⟨#[105]⟩] 9)) hc
  rw [show decide (0 ≤ Lib.indexByte (⟨#[105]⟩ : ByteArray).data.toList 110) = false by decide] at Kn
  have Ki := hasF_any ⟨#[105]⟩ 105 w.heap.size (w.alloc (.cells #[.string ⟨#[105]⟩] 9)) hc
  rw [show decide (0 ≤ Lib.indexByte (⟨#[105]⟩ : ByteArray).data.toList 105) = true by decide] at Ki
  have Kp := hasF_any ⟨#[105]⟩ 112 w.heap.size (w.alloc (.cells #[.string ⟨#[105]⟩] 9)) hc
  rw [show decide (0 ≤ Lib.indexByte (⟨#[105]⟩ : ByteArray).data.toList 112) = false by decide] at Kp
  have Kb := hasF_any ⟨#[105]⟩ 98 w.heap.size (w.alloc (.cells #[.string ⟨#[105]⟩] 9)) hc
  rw [show decide (0 ≤ Lib.indexByte (⟨#[105]⟩ : ByteArray).data.toList 98) = false by decide] at Kb
  have Ka := hasF_any ⟨#[105]⟩ 97 w.heap.size (w.alloc (.cells #[.string ⟨#[105]⟩] 9)) hc
  rw [show decide (0 ≤ Lib.indexByte (⟨#[105]⟩ : ByteArray).data.toList 97) = false by decide] at Ka
  have Kc := hasF_any ⟨#[105]⟩ 99 w.heap.size (w.alloc (.cells #[.string ⟨#[105]⟩] 9)) hc
  rw [show decide (0 ≤ Lib.indexByte (⟨#[105]⟩ : ByteArray).data.toList 99) = false by decide] at Kc
  have x1 := (hB.cell (p := ⟨b, o + 1, none⟩) hb).trans (h 1 _ rfl)
  have x2 := (hB.cell (p := ⟨b, o + 2, none⟩) hb).trans (h 2 _ rfl)
  have x3 := (hB.cell (p := ⟨b, o + 3, none⟩) hb).trans (h 3 _ rfl)
  have x4 := (hB.cell (p := ⟨b, o + 4, none⟩) hb).trans (h 4 _ rfl)
  have x5 := (hB.cell (p := ⟨b, o + 5, none⟩) hb).trans (h 5 _ rfl)
  have x6 := (hB.cell (p := ⟨b, o + 6, none⟩) hb).trans (h 6 _ rfl)
  clear h
  go_enter Try.func53, Try.ntmps53
  go_upto_region 1 with fail
  generalize hW : w.alloc (.cells #[.string ⟨#[105]⟩] 9) = W at *
  generalize hz : w.heap.size = z at *
  clear hW
  have HZ := Lib.hid hz
  have HB := Lib.hid hB
  clear hz hB hc hb
  go_upto_region 2 with fail
  dsimp only [List.append]
  by_cases hn : nm.toList = []
  · have fn : (nm.toList == ([] : List UInt8)) = true := by simpa using hn
    by_cases hp : n3 = 0
    · have fp : ((n3 : Int) == 0) = true := by simp; omega
      have gp : (n3 == 0) = true := by simp; omega
      by_cases hb : n4 = 0
      · have fb : ((n4 : Int) == 0) = true := by simp; omega
        have gb : (n4 == 0) = true := by simp; omega
        by_cases ha : n5 = 0
        · have fa : ((n5 : Int) == 0) = true := by simp; omega
          have ga : (n5 == 0) = true := by simp; omega
          by_cases hc : n6 = 0
          · have fc : ((n6 : Int) == 0) = true := by simp; omega
            have gc : (n6 == 0) = true := by simp; omega
            go_wp2_with (go_at_call 70; first | ((with_reducible (refine (Kn).mono ?_)); rintro r1 w1 ⟨rfl, e1⟩; subst e1; clear Kn) | ((with_reducible (refine (Ki).mono ?_)); rintro r1 w1 ⟨rfl, e1⟩; subst e1; clear Ki) | ((with_reducible (refine (Kp).mono ?_)); rintro r1 w1 ⟨rfl, e1⟩; subst e1; clear Kp) | ((with_reducible (refine (Kb).mono ?_)); rintro r1 w1 ⟨rfl, e1⟩; subst e1; clear Kb) | ((with_reducible (refine (Ka).mono ?_)); rintro r1 w1 ⟨rfl, e1⟩; subst e1; clear Ka) | ((with_reducible (refine (Kc).mono ?_)); rintro r1 w1 ⟨rfl, e1⟩; subst e1; clear Kc))
            go_ret
            exact SomeBool.mk rfl (HZ.out ▸ HB.out)
          · have fc : ((n6 : Int) == 0) = false := by simp; omega
            have gc : (n6 == 0) = false := by simp; omega
            go_wp2_with (go_at_call 70; first | ((with_reducible (refine (Kn).mono ?_)); rintro r1 w1 ⟨rfl, e1⟩; subst e1; clear Kn) | ((with_reducible (refine (Ki).mono ?_)); rintro r1 w1 ⟨rfl, e1⟩; subst e1; clear Ki) | ((with_reducible (refine (Kp).mono ?_)); rintro r1 w1 ⟨rfl, e1⟩; subst e1; clear Kp) | ((with_reducible (refine (Kb).mono ?_)); rintro r1 w1 ⟨rfl, e1⟩; subst e1; clear Kb) | ((with_reducible (refine (Ka).mono ?_)); rintro r1 w1 ⟨rfl, e1⟩; subst e1; clear Ka) | ((with_reducible (refine (Kc).mono ?_)); rintro r1 w1 ⟨rfl, e1⟩; subst e1; clear Kc))
            go_ret
            exact SomeBool.mk rfl (HZ.out ▸ HB.out)
        · have fa : ((n5 : Int) == 0) = false := by simp; omega
          have ga : (n5 == 0) = false := by simp; omega
          go_wp2_with (go_at_call 70; first | ((with_reducible (refine (Kn).mono ?_)); rintro r1 w1 ⟨rfl, e1⟩; subst e1; clear Kn) | ((with_reducible (refine (Ki).mono ?_)); rintro r1 w1 ⟨rfl, e1⟩; subst e1; clear Ki) | ((with_reducible (refine (Kp).mono ?_)); rintro r1 w1 ⟨rfl, e1⟩; subst e1; clear Kp) | ((with_reducible (refine (Kb).mono ?_)); rintro r1 w1 ⟨rfl, e1⟩; subst e1; clear Kb) | ((with_reducible (refine (Ka).mono ?_)); rintro r1 w1 ⟨rfl, e1⟩; subst e1; clear Ka) | ((with_reducible (refine (Kc).mono ?_)); rintro r1 w1 ⟨rfl, e1⟩; subst e1; clear Kc))
          go_ret
          exact SomeBool.mk rfl (HZ.out ▸ HB.out)
      · have fb : ((n4 : Int) == 0) = false := by simp; omega
        have gb : (n4 == 0) = false := by simp; omega
        go_wp2_with (go_at_call 70; first | ((with_reducible (refine (Kn).mono ?_)); rintro r1 w1 ⟨rfl, e1⟩; subst e1; clear Kn) | ((with_reducible (refine (Ki).mono ?_)); rintro r1 w1 ⟨rfl, e1⟩; subst e1; clear Ki) | ((with_reducible (refine (Kp).mono ?_)); rintro r1 w1 ⟨rfl, e1⟩; subst e1; clear Kp) | ((with_reducible (refine (Kb).mono ?_)); rintro r1 w1 ⟨rfl, e1⟩; subst e1; clear Kb) | ((with_reducible (refine (Ka).mono ?_)); rintro r1 w1 ⟨rfl, e1⟩; subst e1; clear Ka) | ((with_reducible (refine (Kc).mono ?_)); rintro r1 w1 ⟨rfl, e1⟩; subst e1; clear Kc))
        go_ret
        exact SomeBool.mk rfl (HZ.out ▸ HB.out)
    · have fp : ((n3 : Int) == 0) = false := by simp; omega
      have gp : (n3 == 0) = false := by simp; omega
      go_wp2_with (go_at_call 70; first | ((with_reducible (refine (Kn).mono ?_)); rintro r1 w1 ⟨rfl, e1⟩; subst e1; clear Kn) | ((with_reducible (refine (Ki).mono ?_)); rintro r1 w1 ⟨rfl, e1⟩; subst e1; clear Ki) | ((with_reducible (refine (Kp).mono ?_)); rintro r1 w1 ⟨rfl, e1⟩; subst e1; clear Kp) | ((with_reducible (refine (Kb).mono ?_)); rintro r1 w1 ⟨rfl, e1⟩; subst e1; clear Kb) | ((with_reducible (refine (Ka).mono ?_)); rintro r1 w1 ⟨rfl, e1⟩; subst e1; clear Ka) | ((with_reducible (refine (Kc).mono ?_)); rintro r1 w1 ⟨rfl, e1⟩; subst e1; clear Kc))
      go_ret
      exact SomeBool.mk rfl (HZ.out ▸ HB.out)
  · have fn : (nm.toList == ([] : List UInt8)) = false := by simpa using hn
    go_wp2_with (go_at_call 70; first | ((with_reducible (refine (Kn).mono ?_)); rintro r1 w1 ⟨rfl, e1⟩; subst e1; clear Kn) | ((with_reducible (refine (Ki).mono ?_)); rintro r1 w1 ⟨rfl, e1⟩; subst e1; clear Ki) | ((with_reducible (refine (Kp).mono ?_)); rintro r1 w1 ⟨rfl, e1⟩; subst e1; clear Kp) | ((with_reducible (refine (Kb).mono ?_)); rintro r1 w1 ⟨rfl, e1⟩; subst e1; clear Kb) | ((with_reducible (refine (Ka).mono ?_)); rintro r1 w1 ⟨rfl, e1⟩; subst e1; clear Ka) | ((with_reducible (refine (Kc).mono ?_)); rintro r1 w1 ⟨rfl, e1⟩; subst e1; clear Kc))
    go_ret
    exact SomeBool.mk rfl (HZ.out ▸ HB.out)

set_option maxRecDepth 100000 in
set_option maxHeartbeats 4000000 in
theorem only_na (b o : Nat) (kd nu : Int) (nm : ByteArray) (p q r t : Option Addr) (n3 p2 n4 q2 n5 r2 n6 t2 : Nat) (w : World) (hb : b < w.heap.size) (h : CellsAt w b o [.int .i64 kd, .string nm, .int .i64 nu, .slice p n3 p2, .slice q n4 q2, .slice r n5 r2, .slice t n6 t2]) :
    Calls Try.prog 53 #[.pointer (some ⟨b, o, none⟩), .string ⟨#[110, 97]⟩] w fun e w' => SomeBool w e w' := by
  have hB : Below w.heap.size w (w.alloc (.cells #[.string ⟨#[110, 97]⟩] 9)) := (Below.refl _ w).alloc (Nat.le_refl _) _
  have hc : (w.alloc (.cells #[.string ⟨#[110, 97]⟩] 9)).cell? ⟨w.heap.size, 0, none⟩ = some (.string ⟨#[110, 97]⟩) := (Blk.new w #[.string ⟨#[110, 97]⟩] 9).cell 0
  have Kn := hasF_any ⟨#[110, 97]⟩ 110 w.heap.size (w.alloc (.cells #[.string ⟨#[110, 97]⟩] 9)) hc
  rw [show decide (0 ≤ Lib.indexByte (⟨#[110, 97]⟩ : ByteArray).data.toList 110) = true by decide] at Kn
  have Ki := hasF_any ⟨#[110, 97]⟩ 105 w.heap.size (w.alloc (.cells #[.string ⟨#[110, 97]⟩] 9)) hc
  rw [show decide (0 ≤ Lib.indexByte (⟨#[110, 97]⟩ : ByteArray).data.toList 105) = false by decide] at Ki
  have Kp := hasF_any ⟨#[110, 97]⟩ 112 w.heap.size (w.alloc (.cells #[.string ⟨#[110, 97]⟩] 9)) hc
  rw [show decide (0 ≤ Lib.indexByte (⟨#[110, 97]⟩ : ByteArray).data.toList 112) = false by decide] at Kp
  have Kb := hasF_any ⟨#[110, 97]⟩ 98 w.heap.size (w.alloc (.cells #[.string ⟨#[110, 97]⟩] 9)) hc
  rw [show decide (0 ≤ Lib.indexByte (⟨#[110, 97]⟩ : ByteArray).data.toList 98) = false by decide] at Kb
  have Ka := hasF_any ⟨#[110, 97]⟩ 97 w.heap.size (w.alloc (.cells #[.string ⟨#[110, 97]⟩] 9)) hc
  rw [show decide (0 ≤ Lib.indexByte (⟨#[110, 97]⟩ : ByteArray).data.toList 97) = true by decide] at Ka
  have Kc := hasF_any ⟨#[110, 97]⟩ 99 w.heap.size (w.alloc (.cells #[.string ⟨#[110, 97]⟩] 9)) hc
  rw [show decide (0 ≤ Lib.indexByte (⟨#[110, 97]⟩ : ByteArray).data.toList 99) = false by decide] at Kc
  have x1 := (hB.cell (p := ⟨b, o + 1, none⟩) hb).trans (h 1 _ rfl)
  have x2 := (hB.cell (p := ⟨b, o + 2, none⟩) hb).trans (h 2 _ rfl)
  have x3 := (hB.cell (p := ⟨b, o + 3, none⟩) hb).trans (h 3 _ rfl)
  have x4 := (hB.cell (p := ⟨b, o + 4, none⟩) hb).trans (h 4 _ rfl)
  have x5 := (hB.cell (p := ⟨b, o + 5, none⟩) hb).trans (h 5 _ rfl)
  have x6 := (hB.cell (p := ⟨b, o + 6, none⟩) hb).trans (h 6 _ rfl)
  clear h
  go_enter Try.func53, Try.ntmps53
  go_upto_region 1 with fail
  generalize hW : w.alloc (.cells #[.string ⟨#[110, 97]⟩] 9) = W at *
  generalize hz : w.heap.size = z at *
  clear hW
  have HZ := Lib.hid hz
  have HB := Lib.hid hB
  clear hz hB hc hb
  go_upto_region 2 with fail
  dsimp only [List.append]
  by_cases hi : nu = 0
  · have fi : (nu == 0) = true := by simpa using hi
    by_cases hp : n3 = 0
    · have fp : ((n3 : Int) == 0) = true := by simp; omega
      have gp : (n3 == 0) = true := by simp; omega
      by_cases hb : n4 = 0
      · have fb : ((n4 : Int) == 0) = true := by simp; omega
        have gb : (n4 == 0) = true := by simp; omega
        by_cases hc : n6 = 0
        · have fc : ((n6 : Int) == 0) = true := by simp; omega
          have gc : (n6 == 0) = true := by simp; omega
          go_wp2_with (go_at_call 70; first | ((with_reducible (refine (Kn).mono ?_)); rintro r1 w1 ⟨rfl, e1⟩; subst e1; clear Kn) | ((with_reducible (refine (Ki).mono ?_)); rintro r1 w1 ⟨rfl, e1⟩; subst e1; clear Ki) | ((with_reducible (refine (Kp).mono ?_)); rintro r1 w1 ⟨rfl, e1⟩; subst e1; clear Kp) | ((with_reducible (refine (Kb).mono ?_)); rintro r1 w1 ⟨rfl, e1⟩; subst e1; clear Kb) | ((with_reducible (refine (Ka).mono ?_)); rintro r1 w1 ⟨rfl, e1⟩; subst e1; clear Ka) | ((with_reducible (refine (Kc).mono ?_)); rintro r1 w1 ⟨rfl, e1⟩; subst e1; clear Kc))
          go_ret
          exact SomeBool.mk rfl (HZ.out ▸ HB.out)
        · have fc : ((n6 : Int) == 0) = false := by simp; omega
          have gc : (n6 == 0) = false := by simp; omega
          go_wp2_with (go_at_call 70; first | ((with_reducible (refine (Kn).mono ?_)); rintro r1 w1 ⟨rfl, e1⟩; subst e1; clear Kn) | ((with_reducible (refine (Ki).mono ?_)); rintro r1 w1 ⟨rfl, e1⟩; subst e1; clear Ki) | ((with_reducible (refine (Kp).mono ?_)); rintro r1 w1 ⟨rfl, e1⟩; subst e1; clear Kp) | ((with_reducible (refine (Kb).mono ?_)); rintro r1 w1 ⟨rfl, e1⟩; subst e1; clear Kb) | ((with_reducible (refine (Ka).mono ?_)); rintro r1 w1 ⟨rfl, e1⟩; subst e1; clear Ka) | ((with_reducible (refine (Kc).mono ?_)); rintro r1 w1 ⟨rfl, e1⟩; subst e1; clear Kc))
          go_ret
          exact SomeBool.mk rfl (HZ.out ▸ HB.out)
      · have fb : ((n4 : Int) == 0) = false := by simp; omega
        have gb : (n4 == 0) = false := by simp; omega
        go_wp2_with (go_at_call 70; first | ((with_reducible (refine (Kn).mono ?_)); rintro r1 w1 ⟨rfl, e1⟩; subst e1; clear Kn) | ((with_reducible (refine (Ki).mono ?_)); rintro r1 w1 ⟨rfl, e1⟩; subst e1; clear Ki) | ((with_reducible (refine (Kp).mono ?_)); rintro r1 w1 ⟨rfl, e1⟩; subst e1; clear Kp) | ((with_reducible (refine (Kb).mono ?_)); rintro r1 w1 ⟨rfl, e1⟩; subst e1; clear Kb) | ((with_reducible (refine (Ka).mono ?_)); rintro r1 w1 ⟨rfl, e1⟩; subst e1; clear Ka) | ((with_reducible (refine (Kc).mono ?_)); rintro r1 w1 ⟨rfl, e1⟩; subst e1; clear Kc))
        go_ret
        exact SomeBool.mk rfl (HZ.out ▸ HB.out)
    · have fp : ((n3 : Int) == 0) = false := by simp; omega
      have gp : (n3 == 0) = false := by simp; omega
      go_wp2_with (go_at_call 70; first | ((with_reducible (refine (Kn).mono ?_)); rintro r1 w1 ⟨rfl, e1⟩; subst e1; clear Kn) | ((with_reducible (refine (Ki).mono ?_)); rintro r1 w1 ⟨rfl, e1⟩; subst e1; clear Ki) | ((with_reducible (refine (Kp).mono ?_)); rintro r1 w1 ⟨rfl, e1⟩; subst e1; clear Kp) | ((with_reducible (refine (Kb).mono ?_)); rintro r1 w1 ⟨rfl, e1⟩; subst e1; clear Kb) | ((with_reducible (refine (Ka).mono ?_)); rintro r1 w1 ⟨rfl, e1⟩; subst e1; clear Ka) | ((with_reducible (refine (Kc).mono ?_)); rintro r1 w1 ⟨rfl, e1⟩; subst e1; clear Kc))
      go_ret
      exact SomeBool.mk rfl (HZ.out ▸ HB.out)
  · have fi : (nu == 0) = false := by simpa using hi
    go_wp2_with (go_at_call 70; first | ((with_reducible (refine (Kn).mono ?_)); rintro r1 w1 ⟨rfl, e1⟩; subst e1; clear Kn) | ((with_reducible (refine (Ki).mono ?_)); rintro r1 w1 ⟨rfl, e1⟩; subst e1; clear Ki) | ((with_reducible (refine (Kp).mono ?_)); rintro r1 w1 ⟨rfl, e1⟩; subst e1; clear Kp) | ((with_reducible (refine (Kb).mono ?_)); rintro r1 w1 ⟨rfl, e1⟩; subst e1; clear Kb) | ((with_reducible (refine (Ka).mono ?_)); rintro r1 w1 ⟨rfl, e1⟩; subst e1; clear Ka) | ((with_reducible (refine (Kc).mono ?_)); rintro r1 w1 ⟨rfl, e1⟩; subst e1; clear Kc))
    go_ret
    exact SomeBool.mk rfl (HZ.out ▸ HB.out)
end Go.Proofs.Ytkcgchpflppmnaa
