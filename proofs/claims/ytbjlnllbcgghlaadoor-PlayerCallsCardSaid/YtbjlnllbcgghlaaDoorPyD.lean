/- A byte's two digits; a play's line. -/
import Derived.Test.YtbjlnllbcgghlaaDoorPyC
namespace Go.Proofs.YtbjlnllbcgghlaaDoor
open Go.RowKit Go.Shelf
open Ev (AV Mem V VL MR)
set_option linter.unusedSimpArgs false
set_option linter.unusedVariables false

def digN (n : Nat) : Nat := bif Nat.blt n 10 then 48 + n else 87 + n
def digB (n : Nat) : UInt8 := UInt8.ofNat (digN n)
def hexK (c : UInt8) : List UInt8 := [digB (c.toNat / 16), digB (c.toNat % 16)]
set_option maxRecDepth 1000000 in
theorem hex_runs : fam Ev.noFacts 38 (fun k => [.int .u8 (Int.ofNat k)]) (fun k => .str [digN (k / 16), digN (k % 16)]) 256 = true := by kernel_rfl
theorem hex_any (c : UInt8) (w : World) : Calls Tryd.prog 38 #[.int .u8 (c.toNat : Int)] w fun e w' => e = .returned (.string ⟨(hexK c).toArray⟩) ∧ Below w.heap.size w w' := by
  refine valued (ν := ν0) (r := .str [digN (c.toNat / 16), digN (c.toNat % 16)]) (fam_at hex_runs c.toNat c.toNat_lt) (by simp only [VL, V]; exact ⟨_, _, rfl, rfl, rfl⟩) (fun E x h => ?_) w
  simp only [V] at h
  exact h.1

def lineK (x : PlD) : List UInt8 := if x.kind = 1 then [102, 101, 101, 100] ++ x.bytes.flatMap (fun c => 32 :: hexK c) else if x.kind = 3 then [114, 117, 110, 32] ++ Lib.itoa x.n else if x.kind = 2 then [101, 110, 100] else if x.kind = 4 then [109, 105, 110, 111, 114] else [109, 97, 106, 111, 114]

theorem enc_lt (n : Nat) (h : n < 128) : Utf8.encode (n : Int) = ⟨#[UInt8.ofNat n]⟩ := by
  have hv : Utf8.valid (n : Int) = true := by unfold Utf8.valid; simp; omega
  unfold Utf8.encode
  rw [hv]
  simp only [if_true, Int.toNat_natCast]
  rw [if_pos (by omega)]
theorem tab_dig : ∀ k : Fin 16, ((#[48, 49, 50, 51, 52, 53, 54, 55, 56, 57, 97, 98, 99, 100, 101, 102] : Array UInt8).getD k.1 0).toNat = digN k.1 := by decide
theorem digN_lt (k : Nat) (h : k < 16) : digN k < 128 := by
  unfold digN
  rcases hb : Nat.blt k 10 with _ | _
  · simp; omega
  · simp; omega
theorem enc_dig (H : Nat) (hH : H < 16) (h : H < (⟨#[48, 49, 50, 51, 52, 53, 54, 55, 56, 57, 97, 98, 99, 100, 101, 102]⟩ : ByteArray).size) : Utf8.encode ((GetElem.getElem (⟨#[48, 49, 50, 51, 52, 53, 54, 55, 56, 57, 97, 98, 99, 100, 101, 102]⟩ : ByteArray) H h).toNat : Int) = ⟨#[digB H]⟩ := by
  have e : (GetElem.getElem (⟨#[48, 49, 50, 51, 52, 53, 54, 55, 56, 57, 97, 98, 99, 100, 101, 102]⟩ : ByteArray) H h).toNat = digN H := by
    have := tab_dig ⟨H, hH⟩
    rw [← this]
    show ((GetElem.getElem (#[48, 49, 50, 51, 52, 53, 54, 55, 56, 57, 97, 98, 99, 100, 101, 102] : Array UInt8) H h)).toNat = _
    rw [Array.getD_eq_getD_getElem?, Array.getElem?_eq_getElem h]
    rfl
  rw [e, enc_lt _ (digN_lt H hH)]
  rfl
theorem feed_cat (A : List UInt8) (a b : UInt8) : (⟨A.toArray⟩ : ByteArray) ++ ((⟨#[32]⟩ : ByteArray) ++ ⟨#[a]⟩ ++ ⟨#[b]⟩) = ⟨(A ++ [32, a, b]).toArray⟩ := by
  rw [show (⟨#[32]⟩ : ByteArray) = ⟨[32].toArray⟩ from rfl, show (⟨#[a]⟩ : ByteArray) = ⟨[a].toArray⟩ from rfl, show (⟨#[b]⟩ : ByteArray) = ⟨[b].toArray⟩ from rfl, cat_eq, cat_eq, cat_eq]
  rfl
theorem feed_next {l : List UInt8} {k : Nat} {c : UInt8} (hx : l[k]? = some c) : ([102, 101, 101, 100] ++ (l.take (k + 1)).flatMap (fun c => 32 :: hexK c) : List UInt8) = ([102, 101, 101, 100] ++ (l.take k).flatMap (fun c => 32 :: hexK c)) ++ [32, digB (c.toNat / 16), digB (c.toNat % 16)] := by
  rw [List.take_add_one, hx]
  simp [List.flatMap_append, hexK]
set_option maxRecDepth 100000 in
set_option maxHeartbeats 8000000 in
theorem line_feed (v : Value) (l : List UInt8) (n : Int) (w : World) (h : Bts w v l) (hn : l.length ≤ 10000000) :
    Calls Tryd.prog 28 #[.agg #[.int .i64 1, .int .i64 n, v]] w fun e w' => e = .returned (.string ⟨([102, 101, 101, 100] ++ l.flatMap (fun c => 32 :: hexK c)).toArray⟩) ∧ Below w.heap.size w w' := by
  obtain ⟨a, ca, rfl, ha⟩ := h
  obtain ⟨N, hN⟩ : ∃ N, l.length = N := ⟨_, rfl⟩
  have HN := Lib.hid hN
  have Ha := Lib.hid ha
  rw [hN] at hn ⊢
  clear ha hN
  have HB0 := Lib.hid (show Below w.heap.size w (w.alloc (.cells #[.int .i64 1, .int .i64 n, .slice a N ca] 34)) from (Below.refl _ w).alloc (Nat.le_refl _) _)
  go_enter Tryd.func28, Tryd.ntmps28
  go_upto_region 5 with fail
  generalize w.alloc (.cells #[.int .i64 1, .int .i64 n, .slice a N ca] 34) = W0 at HB0 ⊢
  go_loopw [3, 5, 13] (fun s _ i wr => ∃ (k : Nat) (u : ByteArray), i = .int .i64 k ∧ s = .string u ∧ k ≤ N ∧ u.size ≤ 4 + 3 * k ∧ Hid (u = ⟨([102, 101, 101, 100] ++ (l.take k).flatMap (fun c => 32 :: hexK c)).toArray⟩) ∧ Below w.heap.size w wr) (fun _ _ i _ => N - (intOf i).toNat)
  case atStart => exact ⟨0, _, rfl, rfl, Nat.zero_le _, by decide, Lib.hid rfl, HB0.out⟩
  case round =>
    obtain ⟨k, u, rfl, rfl, hk, hu, HU, hB⟩ := hrel
    by_cases hlt : k < N
    · have hlt2 : decide ((k : Int) < (N : Int)) = true := by simp; omega
      have hlt3 : decide (k < N) = true := by simp; omega
      have hi0 : (0 : Int) ≤ (k : Int) := by omega
      have hkt : k < l.length := by rw [HN.out]; exact hlt
      obtain ⟨p, o, rfl, hp, hat⟩ := Ha.out (by omega)
      obtain ⟨c, hx⟩ : ∃ x, l[k]? = some x := ⟨_, List.getElem?_eq_getElem hkt⟩
      have c0 := (hB.cell (p := ⟨p, o + k * 1, none⟩) hp).trans (hat k c hx)
      rw [Nat.mul_one] at c0
      have HX := Lib.hid hx
      obtain ⟨cn, hcn⟩ : ∃ n, c.toNat = n := ⟨_, rfl⟩
      have hc8 : cn < 256 := hcn ▸ c.toNat_lt
      rw [hcn] at c0
      obtain ⟨H, hH⟩ : ∃ H, cn / 16 = H := ⟨_, rfl⟩
      obtain ⟨L, hL⟩ : ∃ L, cn % 16 = L := ⟨_, rfl⟩
      have hH16 : H < 16 := by omega
      have hL16 : L < 16 := by omega
      have q1 : (cn : Int) / 16 = (H : Int) := by omega
      have q2 := u8_and15 (x := (cn : Int)) (by omega) (by omega)
      rw [show (cn : Int) % 16 = (L : Int) by omega] at q2
      have q3 : (0 : Int) ≤ (H : Int) := by omega
      have q4 : (0 : Int) ≤ (L : Int) := by omega
      have q5 : (H : Int) < 16 := by omega
      have q6 : (L : Int) < 16 := by omega
      have e1 := fun h => (enc_dig H hH16 h)
      have e2 := fun h => (enc_dig L hL16 h)
      have z1 : (⟨#[digB H]⟩ : ByteArray).size = 1 := rfl
      have z2 : (⟨#[digB L]⟩ : ByteArray).size = 1 := rfl
      obtain ⟨u1, hu1⟩ : ∃ u, (⟨#[digB H]⟩ : ByteArray) = u := ⟨_, rfl⟩
      obtain ⟨u2, hu2⟩ : ∃ u, (⟨#[digB L]⟩ : ByteArray) = u := ⟨_, rfl⟩
      rw [hu1] at e1 z1
      rw [hu2] at e2 z2
      have HU1 := Lib.hid hu1
      have HU2 := Lib.hid hu2
      have HC := Lib.hid (show H = cn / 16 ∧ L = cn % 16 from ⟨hH.symm, hL.symm⟩)
      have HCN := Lib.hid hcn
      have HB := Lib.hid hB
      clear hat hx hu1 hu2 hH hL hcn
      go_upto_region 7 with fail
      go_region
      all_goals
        go_wp2
        go_roundw
        case measure => simp [intOf]; omega
        case rel => exact ⟨k + 1, _, by go_num, rfl, by omega, by simp only [ByteArray.size_append, z1, z2]; rw [show (⟨#[32]⟩ : ByteArray).size = 1 from rfl]; omega, Lib.hid (by rw [HU.out, ← HU1.out, ← HU2.out, HC.out.1, HC.out.2, ← HCN.out, feed_cat, feed_next HX.out]), HB.out.trans ⟨rfl, rfl, rfl, Nat.le_refl _, fun _ _ => rfl⟩⟩
    · have hlt2 : decide ((k : Int) < (N : Int)) = false := by simp; omega
      have hlt3 : decide (k < N) = false := by simp; omega
      obtain rfl : N = k := by omega
      have HU2 := Lib.hid (show u = ⟨([102, 101, 101, 100] ++ l.flatMap (fun c => 32 :: hexK c)).toArray⟩ by rw [HU.out, ← HN.out, List.take_length])
      clear HU hlt hlt2 hlt3
      go_wp2
      go_ret
      exact ⟨Eq.trans (b := Ending.returned (Value.string u)) rfl (congrArg (fun z => Ending.returned (Value.string z)) HU2.out), hB⟩
set_option maxRecDepth 100000 in
set_option maxHeartbeats 8000000 in
theorem rline_feed (v : Value) (l : List UInt8) (n : Int) (w : World) (h : Bts w v l) (hn : l.length ≤ 10000000) :
    Calls Tryd.prog 30 #[.agg #[.int .i64 1, .int .i64 n, v]] w fun e w' => e = .returned (.string ⟨([102, 101, 101, 100] ++ l.flatMap (fun c => 32 :: hexK c)).toArray⟩) ∧ Below w.heap.size w w' := by
  obtain ⟨a, ca, rfl, ha⟩ := h
  obtain ⟨N, hN⟩ : ∃ N, l.length = N := ⟨_, rfl⟩
  have HN := Lib.hid hN
  have Ha := Lib.hid ha
  rw [hN] at hn ⊢
  clear ha hN
  have HB0 := Lib.hid (show Below w.heap.size w (w.alloc (.cells #[.int .i64 1, .int .i64 n, .slice a N ca] 34)) from (Below.refl _ w).alloc (Nat.le_refl _) _)
  have R := Blk.new w #[.int .i64 1, .int .i64 n, .slice a N ca] 34
  go_enter Tryd.func30, Tryd.ntmps30
  go_upto_region 5 with fail
  generalize w.alloc (.cells #[.int .i64 1, .int .i64 n, .slice a N ca] 34) = W0 at HB0 R ⊢
  generalize hbq : w.heap.size = b at R ⊢
  have HR := Lib.hid R
  clear R
  go_loopw [3, 4] (fun s i wr => ∃ (k : Nat) (u : ByteArray), i = .int .i64 k ∧ s = .string u ∧ k ≤ N ∧ u.size ≤ 4 + 3 * k ∧ Hid (u = ⟨([102, 101, 101, 100] ++ (l.take k).flatMap (fun c => 32 :: hexK c)).toArray⟩) ∧ Below W0.heap.size W0 wr) (fun _ i _ => N - (intOf i).toNat)
  case atStart => exact ⟨0, _, rfl, rfl, Nat.zero_le _, by decide, Lib.hid rfl, Below.refl _ _⟩
  case round =>
    obtain ⟨k, u, rfl, rfl, hk, hu, HU, hB⟩ := hrel
    have r2 : wr.cell? ⟨b, 2, none⟩ = _ := (HR.out.below hB HR.out.lt).cell 2
    simp only [List.getElem?_toArray, List.getElem?_cons_zero, List.getElem?_cons_succ] at r2
    by_cases hlt : k < N
    · have hlt2 : decide ((k : Int) < (N : Int)) = true := by simp; omega
      have hlt3 : decide (k < N) = true := by simp; omega
      have hi0 : (0 : Int) ≤ (k : Int) := by omega
      have hkt : k < l.length := by rw [HN.out]; exact hlt
      obtain ⟨p, o, rfl, hp, hat⟩ := Ha.out (by omega)
      obtain ⟨c, hx⟩ : ∃ x, l[k]? = some x := ⟨_, List.getElem?_eq_getElem hkt⟩
      have c0 := ((HB0.out.trans (hB.mono HB0.out.size)).cell (p := ⟨p, o + k * 1, none⟩) hp).trans (hat k c hx)
      rw [Nat.mul_one] at c0
      have HX := Lib.hid hx
      obtain ⟨h2, hh2⟩ : ∃ u, (⟨(hexK c).toArray⟩ : ByteArray) = u := ⟨_, rfl⟩
      have z2 : h2.size = 2 := by rw [← hh2]; rfl
      have KH := hex_any c wr
      rw [hh2] at KH
      have HH := Lib.hid hh2
      have HB := Lib.hid hB
      clear hat hx hh2
      go_wp2_with (go_at_call 38; refine KH.mono ?_; rintro r1 w1 ⟨rfl, b1⟩; have K1 := Lib.hid (chain HB.out b1); clear b1)
      go_roundw
      case measure => simp [intOf]; omega
      case rel => exact ⟨k + 1, _, by go_num, rfl, by omega, by simp only [ByteArray.size_append, z2]; rw [show (⟨#[32]⟩ : ByteArray).size = 1 from rfl]; omega, Lib.hid (by rw [HU.out, ← HH.out, feed_next HX.out, show (⟨#[32]⟩ : ByteArray) = ⟨[32].toArray⟩ from rfl, cat_eq, cat_eq, List.append_assoc]; rfl), K1.out⟩
    · have hlt2 : decide ((k : Int) < (N : Int)) = false := by simp; omega
      have hlt3 : decide (k < N) = false := by simp; omega
      obtain rfl : N = k := by omega
      have HU2 := Lib.hid (show u = ⟨([102, 101, 101, 100] ++ l.flatMap (fun c => 32 :: hexK c)).toArray⟩ by rw [HU.out, ← HN.out, List.take_length])
      clear HU hlt hlt2 hlt3
      go_wp2
      go_ret
      exact ⟨Eq.trans (b := Ending.returned (Value.string u)) rfl (congrArg (fun z => Ending.returned (Value.string z)) HU2.out), HB0.out.trans (hB.mono HB0.out.size)⟩
end Go.Proofs.YtbjlnllbcgghlaaDoor
