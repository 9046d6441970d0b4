/- The reference's digit; the places of a feed's line. -/
import Derived.Test.YtbjlnllbcgghlaaDoorPyI
namespace Go.Proofs.YtbjlnllbcgghlaaDoor
open Go.RowKit Go.Shelf
open Ev (AV Mem V VL MR)
set_option linter.unusedSimpArgs false
set_option linter.unusedVariables false

def digZ (k : Nat) : Int := bif Nat.ble 48 k && Nat.ble k 57 then Int.ofNat (k - 48) else bif Nat.ble 97 k && Nat.ble k 102 then Int.ofNat (k - 87) else -1
set_option maxRecDepth 1000000 in
theorem digit_runs : fam Ev.noFacts 40 (fun k => [.int .u8 (Int.ofNat k)]) (fun k => .int .i64 (digZ k)) 256 = true := by kernel_rfl
theorem digit_any (c : Nat) (hc : c < 256) (w : World) : Calls Tryd.prog 40 #[.int .u8 (c : Int)] w fun e w' => e = .returned (.int .i64 (digZ c)) ∧ Below w.heap.size w w' := by
  refine valued (ν := ν0) (r := .int .i64 (digZ c)) (fam_at digit_runs c hc) (by simp only [VL, V]; exact ⟨_, _, rfl, rfl, rfl⟩) (fun E x h => ?_) w
  simpa only [V] using h
theorem digZ_dig : ∀ i : Fin 16, digZ (digB i.1).toNat = (i.1 : Int) := by decide
theorem digZ_pos : ∀ c : Fin 256, 0 ≤ digZ c.1 → digZ c.1 < 16 ∧ (digB (digZ c.1).toNat).toNat = c.1 := by decide +kernel
abbrev feedL : List UInt8 := [102, 101, 101, 100]
abbrev pieceL (c : UInt8) : List UInt8 := 32 :: hexK c
theorem flat_len (l : List UInt8) : (l.flatMap pieceL).length = 3 * l.length := by
  induction l with
  | nil => rfl
  | cons c l ih => rw [List.flatMap_cons, List.length_append, ih, List.length_cons]; simp [hexK]; omega
theorem feed_len (bs : List UInt8) : (feedL ++ bs.flatMap pieceL).length = 4 + 3 * bs.length := by
  rw [List.length_append, flat_len]; rfl
theorem feed_at {bs : List UInt8} {k : Nat} {c : UInt8} (h : bs[k]? = some c) :
    (feedL ++ bs.flatMap pieceL)[4 + 3 * k]? = some 32 ∧ (feedL ++ bs.flatMap pieceL)[4 + 3 * k + 1]? = some (digB (c.toNat / 16)) ∧ (feedL ++ bs.flatMap pieceL)[4 + 3 * k + 2]? = some (digB (c.toNat % 16)) := by
  obtain ⟨hk, rfl⟩ := List.getElem?_eq_some_iff.1 h
  have e : feedL ++ bs.flatMap pieceL = (feedL ++ (bs.take k).flatMap pieceL) ++ (pieceL bs[k] ++ (bs.drop (k + 1)).flatMap pieceL) := by
    conv => lhs; rw [← List.take_append_drop k bs, List.drop_eq_getElem_cons hk]
    rw [List.flatMap_append, List.flatMap_cons, List.append_assoc]
  have hl : (feedL ++ (bs.take k).flatMap pieceL).length = 4 + 3 * k := by rw [feed_len, List.length_take]; omega
  rw [e]
  refine ⟨?_, ?_, ?_⟩
  · rw [List.getElem?_append_right (by omega), hl, Nat.sub_self]; rfl
  · rw [List.getElem?_append_right (by omega), hl, show 4 + 3 * k + 1 - (4 + 3 * k) = 1 by omega]; rfl
  · rw [List.getElem?_append_right (by omega), hl, show 4 + 3 * k + 2 - (4 + 3 * k) = 2 by omega]; rfl
theorem take_feed {l bs : List UInt8} {k : Nat} {x y z : UInt8} (h : l.take (4 + 3 * k) = feedL ++ bs.flatMap pieceL) (hx : l[4 + 3 * k]? = some x) (hy : l[4 + 3 * k + 1]? = some y) (hz : l[4 + 3 * k + 2]? = some z) {c : UInt8} (hc : [x, y, z] = pieceL c) :
    l.take (4 + 3 * (k + 1)) = feedL ++ (bs ++ [c]).flatMap pieceL := by
  rw [show 4 + 3 * (k + 1) = 4 + 3 * k + 1 + 1 + 1 by omega, List.take_add_one, List.take_add_one, List.take_add_one, h, hx, hy, show 4 + 3 * k + 1 + 1 = 4 + 3 * k + 2 by omega, hz, List.flatMap_append, List.flatMap_cons, List.flatMap_nil, List.append_nil, ← hc]
  simp
/-- Two digits that are digits make a byte whose digits they are. -/
theorem byte_of {y z : UInt8} (hy : 0 ≤ digZ y.toNat) (hz : 0 ≤ digZ z.toNat) : 0 ≤ 16 * digZ y.toNat + digZ z.toNat ∧ 16 * digZ y.toNat + digZ z.toNat ≤ 255 ∧ [32, y, z] = pieceL (UInt8.ofNat (16 * digZ y.toNat + digZ z.toNat).toNat) := by
  obtain ⟨y1, y2⟩ := digZ_pos ⟨y.toNat, y.toNat_lt⟩ hy
  obtain ⟨z1, z2⟩ := digZ_pos ⟨z.toNat, z.toNat_lt⟩ hz
  simp only at y1 y2 z1 z2
  obtain ⟨a, ha⟩ := Int.eq_ofNat_of_zero_le hy
  obtain ⟨d, hd⟩ := Int.eq_ofNat_of_zero_le hz
  rw [ha] at y1 y2
  rw [hd] at z1 z2
  rw [ha, hd]
  refine ⟨by omega, by omega, ?_⟩
  have e : (UInt8.ofNat (16 * (a : Int) + (d : Int)).toNat).toNat = 16 * a + d := by
    rw [show (16 * (a : Int) + (d : Int)).toNat = 16 * a + d by omega]
    simp; omega
  show _ = 32 :: hexK _
  unfold hexK
  rw [e, show (16 * a + d) / 16 = a by omega, show (16 * a + d) % 16 = d by omega]
  rw [show (a : Int).toNat = a from rfl] at y2
  rw [show (d : Int).toNat = d from rfl] at z2
  rw [UInt8.toNat_inj.1 y2, UInt8.toNat_inj.1 z2]
theorem dig_of_hex (c : UInt8) : digZ (digB (c.toNat / 16)).toNat = ((c.toNat / 16 : Nat) : Int) ∧ digZ (digB (c.toNat % 16)).toNat = ((c.toNat % 16 : Nat) : Int) := by
  have hc := c.toNat_lt
  exact ⟨digZ_dig ⟨c.toNat / 16, by omega⟩, digZ_dig ⟨c.toNat % 16, by omega⟩⟩
end Go.Proofs.YtbjlnllbcgghlaaDoor
