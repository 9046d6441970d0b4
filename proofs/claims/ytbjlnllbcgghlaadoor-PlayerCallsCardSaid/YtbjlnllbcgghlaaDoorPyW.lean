/- The chapter's script; lives. -/
import Derived.Test.YtbjlnllbcgghlaaDoorPyV
import Derived.Lib.SlBytesConst
namespace Go.Proofs.YtbjlnllbcgghlaaDoor
open Go.RowKit Go.Shelf
set_option linter.unusedSimpArgs false
set_option linter.unusedVariables false

def exK : List PlD := [⟨1, 0, [97, 98]⟩, ⟨3, 100, []⟩, ⟨4, 0, []⟩, ⟨2, 0, []⟩]
/-- The cells of a block. -/
structure CB (W : World) (b : Nat) (c : Array Value) : Prop where
  lt : b < W.heap.size
  cell : ∀ j, W.cell? ⟨b, j, none⟩ = c[j]?
theorem CB.new (W : World) (c : Array Value) (t : TypeId) (fr : Nat × Nat) : CB (W.alloc (.cells c t fr)) W.heap.size c := by
  have h := heap_alloc_new W (.cells c t fr)
  exact ⟨by simp, fun j => by unfold World.cell?; rw [h]; rfl⟩
theorem CB.below {W W' : World} {b : Nat} {c : Array Value} (h : CB W b c) (hb : Below W.heap.size W W') : CB W' b c :=
  ⟨Nat.lt_of_lt_of_le h.lt hb.size, fun j => (World.cell?_of_block (w := W) (a := ⟨b, j, none⟩) (hb.block b h.lt)).trans (h.cell j)⟩
theorem Blk.cb {W : World} {b : Nat} {c : Array Value} (h : Blk W b c) : CB W b c := ⟨h.lt, h.cell⟩
/-- Plays in a block, one behind the other. -/
theorem pls_of {W : World} {b : Nat} {c : Array Value} (R : CB W b c) (us : List (PlD × Value)) (hc : c.toList = (us.map prow).flatten) (hb : ∀ u ∈ us, Bts W u.2 u.1.bytes) (n cap : Nat) (hn : us.length = n) : Pls W (.slice (some ⟨b, 0, none⟩) n cap) (us.map (·.1)) := by
  subst hn
  refine ⟨_, cap, by rw [List.length_map], fun _ => ⟨b, 0, rfl, R.lt, fun k x hx => ?_⟩⟩
  rw [List.getElem?_map] at hx
  obtain ⟨u, hu, rfl⟩ := Option.map_eq_some_iff.1 hx
  refine ⟨u.2, fun j q hj => ?_, hb u (List.mem_of_getElem? hu)⟩
  have hj3 : j < 3 := by have := (List.getElem?_eq_some_iff.1 hj).1; simpa using this
  refine (R.cell _).trans ?_
  rw [← Array.getElem?_toList, hc, Nat.zero_add, flatten_get (n := 3) (by decide) (fun r hr => by obtain ⟨u, _, rfl⟩ := List.mem_map.1 hr; rfl), show (k * 3 + j) / 3 = k by omega, show (k * 3 + j) % 3 = j by omega, List.getElem?_map, hu]
  exact hj
theorem bts_of {W : World} {b : Nat} {c : Array Value} (R : CB W b c) (l : List UInt8) (hc : c.toList = l.map fun x => Value.int .u8 (x.toNat : Int)) (n cap : Nat) (hn : l.length = n) : Bts W (.slice (some ⟨b, 0, none⟩) n cap) l := by
  subst hn
  refine ⟨_, cap, rfl, fun _ => ⟨b, 0, rfl, R.lt, fun k x hx => ?_⟩⟩
  refine (R.cell _).trans ?_
  rw [← Array.getElem?_toList, hc, Nat.zero_add, Nat.mul_one, List.getElem?_map, hx]; rfl
theorem Bts.emp (W : World) : Bts W (.slice none 0 0) [] := ⟨none, 0, rfl, fun h => by simp at h⟩
set_option maxRecDepth 100000 in
set_option maxHeartbeats 8000000 in
theorem example_any (w : World) : Calls Tryd.prog 10 #[] w fun e w' => ∃ v, e = .returned v ∧ Pls w' v exK ∧ Room v ∧ Below w.heap.size w w' := by
  have l1 : Below w.heap.size w (w.alloc (.cells #[.int .u8 97, .int .u8 98] 5 (2, 3))) := (Below.refl _ w).alloc (Nat.le_refl _) _
  have R1 := CB.new w #[.int .u8 97, .int .u8 98] 5 (2, 3)
  have hcv := Lib.run_convert_bytes_const (P := Tryd.prog) w 32 5 #[.int .u8 97, .int .u8 98] 2 2 Tryd.underlying32 Tryd.underlying5
  rw [show (#[Value.int .u8 97, .int .u8 98] : Array Value).size = 2 from rfl] at hcv
  go_enter Tryd.func10, Tryd.ntmps10
  go_wp2
  have z1 : (w.alloc (.cells #[.int .u8 97, .int .u8 98] 5 (2, 3))).heap.size = w.heap.size + 1 := by simp
  generalize w.alloc (.cells #[.int .u8 97, .int .u8 98] 5 (2, 3)) = W1 at l1 R1 z1 ⊢
  generalize hg : w.heap.size = g at *
  have R2 := CB.new W1 #[.int .i64 1, .int .i64 0, .slice (some ⟨g, 0, none⟩) 2 2, .int .i64 3, .int .i64 100, .slice none 0 0, .int .i64 4, .int .i64 0, .slice none 0 0, .int .i64 2, .int .i64 0, .slice none 0 0] 34 (0, 0)
  have l2 : Below W1.heap.size W1 (W1.alloc (.cells #[.int .i64 1, .int .i64 0, .slice (some ⟨g, 0, none⟩) 2 2, .int .i64 3, .int .i64 100, .slice none 0 0, .int .i64 4, .int .i64 0, .slice none 0 0, .int .i64 2, .int .i64 0, .slice none 0 0] 34)) := (Below.refl _ W1).alloc (Nat.le_refl _) _
  rw [z1] at R2
  have hP := pls_of R2 [(⟨1, 0, [97, 98]⟩, .slice (some ⟨g, 0, none⟩) 2 2), (⟨3, 100, []⟩, .slice none 0 0), (⟨4, 0, []⟩, .slice none 0 0), (⟨2, 0, []⟩, .slice none 0 0)] rfl (fun u hu => by
    simp only [List.mem_cons, List.not_mem_nil, or_false] at hu
    rcases hu with rfl | rfl | rfl | rfl
    · exact bts_of (R1.below l2) [97, 98] rfl 2 2 rfl
    · exact Bts.emp _
    · exact Bts.emp _
    · exact Bts.emp _) 4 4 rfl
  go_ret
  exact ⟨_, rfl, hP, Room.of (by decide), hg ▸ (l1.trans (l2.mono (by omega)))⟩
theorem ex_small : smallK exK := ⟨by decide, by decide⟩
theorem ex_chk : chkK exK = 0 := by decide
theorem ex_text : mkW (textS exK) = ⟨#[102, 101, 101, 100, 32, 54, 49, 32, 54, 50, 10, 114, 117, 110, 32, 49, 48, 48, 10, 109, 105, 110, 111, 114, 10, 101, 110, 100, 10]⟩ := by decide +kernel
theorem zero_pls (w : World) : Pls (w.alloc (.cells #[.int .i64 0, .int .i64 0, .slice none 0 0] 34)) (.slice (some ⟨w.heap.size, 0, none⟩) 1 1) [⟨0, 0, []⟩] :=
  pls_of (CB.new w #[.int .i64 0, .int .i64 0, .slice none 0 0] 34 (0, 0)) [(⟨0, 0, []⟩, .slice none 0 0)] rfl (fun u hu => by simp at hu; subst hu; exact Bts.emp _) 1 1 rfl
theorem zero_chk : chkK [⟨0, 0, []⟩] = 2 := by decide
set_option maxRecDepth 100000 in
set_option maxHeartbeats 8000000 in
theorem lives_any (w : World) (hL : LayP w) : Calls Tryd.prog 6 #[] w fun e w' => e = .returned (.bool true) ∧ Below w.heap.size w w' := by
  go_enter Tryd.func6, Tryd.ntmps6
  go_upto_region 1 with fail
  go_wp2_with (first | (go_at_call 10; refine (example_any _).mono ?_; rintro r1 w1 ⟨v, rfl, hP, -, b1⟩; have HP := Lib.hid hP; have HB := Lib.hid b1; clear hP b1) | (go_at_call 14; refine (text_any v exK w1 HP.out ex_small (hL.on HB.out)).mono ?_; rintro r2 w2 ⟨rfl, b2⟩; have HB2 := Lib.hid (chain HB.out b2); clear b2; rw [ex_text, ex_chk]) | (go_at_call 19; refine (check_any _ [⟨0, 0, []⟩] _ (zero_pls w2)).mono ?_; rintro r3 w3 ⟨rfl, b3⟩; rw [zero_chk]; have HB3 := Lib.hid (chain HB2.out (chain ((Below.refl _ w2).alloc (Nat.le_refl _) _) b3)); clear b3))
  go_ret
  exact ⟨rfl, HB3.out⟩
end Go.Proofs.YtbjlnllbcgghlaaDoor
