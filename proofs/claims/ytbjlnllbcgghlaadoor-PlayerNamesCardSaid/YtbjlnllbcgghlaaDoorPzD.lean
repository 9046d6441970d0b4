/- PlayerNames, walked. -/
import Derived.Test.YtbjlnllbcgghlaaDoorPyY
import Derived.Lib.SlBytesConst
namespace Go.Proofs.YtbjlnllbcgghlaaDoor
open Go.RowKit Go.Shelf
set_option linter.unusedSimpArgs false
set_option linter.unusedVariables false

theorem line_words {x : PlD} (h : fineK x = true) : lineK x = (wordsK x).1 ++ (wordsK x).2.flatMap (fun y => 32 :: y) := mkW_inj (words_ok h).2
/-- No play's line is "run 07". -/
theorem no_run07 (x : PlD) (h : fineK x = true) : mkW [114, 117, 110, 32, 48, 55] ≠ mkW (lineK x) := by
  intro e
  have e := mkW_inj e
  rw [line_words h] at e
  rcases play_none h with k | k | k | k | k
  · rw [k] at e; have := congrArg (·[0]?) e; simp at this
  · obtain ⟨-, k2, k3, k4⟩ := play_run h k
    rw [k, k2] at e
    simp at e
    have a := atoi_itoa x.n k3 k4
    rw [← e] at a
    have b : Lib.atoiAll [48, 55] = .ok 7 := by decide
    rw [b] at a
    have hn : x.n = 7 := (Lib.NumEnd.ok.inj a).symm
    have h7 : Lib.itoa 7 = [55] := by decide +kernel
    rw [hn, h7] at e
    revert e; decide
  · rw [k] at e; have := congrArg (·[0]?) e; simp at this
  · rw [k] at e; have := congrArg (·[0]?) e; simp at this
  · rw [k] at e; have := congrArg (·[0]?) e; simp at this
/-- No play's line is "feed 6". -/
theorem no_feed6 (x : PlD) (h : fineK x = true) : mkW [102, 101, 101, 100, 32, 54] ≠ mkW (lineK x) := by
  intro e
  have e := mkW_inj e
  rcases play_none h with k | k | k | k | k
  · obtain ⟨k1, k2⟩ := play_feed h k
    have hl := feed_len x.bytes
    have e2 : lineK x = feedL ++ x.bytes.flatMap pieceL := by rw [line_words h, k, k2, List.flatMap_map]
    rw [e2] at e
    have := congrArg List.length e
    rw [hl] at this
    simp at this
    omega
  all_goals
    rw [line_words h, k] at e; have := congrArg (·[0]?) e; simp at this
theorem bad0 : parseK (mkW [114, 117, 110, 32, 48, 55, 10]) = ([], 6, 0) := by
  have hf : FirstNl ((mkW [114, 117, 110, 32, 48, 55, 10]).data.toList.drop 0) 6 := ⟨rfl, fun k hk => by
    rcases k with _ | _ | _ | _ | _ | _ | k <;> first | (simp [mkW]; done) | omega⟩
  exact (GoS.start _).bad hf no_run07
theorem bad1 : parseK (mkW [102, 101, 101, 100, 32, 54, 10]) = ([], 6, 0) := by
  have hf : FirstNl ((mkW [102, 101, 101, 100, 32, 54, 10]).data.toList.drop 0) 6 := ⟨rfl, fun k hk => by
    rcases k with _ | _ | _ | _ | _ | _ | k <;> first | (simp [mkW]; done) | omega⟩
  exact (GoS.start _).bad hf no_feed6
theorem bad2 : parseK (mkW [101, 110, 100]) = ([], 6, 0) := by
  have hf : NoNl ((mkW [101, 110, 100]).data.toList.drop 0) := fun k => by
    rcases k with _ | _ | _ | k <;> simp [mkW]
  exact (GoS.start _).no (by decide) hf
def pl6 : List PlD := [⟨3, 5, []⟩, ⟨4, 0, []⟩, ⟨3, 7, []⟩, ⟨1, 0, [97]⟩, ⟨1, 0, [98]⟩, ⟨3, 0, []⟩]
def pl2 : List PlD := [⟨3, 12, []⟩, ⟨1, 0, [97, 98]⟩]
theorem pl6_chk : chkK pl6 = 0 := by decide
theorem pl6_plain : plainK pl6 = pl2 := by simp [plainK, pl6, pl2, stepP, skipK, joinK]
theorem pl6_small : smallK pl6 := ⟨by decide, by decide⟩
theorem ex_in : mkW (inB exK) = ⟨#[97, 98]⟩ ∧ endB exK = true ∧ stepsK exK = 100 := by decide +kernel
abbrev ab1 (w : World) (c : Int) : World := w.alloc (.cells #[.int .u8 c] 5 (1, 2))
abbrev w6 (w : World) (b : Nat) : World := (ab1 (ab1 w 97) 98).alloc (.cells #[.int .i64 3, .int .i64 5, .slice none 0 0, .int .i64 4, .int .i64 0, .slice none 0 0, .int .i64 3, .int .i64 7, .slice none 0 0, .int .i64 1, .int .i64 0, .slice (some ⟨b, 0, none⟩) 1 1, .int .i64 1, .int .i64 0, .slice (some ⟨b + 1, 0, none⟩) 1 1, .int .i64 3, .int .i64 0, .slice none 0 0] 34)
theorem pls6 (w : World) (b : Nat) (hb : w.heap.size = b) : Pls (w6 w b) (.slice (some ⟨b + 1 + 1, 0, none⟩) 6 6) pl6 ∧ Below w.heap.size w (w6 w b) := by
  have l1 : Below w.heap.size w (ab1 w 97) := (Below.refl _ w).alloc (Nat.le_refl _) _
  have l2 : Below (ab1 w 97).heap.size (ab1 w 97) (ab1 (ab1 w 97) 98) := (Below.refl _ _).alloc (Nat.le_refl _) _
  have l3 : Below (ab1 (ab1 w 97) 98).heap.size (ab1 (ab1 w 97) 98) (w6 w b) := (Below.refl _ _).alloc (Nat.le_refl _) _
  have R1 := (CB.new w #[.int .u8 97] 5 (1, 2)).below (chain l2 l3)
  have R2 := (CB.new (ab1 w 97) #[.int .u8 98] 5 (1, 2)).below l3
  have R3 := CB.new (ab1 (ab1 w 97) 98) #[.int .i64 3, .int .i64 5, .slice none 0 0, .int .i64 4, .int .i64 0, .slice none 0 0, .int .i64 3, .int .i64 7, .slice none 0 0, .int .i64 1, .int .i64 0, .slice (some ⟨b, 0, none⟩) 1 1, .int .i64 1, .int .i64 0, .slice (some ⟨b + 1, 0, none⟩) 1 1, .int .i64 3, .int .i64 0, .slice none 0 0] 34 (0, 0)
  have z1 : (ab1 w 97).heap.size = b + 1 := by simp [ab1, hb]
  have z2 : (ab1 (ab1 w 97) 98).heap.size = b + 1 + 1 := by simp [ab1, hb]
  rw [hb] at R1
  rw [z1] at R2
  rw [z2] at R3
  refine ⟨pls_of R3 [(⟨3, 5, []⟩, .slice none 0 0), (⟨4, 0, []⟩, .slice none 0 0), (⟨3, 7, []⟩, .slice none 0 0), (⟨1, 0, [97]⟩, .slice (some ⟨b, 0, none⟩) 1 1), (⟨1, 0, [98]⟩, .slice (some ⟨b + 1, 0, none⟩) 1 1), (⟨3, 0, []⟩, .slice none 0 0)] rfl (fun u hu => ?_) 6 6 rfl, chain l1 (chain l2 l3)⟩
  simp only [List.mem_cons, List.not_mem_nil, or_false] at hu
  rcases hu with rfl | rfl | rfl | rfl | rfl | rfl
  · exact Bts.emp _
  · exact Bts.emp _
  · exact Bts.emp _
  · exact bts_of R1 [97] rfl 1 1 rfl
  · exact bts_of R2 [98] rfl 1 1 rfl
  · exact Bts.emp _
abbrev ab2 (w : World) : World := w.alloc (.cells #[.int .u8 97, .int .u8 98] 5 (2, 3))
abbrev w7 (w : World) (b : Nat) : World := (ab2 w).alloc (.cells #[.int .i64 3, .int .i64 12, .slice none 0 0, .int .i64 1, .int .i64 0, .slice (some ⟨b, 0, none⟩) 2 2] 34)
theorem pls7 (w : World) (b : Nat) (hb : w.heap.size = b) : Pls (w7 w b) (.slice (some ⟨b + 1, 0, none⟩) 2 2) pl2 ∧ Below w.heap.size w (w7 w b) := by
  have l1 : Below w.heap.size w (ab2 w) := (Below.refl _ w).alloc (Nat.le_refl _) _
  have l2 : Below (ab2 w).heap.size (ab2 w) (w7 w b) := (Below.refl _ _).alloc (Nat.le_refl _) _
  have R1 := (CB.new w #[.int .u8 97, .int .u8 98] 5 (2, 3)).below l2
  have R2 := CB.new (ab2 w) #[.int .i64 3, .int .i64 12, .slice none 0 0, .int .i64 1, .int .i64 0, .slice (some ⟨b, 0, none⟩) 2 2] 34 (0, 0)
  have z1 : (ab2 w).heap.size = b + 1 := by simp [ab2, hb]
  rw [hb] at R1
  rw [z1] at R2
  refine ⟨pls_of R2 [(⟨3, 12, []⟩, .slice none 0 0), (⟨1, 0, [97, 98]⟩, .slice (some ⟨b, 0, none⟩) 2 2)] rfl (fun u hu => ?_) 2 2 rfl, chain l1 l2⟩
  simp only [List.mem_cons, List.not_mem_nil, or_false] at hu
  rcases hu with rfl | rfl
  · exact Bts.emp _
  · exact bts_of R1 [97, 98] rfl 2 2 rfl
set_option maxRecDepth 100000 in
set_option maxHeartbeats 2000000 in
theorem names_walk (w : World) (hL : LayP w) :
    Calls Tryd.prog 3 #[] w fun e w' => e = .returned (.bool true) ∧ Below w.heap.size w w' := by
  go_enter Tryd.func3, Tryd.ntmps3
  go_upto_region 3 with (go_at_call 6; refine (lives_any w hL).mono ?_; rintro e w1 ⟨rfl, b1⟩; have HB1 := Lib.hid b1; clear b1)
  have l2 : Below w1.heap.size w1 (w1.alloc (.cells #[.string ⟨#[114, 117, 110, 32, 48, 55, 10]⟩, .string ⟨#[102, 101, 101, 100, 32, 54, 10]⟩, .string ⟨#[101, 110, 100]⟩] 9)) := (Below.refl _ w1).alloc (Nat.le_refl _) _
  have R2 := Blk.new w1 #[.string ⟨#[114, 117, 110, 32, 48, 55, 10]⟩, .string ⟨#[102, 101, 101, 100, 32, 54, 10]⟩, .string ⟨#[101, 110, 100]⟩] 9
  have HB2 := Lib.hid (chain HB1.out l2)
  clear l2
  go_upto_region 4 with fail
  generalize w1.alloc (.cells #[.string ⟨#[114, 117, 110, 32, 48, 55, 10]⟩, .string ⟨#[102, 101, 101, 100, 32, 54, 10]⟩, .string ⟨#[101, 110, 100]⟩] 9) = w2 at R2 HB2 ⊢
  generalize w1.heap.size = sb at R2 ⊢
  have HR2 := Lib.hid R2
  clear R2
  go_wp2
  go_loopw [2] (fun i wr => ∃ k : Nat, i = .int .i64 k ∧ k ≤ 3 ∧ Below w2.heap.size w2 wr) (fun i _ => 3 - (intOf i).toNat)
  case atStart => exact ⟨0, rfl, by decide, Below.refl _ _⟩
  case round =>
    obtain ⟨k, rfl, hk, hB⟩ := hrel
    have HW := Lib.hid (chain HB2.out hB)
    have R := HR2.out.below hB HR2.out.lt
    have c0 : wr.cell? ⟨sb, 0, none⟩ = _ := R.cell 0
    have c1 : wr.cell? ⟨sb, 1, none⟩ = _ := R.cell 1
    have c2 : wr.cell? ⟨sb, 2, none⟩ = _ := R.cell 2
    simp only [List.getElem?_toArray, List.getElem?_cons_zero, List.getElem?_cons_succ] at c0 c1 c2
    clear R
    have key : ∀ (t : List UInt8), parseK (mkW t) = ([], 6, 0) → t.length ≤ 100 → Calls Tryd.prog 7 #[.string (mkW t)] wr fun e w' => (∃ a c, e = .returned (.tuple #[.slice a 0 c, .agg #[.int .i64 6, .int .i64 0]])) ∧ Below wr.heap.size wr w' := fun t ht hl => by
      refine (parse_any (mkW t) wr (by rw [show (mkW t).size = t.length by simp [mkW, ByteArray.size]]; omega) (hL.on HW.out)).mono ?_
      rintro e w' ⟨v, l, er, at_, hp, rfl, hpl, b⟩
      rw [ht] at hp
      simp only [Prod.mk.injEq] at hp
      obtain ⟨rfl, rfl, rfl⟩ := hp
      obtain ⟨a, c, rfl, -⟩ := hpl
      exact ⟨⟨a, c, rfl⟩, b⟩
    have K0 := key _ bad0 (by decide)
    have K1 := key _ bad1 (by decide)
    have K2 := key _ bad2 (by decide)
    clear key
    have HBk := Lib.hid hB
    clear hB
    rcases k with _ | _ | _ | k
    · go_wp2_with (go_at_call 7; refine K0.mono ?_; rintro r1 w3 ⟨⟨a, c, rfl⟩, b3⟩; have HB3 := Lib.hid (chain HBk.out (chain b3 ((Below.refl _ w3).alloc (Nat.le_refl _) (.cells #[.int .i64 6, .int .i64 0] 27)))); clear b3)
      go_roundw
      case rel => exact ⟨1, rfl, by decide, HB3.out⟩
      case measure => simp [intOf]
    · go_wp2_with (go_at_call 7; refine K1.mono ?_; rintro r1 w3 ⟨⟨a, c, rfl⟩, b3⟩; have HB3 := Lib.hid (chain HBk.out (chain b3 ((Below.refl _ w3).alloc (Nat.le_refl _) (.cells #[.int .i64 6, .int .i64 0] 27)))); clear b3)
      go_roundw
      case rel => exact ⟨2, rfl, by decide, HB3.out⟩
      case measure => simp [intOf]
    · go_wp2_with (go_at_call 7; refine K2.mono ?_; rintro r1 w3 ⟨⟨a, c, rfl⟩, b3⟩; have HB3 := Lib.hid (chain HBk.out (chain b3 ((Below.refl _ w3).alloc (Nat.le_refl _) (.cells #[.int .i64 6, .int .i64 0] 27)))); clear b3)
      go_roundw
      case rel => exact ⟨3, rfl, by decide, HB3.out⟩
      case measure => simp [intOf]
    · obtain rfl : k = 0 := by omega
      clear c0 c1 c2 K0 K1 K2
      have HW4 := HW
      clear HW HBk
      go_upto_region 10 with fail
      have hcva := fun (w : World) => Lib.run_convert_bytes_const (P := Tryd.prog) w 32 5 #[.int .u8 97] 1 1 Tryd.underlying32 Tryd.underlying5
      have hcvb := fun (w : World) => Lib.run_convert_bytes_const (P := Tryd.prog) w 32 5 #[.int .u8 98] 1 1 Tryd.underlying32 Tryd.underlying5
      rw [show (#[Value.int .u8 97] : Array Value).size = 1 from rfl] at hcva
      rw [show (#[Value.int .u8 98] : Array Value).size = 1 from rfl] at hcvb
      obtain ⟨b, hb⟩ : ∃ b, wr.heap.size = b := ⟨_, rfl⟩
      have z1 : (wr.alloc (.cells #[.int .u8 97] 5 (1, 2))).heap.size = b + 1 := by simp [hb]
      have k1 := hcva wr
      have k2 := hcvb (wr.alloc (.cells #[.int .u8 97] 5 (1, 2)))
      rw [hb] at k1
      rw [z1] at k2
      have HK := Lib.hid (And.intro hb z1)
      clear hcva hcvb
      obtain ⟨hp6, hb6⟩ := pls6 wr b hb
      have K6 := plain_any _ pl6 (w6 wr b) hp6 pl6_small
      have HB6 := Lib.hid (chain HW4.out hb6)
      clear hp6 hb6
      go_upto_region 11 with (go_at_call 8; refine K6.mono ?_; rintro r5 w5 ⟨v5, rfl, -, hp5, b5⟩; rw [pl6_chk]; rw [if_pos pl6_chk, pl6_plain] at hp5; have HP5 := Lib.hid hp5; have HB5 := Lib.hid (chain HB6.out b5); clear hp5 b5)
      clear k1 k2 K6
      go_upto_region 12 with (first | (go_at_call 10; refine (example_any _).mono ?_; rintro r6 w8 ⟨v6, rfl, hp8, hr8, b8⟩; have HP8 := Lib.hid hp8; have HR8 := Lib.hid hr8; have HB8 := Lib.hid b8; clear hp8 hr8 b8) | (go_at_call 9; refine (input_any v6 exK w8 HP8.out ex_small HR8.out).mono ?_; rintro r7 w9 ⟨v7, rfl, hv7, b9⟩; rw [ex_in.2.1]; have HV7 := Lib.hid hv7; have HB9 := Lib.hid (chain HB8.out b9); clear hv7 b9))
      obtain ⟨b9, hb9⟩ : ∃ b, w9.heap.size = b := ⟨_, rfl⟩
      have k1 := Lib.run_convert_bytes_const (P := Tryd.prog) w9 32 5 #[.int .u8 97, .int .u8 98] 2 2 Tryd.underlying32 Tryd.underlying5
      rw [show (#[Value.int .u8 97, .int .u8 98] : Array Value).size = 2 from rfl, hb9] at k1
      have z2 : (ab2 w9).heap.size = b9 + 1 := by simp [ab2, hb9]
      obtain ⟨hp7, hb7⟩ := pls7 w9 b9 hb9
      have K7 := same_plays v5 _ pl2 (w7 w9 b9) (HP5.out.below (chain HB9.out hb7)) hp7 (by decide)
      have HV77 := Lib.hid (HV7.out.below hb7)
      have HB79 := Lib.hid (chain HB9.out hb7)
      clear hp7 hb7
      go_wp2_with (first | (go_at_call 11; with_reducible (refine K7.mono ?_); rintro r8 w10 ⟨rfl, b10⟩; have kv := bts_str (HV77.out.below b10); rw [ex_in.1] at kv; have HB10 := Lib.hid (chain HB79.out b10); clear b10 K7) | (go_at_call 10; refine (example_any w10).mono ?_; rintro r9 w11 ⟨v8, rfl, hp11, -, b11⟩; have HP11 := Lib.hid hp11; have HB11 := Lib.hid (chain HB10.out b11); clear hp11 b11) | (go_at_call 12; refine (steps_any v8 exK w11 HP11.out (by decide)).mono ?_; rintro r10 w12 ⟨rfl, b12⟩; rw [ex_in.2.2]; have HB12 := Lib.hid (chain HB11.out b12); clear b12))
      go_ret
      exact ⟨rfl, chain HB5.out HB12.out⟩
end Go.Proofs.YtbjlnllbcgghlaaDoor
