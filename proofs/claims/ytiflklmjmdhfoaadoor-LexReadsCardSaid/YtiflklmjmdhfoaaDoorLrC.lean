/- The document's lexer: what is passed over; numbers. The document's lexer: numbers and characters. -/
import Derived.Test.YtiflklmjmdhfoaaDoorLrA
namespace Go.Proofs.YtiflklmjmdhfoaaDoor
open Go.RowKit Go.Shelf
set_option linter.unusedSimpArgs false

theorem blank_known (c : UInt8) (b : Bool) (hb : blankN c.toNat = b) (w : World) : Calls Tryd.prog 51 #[.int .u8 c.toNat] w fun e w' => e = .returned (.bool b) ∧ Below w.heap.size w w' := bool_known rblank_any c b hb w
theorem drop_cons (s : ByteArray) (k : Nat) (h : k < s.size) : s.data.toList.drop k = s[k] :: s.data.toList.drop (k + 1) := List.drop_eq_getElem_cons (l := s.data.toList) (i := k) h
theorem span_nl_at (l : List UInt8) (at_ k : Nat) (h : at_ + k < l.length) : spanB (fun n => !Nat.beq n 10) ((l.drop at_).drop k) = if l[at_ + k].toNat = 10 then 0 else spanB (fun n => !Nat.beq n 10) ((l.drop at_).drop (k + 1)) + 1 := by
  rw [span_drop _ l at_ k h]
  by_cases e : l[at_ + k].toNat = 10
  · rw [if_pos e, e]; rfl
  · rw [if_neg e, if_pos]
    cases hb : Nat.beq l[at_ + k].toNat 10 with
    | false => rfl
    | true => exact absurd (Nat.eq_of_beq_eq_true hb) e

set_option maxRecDepth 100000 in
set_option maxHeartbeats 8000000 in
theorem rpassed_any (s : ByteArray) (hs : s.size ≤ 100000) (at_ : Nat) (ha : at_ < s.size) (w : World) :
    Calls Tryd.prog 34 #[.string s, .int .i64 at_] w fun e w' => e = .returned (.int .i64 (passedK (s.data.toList.drop at_))) ∧ Below w.heap.size w w' := by
  have hsl : s.data.toList.length = s.size := rfl
  have hd := drop_cons s at_ ha
  obtain ⟨L, hL⟩ : ∃ L, s.data.toList.drop at_ = L := ⟨_, rfl⟩
  obtain ⟨R, hR⟩ : ∃ R, passedK L = R := ⟨_, rfl⟩
  obtain ⟨a, hae⟩ : ∃ a, s[at_] = a := ⟨_, rfl⟩
  rw [hL] at hd ⊢
  rw [hR]
  rw [hae] at hd
  cases hb : blankN a.toNat with
  | true =>
    have Hr := Lib.hid (show R = 1 by rw [← hR, hd]; simp only [passedK, hb, if_true])
    have Hb := Lib.hid (fun w => blank_known a true hb w)
    clear hd hL hR hb
    go_enter Tryd.func34, Tryd.ntmps34
    go_wp2_with (go_at_call 51; refine (Hb.out _).mono ?_; rintro e w1 ⟨rfl, b1⟩; have l1 := chain (Below.refl _ w) b1; clear b1)
    go_ret
    exact ⟨by rw [Hr.out]; rfl, l1⟩
  | false =>
    have hRr : R = remarkK L := by rw [← hR, hd]; simp only [passedK, hb]; rfl
    have Hb := Lib.hid (fun w => blank_known a false hb w)
    have hlen : L.length = s.size - at_ := by rw [← hL, List.length_drop, hsl]
    clear hR hb
    by_cases hn : at_ + 1 < s.size ∧ L.take 2 = [123, 45]
    · obtain ⟨h1, h2⟩ := hn
      have hd2 := drop_cons s (at_ + 1) h1
      rw [hd2] at hd
      rw [hd] at h2
      simp only [List.take_succ_cons, List.take_zero, List.cons.injEq] at h2
      obtain ⟨h2a, h2b, _⟩ := h2
      have hz : spanB symN L = 0 := by rw [hd, h2a]; exact spanP_zero _ _ _ (by decide)
      have hrem : R = nestGo L.length L 0 0 := by
        rw [hRr]; unfold remarkK
        rw [hz, if_neg (by omega), if_pos]
        rw [hd, h2a, h2b]; rfl
      have Hn := Lib.hid (fun w => nested_known s hs at_ (by omega) R (by rw [hL]; exact hrem.symm) w)
      have e0 : decide ((at_ : Int) + 1 < (s.size : Int)) = true := by simp; omega
      have e1 : ((a.toNat : Int) == 123) = true := (byte_num a 123 (by omega)).1 h2a
      have e2 : ((s[at_ + 1].toNat : Int) == 45) = true := (byte_num _ 45 (by omega)).1 h2b
      clear hd hd2 hL hz hrem h2a h2b hRr hlen
      go_enter Tryd.func34, Tryd.ntmps34
      go_wp2_with (first | (go_at_call 51; refine (Hb.out _).mono ?_; rintro e w1 ⟨rfl, b1⟩; have l1 := chain (Below.refl _ w) b1; clear b1) | (go_at_call 52; refine (Hn.out _).mono ?_; rintro e w2 ⟨rfl, b2⟩; have l2 := chain l1 b2; clear b2))
      go_ret
      exact ⟨rfl, l2⟩
    · obtain ⟨n, hsp⟩ : ∃ n, spanB symN L = n := ⟨_, rfl⟩
      have hnl : n ≤ s.size - at_ := by rw [← hsp, ← hlen]; exact spanB_le _ _
      have Hs := Lib.hid (fun w => symbols_known s hs at_ (by omega) n (by rw [hL]; exact hsp) w)
      have h2 : ¬ L.take 2 = [123, 45] := by
        intro h
        refine hn ⟨?_, h⟩
        have := congrArg List.length h
        simp [hlen] at this
        omega
      have hrem : R = if 2 ≤ n ∧ dashes (L.take n) = true then ((spanB (fun n => !Nat.beq n 10) L : Nat) : Int) else (0 : Int) := by
        rw [hRr]; unfold remarkK; rw [hsp, if_neg h2]
      have hguard : (decide ((at_ : Int) + 1 < (s.size : Int)) = false) ∨ (decide ((at_ : Int) + 1 < (s.size : Int)) = true ∧ at_ + 1 < s.size ∧ ((a.toNat : Int) == 123) = false) ∨ (∃ h : at_ + 1 < s.size, decide ((at_ : Int) + 1 < (s.size : Int)) = true ∧ ((a.toNat : Int) == 123) = true ∧ ((s[at_ + 1].toNat : Int) == 45) = false) := by
        by_cases g : at_ + 1 < s.size
        · by_cases g2 : a = 123
          · refine .inr (.inr ⟨g, by simp; omega, (byte_num a 123 (by omega)).1 g2, (byte_num _ 45 (by omega)).2 fun g3 => h2 ?_⟩)
            have hd2 := drop_cons s (at_ + 1) g
            rw [hd, hd2, g2, g3]; rfl
          · exact .inr (.inl ⟨by simp; omega, g, (byte_num a 123 (by omega)).2 g2⟩)
        · exact .inl (by simp; omega)
      have Hrem := Lib.hid hrem
      have HL := Lib.hid hL
      have Hsp := Lib.hid hsp
      clear hd hL hsp hn h2 hrem hRr hlen
      rcases hguard with e0 | ⟨e0, hg, e1⟩ | ⟨hg, e0, e1, e2⟩
      all_goals
        go_enter Tryd.func34, Tryd.ntmps34
        go_wp2_with (first | (go_at_call 51; refine (Hb.out _).mono ?_; rintro e w1 ⟨rfl, b1⟩; have l1 := chain (Below.refl _ w) b1; clear b1) | (go_at_call 53; refine (Hs.out _).mono ?_; rintro e w2 ⟨rfl, b2⟩; have l2 := chain l1 b2; clear b2))
        go_loop [6] (fun i => ∃ k : Nat, i = .int .i64 k ∧ k ≤ n ∧ Hid (dashes (L.take k) = true)) (fun i => n - (intOf i).toNat)
        case atStart => exact ⟨0, rfl, Nat.zero_le _, Lib.hid rfl⟩
        case round =>
          obtain ⟨k, rfl, hk, Hk⟩ := hrel
          by_cases hlt : k < n
          · have hlt2 : decide ((k : Int) < (n : Int)) = true := by simp; omega
            have hlt3 : decide (k < n) = true := by simp; omega
            have hin : at_ + k < s.size := by omega
            have hel : L[k]? = some s[at_ + k] := by rw [← HL.out, List.getElem?_drop]; exact List.getElem?_eq_getElem (l := s.data.toList) hin
            by_cases c : s[at_ + k] = 45
            · have e5 : ((s[at_ + k].toNat : Int) != 45) = false := by rw [c]; rfl
              have Hn := Lib.hid (show dashes (L.take (k + 1)) = true by
                rw [dash_iff]
                intro x hx
                rw [List.take_add_one, hel] at hx
                rcases List.mem_append.1 hx with hx | hx
                · exact (dash_iff _).1 Hk.out x hx
                · simp at hx; rw [hx]; exact c)
              clear hel c
              go_wp2
              go_round
              case rel => exact ⟨k + 1, by go_num, by omega, Hn⟩
              case measure => simp [intOf]; omega
            · have e5 : ((s[at_ + k].toNat : Int) != 45) = true := by
                have := (byte_num s[at_ + k] 45 (by omega)).2 c
                rw [beq_eq_false_iff_ne] at this
                rw [bne_iff_ne]; exact this
              have Hn := Lib.hid (show R = 0 by
                rw [Hrem.out, if_neg]
                rintro ⟨_, h⟩
                refine c ((dash_iff _).1 h _ (List.mem_of_getElem? (i := k) ?_))
                rw [List.getElem?_take, if_pos hlt]; exact hel)
              clear hel c
              go_wp2
              go_ret
              exact ⟨by rw [Hn.out]; rfl, l2⟩
          · have hlt2 : decide ((k : Int) < (n : Int)) = false := by simp; omega
            have hlt3 : decide (k < n) = false := by simp; omega
            have hkn : k = n := by omega
            have Hda := Lib.hid (show dashes (L.take n) = true by rw [← hkn]; exact Hk.out)
            clear hkn
            by_cases h2 : n < 2
            · have e6 : decide ((n : Int) < 2) = true := by simp; omega
              have Hn := Lib.hid (show R = 0 by rw [Hrem.out, if_neg (by omega)])
              clear h2
              go_wp2
              go_ret
              exact ⟨by rw [Hn.out]; rfl, l2⟩
            · have e6 : decide ((n : Int) < 2) = false := by simp; omega
              have Hn := Lib.hid (show R = (spanB (fun n => !Nat.beq n 10) L : Nat) by rw [Hrem.out, if_pos ⟨by omega, Hda.out⟩])
              have hstart : spanB (fun n => !Nat.beq n 10) L = n + spanB (fun n => !Nat.beq n 10) (L.drop n) := by
                have gen : ∀ (l : List UInt8) (m : Nat), m ≤ spanB (fun n => !Nat.beq n 10) l → spanB (fun n => !Nat.beq n 10) l = m + spanB (fun n => !Nat.beq n 10) (l.drop m) := by
                  intro l
                  induction l with
                  | nil => intro m hm; simp [spanB] at hm ⊢; omega
                  | cons c l ih =>
                    intro m hm
                    cases m with
                    | zero => simp
                    | succ m =>
                      rw [spanB] at hm ⊢
                      split at hm
                      · rename_i g
                        rw [if_pos g, List.drop_succ_cons, ih m (by omega)]; omega
                      · omega
                exact gen L n (by rw [← Hsp.out]; exact span_nl L)
              have Hst := Lib.hid hstart
              clear h2 hstart
              go_wp2
              go_loop [5] (fun i => ∃ m : Nat, i = .int .i64 m ∧ at_ + m ≤ s.size ∧ Hid (spanB (fun n => !Nat.beq n 10) L = m + spanB (fun n => !Nat.beq n 10) ((s.data.toList.drop at_).drop m))) (fun i => s.size - (intOf i).toNat)
              case atStart => exact ⟨n, rfl, by omega, Lib.hid (by rw [HL.out]; exact Hst.out)⟩
              case round =>
                obtain ⟨m, rfl, hm, Hm⟩ := hrel
                by_cases hl3 : at_ + m < s.size
                · have hl4 : decide ((at_ : Int) + (m : Int) < (s.size : Int)) = true := by simp; omega
                  have hl5 : decide (at_ + m < s.size) = true := by simp; omega
                  have hat := span_nl_at s.data.toList at_ m hl3
                  by_cases c : s.data.toList[at_ + m].toNat = 10
                  · have e7 : ((s[at_ + m].toNat : Int) != 10) = false := by rw [bne_eq_false_iff_eq]; exact congrArg Int.ofNat c
                    have Hf := Lib.hid (show R = m by rw [Hn.out, Hm.out, hat, if_pos c]; simp)
                    clear hat c
                    go_wp2
                    go_ret
                    exact ⟨by rw [Hf.out]; rfl, l2⟩
                  · have e7 : ((s[at_ + m].toNat : Int) != 10) = true := by rw [bne_iff_ne]; intro h; exact c (Int.ofNat.inj h)
                    have Hf := Lib.hid (show spanB (fun n => !Nat.beq n 10) L = (m + 1 : Nat) + spanB (fun n => !Nat.beq n 10) ((s.data.toList.drop at_).drop (m + 1)) by rw [Hm.out, hat, if_neg c]; omega)
                    clear hat c
                    go_wp2
                    go_round
                    case rel => exact ⟨m + 1, by go_num, by omega, Hf⟩
                    case measure => simp [intOf]; omega
                · have hl4 : decide ((at_ : Int) + (m : Int) < (s.size : Int)) = false := by simp; omega
                  have hl5 : decide (at_ + m < s.size) = false := by simp; omega
                  have Hf := Lib.hid (show R = m by rw [Hn.out, Hm.out, List.drop_drop, spanB_end _ _ _ (by omega)]; simp)
                  go_wp2
                  go_ret
                  exact ⟨by rw [Hf.out]; rfl, l2⟩

/-! ## number -/
def numGo (b : Nat) (p : Nat → Bool) : List UInt8 → Nat → Nat → Option (Nat × Nat)
  | [], x, n => some (x, n)
  | c :: l, x, n => if p c.toNat then (if (9223372036854775807 - hexV c.toNat) / b < x then none else numGo b p l (x * b + hexV c.toNat) (n + 1)) else some (x, n)
theorem numGo_eq (b : Nat) (p : Nat → Bool) : ∀ (l : List UInt8) (x n : Nat), numGo b p l x n = (wholeGo b (l.take (spanB p l)) x).map fun y => (y, n + spanB p l)
  | [], x, n => by simp [numGo, spanB, wholeGo]
  | c :: l, x, n => by
    rw [numGo, spanB]
    split
    · rw [List.take_succ_cons, wholeGo]
      split
      · rfl
      · rw [numGo_eq b p l]
        congr 1
        funext y
        simp; omega
    · simp [wholeGo]
def numV : Option (Nat × Nat) → Value
  | some q => .tuple #[.int .i64 q.1, .int .i64 q.2, .bool true]
  | none => .tuple #[.int .i64 0, .int .i64 0, .bool false]
theorem hex_known (c : UInt8) (h : Int) (hh : hexI c.toNat = h) (w : World) : Calls Tryd.prog 58 #[.int .u8 c.toNat] w fun e w' => e = .returned (.int .i64 h) ∧ Below w.heap.size w w' := by
  rw [← hh]; exact rhex_any c w
end Go.Proofs.YtiflklmjmdhfoaaDoor

namespace Go.Proofs.YtiflklmjmdhfoaaDoor
open Go.RowKit Go.Shelf
set_option linter.unusedSimpArgs false

def digP (b : Nat) : Nat → Bool := if b = 10 then digN else hexN
/-- A digit of a base, or none, by what Hex says. -/
theorem hex_sort (b : Nat) (hb : b = 10 ∨ b = 16) (c : UInt8) : (digP b c.toNat = true ∧ hexI c.toNat = (hexV c.toNat : Nat) ∧ hexV c.toNat < b) ∨ (digP b c.toNat = false ∧ (hexI c.toNat < 0 ∨ (0 ≤ hexI c.toNat ∧ (b : Int) ≤ hexI c.toNat))) := by
  have h1 : ∀ n, n < 256 → (digN n = true ∧ hexI n = (hexV n : Nat) ∧ hexV n < 10) ∨ (digN n = false ∧ (hexI n < 0 ∨ (0 ≤ hexI n ∧ 10 ≤ hexI n))) := by decide +kernel
  have h2 : ∀ n, n < 256 → (hexN n = true ∧ hexI n = (hexV n : Nat) ∧ hexV n < 16) ∨ (hexN n = false ∧ (hexI n < 0 ∨ (0 ≤ hexI n ∧ 16 ≤ hexI n))) := by decide +kernel
  rcases hb with rfl | rfl
  · exact h1 _ (UInt8.toNat_lt c)
  · exact h2 _ (UInt8.toNat_lt c)

set_option maxRecDepth 100000 in
set_option maxHeartbeats 8000000 in
theorem rnumber_any (s : ByteArray) (hs : s.size ≤ 100000) (at_ : Nat) (ha : at_ ≤ s.size) (b : Nat) (hb : b = 10 ∨ b = 16) (w : World) :
    Calls Tryd.prog 59 #[.string s, .int .i64 at_, .int .i64 b] w fun e w' => e = .returned (numV (numGo b (digP b) (s.data.toList.drop at_) 0 0)) ∧ Below w.heap.size w w' := by
  have hsl : s.data.toList.length = s.size := rfl
  obtain ⟨hb0, hbn, hb1, hb16⟩ : ((b : Int) == 0) = false ∧ ¬ (b : Int) = 0 ∧ 1 ≤ b ∧ b ≤ 16 := ⟨by rw [beq_eq_false_iff_ne]; omega, by omega, by omega, by omega⟩
  have Hb := Lib.hid hb; clear hb
  obtain ⟨R, hR⟩ : ∃ R, numGo b (digP b) (s.data.toList.drop at_) 0 0 = R := ⟨_, rfl⟩
  rw [hR]
  have HR := Lib.hid hR
  clear hR
  go_enter Tryd.func59, Tryd.ntmps59
  go_wp2
  go_loopw [9, 10] (fun x n wr => ∃ k y : Nat, x = .int .i64 y ∧ n = .int .i64 k ∧ at_ + k ≤ s.size ∧ y ≤ 9223372036854775807 ∧ Hid (R = numGo b (digP b) (s.data.toList.drop (at_ + k)) y k) ∧ Below w.heap.size w wr) (fun _ n _ => s.size - (intOf n).toNat)
  case atStart => exact ⟨0, 0, rfl, rfl, by omega, Nat.zero_le _, Lib.hid (by rw [← HR.out]; rfl), Below.refl _ _⟩
  case round =>
    obtain ⟨k, y, rfl, rfl, hk, hy, Hk, hB⟩ := hrel
    by_cases hlt : at_ + k < s.size
    · have hlt2 : decide ((at_ : Int) + (k : Int) < (s.size : Int)) = true := by simp; omega
      have hlt3 : decide (at_ + k < s.size) = true := by simp; omega
      have hd := drop_cons s (at_ + k) hlt
      obtain ⟨c, hc⟩ : ∃ c, s[at_ + k] = c := ⟨_, rfl⟩
      rw [hc] at hd
      have Ht := Hk.out
      rw [hd, numGo] at Ht
      rcases hex_sort b Hb.out c with ⟨g1, g2, g3⟩ | ⟨g1, g2⟩
      · obtain ⟨d, hde⟩ : ∃ d, hexV c.toNat = d := ⟨_, rfl⟩
        rw [g1, if_pos rfl, hde] at Ht
        rw [hde] at g2 g3
        have Hc := Lib.hid (fun w => hex_known c d g2 w)
        have e1 : decide ((0 : Int) ≤ (d : Int)) = true := by simp
        have e2 : decide ((d : Int) < (b : Int)) = true := by simp; omega
        have e2b : decide (d < b) = true := by simp; omega
        obtain ⟨m, hm⟩ : ∃ m, 9223372036854775807 - d = m := ⟨_, rfl⟩
        have hw1 : (9223372036854775807 : Int) - (d : Int) = (m : Int) := by omega
        have hq1 : (m : Int) / (b : Int) = ((m / b : Nat) : Int) := rfl
        have hqm : m / b ≤ m := Nat.div_le_self _ _
        rw [hm] at Ht
        by_cases hov : m / b < y
        · have Hn := Lib.hid (Ht.trans (if_pos hov))
          obtain ⟨q, hq⟩ : ∃ q, m / b = q := ⟨_, rfl⟩
          rw [hq] at hq1 hov
          have e3 : decide ((q : Int) < (y : Int)) = true := by simp; omega
          have e3b : decide (q < y) = true := by simp; omega
          clear Ht hd g1 g2 hde hm hq hqm
          go_wp2_with (go_at_call 58; refine (Hc.out _).mono ?_; rintro e w1 ⟨rfl, b1⟩; have l1 := chain (by assumption) b1; clear b1)
          go_ret3
          exact ⟨by rw [Hn.out]; rfl, by assumption⟩
        · have hyb : y * b + d ≤ 9223372036854775807 := by
            have h1 : y ≤ m / b := by omega
            have h2 := (Nat.le_div_iff_mul_le hb1).1 h1
            omega
          have hyb0 : y * b ≤ 9223372036854775807 := by omega
          have Hn := Lib.hid (Ht.trans (if_neg hov))
          obtain ⟨z, hz⟩ : ∃ z, y * b = z := ⟨_, rfl⟩
          rw [hz] at hyb hyb0
          have Hn := Lib.hid (show R = numGo b (digP b) (s.data.toList.drop (at_ + (k + 1))) (z + d) (k + 1) by rw [Hn.out, hz]; rfl)
          have hm1 : (y : Int) * (b : Int) = (z : Int) := by rw [← Int.natCast_mul, hz]
          obtain ⟨q, hq⟩ : ∃ q, m / b = q := ⟨_, rfl⟩
          rw [hq] at hq1 hov hqm
          have hmm : m ≤ 9223372036854775807 := by omega
          have e3 : decide ((q : Int) < (y : Int)) = false := by simp; omega
          have e3b : decide (q < y) = false := by simp; omega
          clear Ht hd g1 g2 hde hm hq hz
          go_wp2_with (go_at_call 58; refine (Hc.out _).mono ?_; rintro e w1 ⟨rfl, b1⟩; have l1 := chain (by assumption) b1; clear b1)
          go_roundw
          case rel => exact ⟨k + 1, z + d, rfl, by go_num, by omega, hyb, Hn, by assumption⟩
          case measure => simp [intOf]; omega
      · rw [g1, if_neg Bool.false_ne_true] at Ht
        have Hn := Lib.hid Ht
        obtain ⟨h, hh⟩ : ∃ h, hexI c.toNat = h := ⟨_, rfl⟩
        have Hc := Lib.hid (fun w => hex_known c h hh w)
        rw [hh] at g2
        clear Ht hd g1 hh
        rcases g2 with g2 | ⟨g2, g3⟩
        · have e1 : decide ((0 : Int) ≤ h) = false := decide_eq_false (by omega)
          clear g2
          go_wp2_with (go_at_call 58; refine (Hc.out _).mono ?_; rintro e w1 ⟨rfl, b1⟩; have l1 := chain (by assumption) b1; clear b1)
          go_ret3
          exact ⟨by rw [Hn.out]; rfl, by assumption⟩
        · have e1 : decide ((0 : Int) ≤ h) = true := decide_eq_true (by omega)
          have e2 : decide (h < (b : Int)) = false := decide_eq_false (by omega)
          clear g2 g3
          go_wp2_with (go_at_call 58; refine (Hc.out _).mono ?_; rintro e w1 ⟨rfl, b1⟩; have l1 := chain (by assumption) b1; clear b1)
          go_ret3
          exact ⟨by rw [Hn.out]; rfl, by assumption⟩
    · have hlt2 : decide ((at_ : Int) + (k : Int) < (s.size : Int)) = false := by simp; omega
      have hlt3 : decide (at_ + k < s.size) = false := by simp; omega
      have Hn := Lib.hid (show R = some (y, k) by rw [Hk.out, List.drop_eq_nil_of_le (by omega)]; rfl)
      go_wp2
      go_ret3
      exact ⟨by rw [Hn.out]; rfl, hB⟩

/-! ## character -/
/-- The character, or the gap (-1), at a place. -/
def charR (l : List UInt8) (q : Nat) : Int × Nat := match charK l q with
  | some (c, n) => ((c : Int), n)
  | none => if q = 34 ∧ gapK l ≠ 0 then (-1, gapK l) else (0, 0)
end Go.Proofs.YtiflklmjmdhfoaaDoor
