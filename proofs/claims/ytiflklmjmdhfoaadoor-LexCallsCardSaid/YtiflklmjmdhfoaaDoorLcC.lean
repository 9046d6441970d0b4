/- Contracts of the document's Digits, shown and Text. Contracts of the document's shown and Text. -/
import Derived.Test.YtiflklmjmdhfoaaDoorLxY
import Derived.Test.YtiflklmjmdhfoaaDoorLcA
import Derived.BigQuiet
import Derived.Deep.RegionWith
namespace Go.Proofs.YtiflklmjmdhfoaaDoor
open Go.RowKit Go.Shelf
set_option linter.unusedSimpArgs false
set_option linter.unusedVariables false

theorem box1 (w : World) (c : UInt8) : BOwn (w.alloc (.cells #[.int .u8 c.toNat] 5)) w.heap.size (.slice (some ⟨w.heap.size, 0, none⟩) 1 1) [c] :=
  ⟨by simp [bV], .inr ⟨w.heap.size, 1, #[.int .u8 c.toNat], rfl, Nat.le_refl _, heap_alloc_new w _, Nat.le_refl _, by unfold maxLen; omega, rfl, rfl⟩⟩
theorem conv1 (w : World) (c : UInt8) : (convert 56 9 (.slice (some ⟨w.heap.size, 0, none⟩) 1 1)).run Tryd.prog (w.alloc (.cells #[.int .u8 c.toNat] 5)) = .ok (.string ⟨#[c]⟩) (w.alloc (.cells #[.int .u8 c.toNat] 5)) := run_back _ _ _ _ (box1 w c)
theorem conv1_on {w w1 : World} {c : UInt8} (h : Below (w.alloc (.cells #[.int .u8 c.toNat] 5)).heap.size (w.alloc (.cells #[.int .u8 c.toNat] 5)) w1) :
    (convert 56 9 (.slice (some ⟨w.heap.size, 0, none⟩) 1 1)).run Tryd.prog w1 = .ok (.string ⟨#[c]⟩) w1 := run_back _ _ _ _ (own_on (box1 w c) h (own_lt (box1 w c)))
theorem cat_eq (a b : List UInt8) : (⟨a.toArray⟩ : ByteArray) ++ ⟨b.toArray⟩ = ⟨(a ++ b).toArray⟩ := by
  apply ByteArray.ext
  simp [ByteArray.data_append]
theorem dig_byte (n : Nat) (h : n < 10) : IntKind.u8.wrap (48 + (n : Int)) = ((UInt8.ofNat (48 + n)).toNat : Int) := by
  have : (UInt8.ofNat (48 + n)).toNat = 48 + n := by simp; omega
  rw [this]
  simp [IntKind.wrap, IntKind.bits, IntKind.signed]
  omega

set_option maxRecDepth 100000 in
set_option maxHeartbeats 8000000 in
theorem rdigits_any (n : Nat) (hn : n ≤ 9223372036854775807) (w : World) :
    Calls Tryd.prog 39 #[.int .i64 n] w fun e w' => e = .returned (.string ⟨(Lib.decDigits n).toArray⟩) ∧ Below w.heap.size w w' := by
  induction n using Nat.strongRecOn generalizing w with
  | _ n ih =>
  by_cases h10 : n < 10
  · have d0 : decide ((n : Int) < 10) = true := decide_eq_true (by omega)
    have d0' : decide (n < 10) = true := decide_eq_true (by omega)
    have hw := dig_byte n h10
    have hi : IntKind.i64.wrap (48 + (n : Int)) = 48 + (n : Int) := IntWalk.i64_in _ (by omega)
    have hr : Lib.decDigits n = [UInt8.ofNat (48 + n)] := by rw [Lib.decDigits, dif_pos h10]
    rw [hr]
    clear hr ih
    obtain ⟨c, hc⟩ : ∃ c, UInt8.ofNat (48 + n) = c := ⟨_, rfl⟩
    rw [hc] at hw ⊢
    have hcv := conv1 w c
    clear hc h10
    go_enter Tryd.func39, Tryd.ntmps39
    go_wp2
    go_ret
    exact ⟨rfl, (Below.refl _ _).alloc (Nat.le_refl _) _⟩
  · have d0 : decide ((n : Int) < 10) = false := decide_eq_false (by omega)
    have d0' : decide (n < 10) = false := decide_eq_false (by omega)
    have hw := dig_byte (n % 10) (by omega)
    have hi : IntKind.i64.wrap (48 + ((n % 10 : Nat) : Int)) = 48 + ((n % 10 : Nat) : Int) := IntWalk.i64_in _ (by omega)
    have e1 : (n : Int).tdiv 10 = ((n / 10 : Nat) : Int) := rfl
    have e2 : (n : Int).tmod 10 = ((n % 10 : Nat) : Int) := rfl
    have hr : Lib.decDigits n = Lib.decDigits (n / 10) ++ [UInt8.ofNat (48 + n % 10)] := by rw [Lib.decDigits, dif_neg h10]
    rw [hr]
    have K := Lib.hid (fun w => ih (n / 10) (by omega) (by omega) w)
    clear hr ih
    obtain ⟨c, hc⟩ : ∃ c, UInt8.ofNat (48 + n % 10) = c := ⟨_, rfl⟩
    obtain ⟨r, hre⟩ : ∃ r, Lib.decDigits (n / 10) = r := ⟨_, rfl⟩
    obtain ⟨m, hm⟩ : ∃ m, n % 10 = m := ⟨_, rfl⟩
    obtain ⟨q, hq⟩ : ∃ q, n / 10 = q := ⟨_, rfl⟩
    rw [hc] at hw ⊢
    rw [hre] at K ⊢
    rw [hm] at hw hi e2
    rw [hq] at e1 K
    have hcv := conv1_on (w := w) (c := c) (Below.refl _ (w.alloc (.cells #[.int .u8 c.toNat] 5))).drew
    have hrl : r.length ≤ 21 := by rw [← hre]; exact dec_len _ (by omega)
    obtain ⟨u, hu⟩ : ∃ u : ByteArray, ⟨r.toArray⟩ = u := ⟨_, rfl⟩
    have hul : u.size ≤ 21 := by rw [← hu]; show r.toArray.size ≤ 21; simpa using hrl
    rw [hu] at K
    have hcat : (⟨(r ++ [c]).toArray⟩ : ByteArray) = u ++ ⟨#[c]⟩ := by rw [← hu]; exact (cat_eq r [c]).symm
    rw [hcat]
    clear hcat hu hrl
    have hmb : m < 10 := by omega
    have hqb : q ≤ n := by omega
    have hi2 : IntKind.i64.wrap (m : Int) = (m : Int) := IntWalk.i64_in _ (by omega)
    have hi3 : IntKind.i64.wrap (q : Int) = (q : Int) := IntWalk.i64_in _ (by omega)
    clear hc h10 hre hm hq
    go_enter Tryd.func39, Tryd.ntmps39
    go_wp2
    go_region_with (go_at_call 39; refine (K.out _).mono ?_; rintro e w1 ⟨rfl, b1⟩; first | have hcv1 := conv1_on (w := w) (c := c) (below_of_drew b1) | have hcv1 := conv1 w1 c)
    all_goals
      go_wp2
      go_ret
    all_goals first | exact ⟨rfl, chain ((Below.refl _ w).alloc (Nat.le_refl _) _) (below_of_drew b1)⟩ | exact ⟨rfl, (below_of_drew b1).alloc (below_of_drew b1).size _⟩ | trace_state
end Go.Proofs.YtiflklmjmdhfoaaDoor

namespace Go.Proofs.YtiflklmjmdhfoaaDoor
open Go.RowKit Go.Shelf
set_option linter.unusedSimpArgs false
set_option linter.unusedVariables false

def behK (q : UInt8) : List UInt8 := if q.toNat = 34 then [92, 38] else []
theorem cat3 (a r b : List UInt8) (u : ByteArray) (hu : ⟨r.toArray⟩ = u) : (⟨(a ++ r ++ b).toArray⟩ : ByteArray) = ⟨a.toArray⟩ ++ u ++ ⟨b.toArray⟩ := by
  rw [← hu, cat_eq, cat_eq]
theorem cat2 (a r : List UInt8) (u : ByteArray) (hu : ⟨r.toArray⟩ = u) : (⟨(a ++ r).toArray⟩ : ByteArray) = ⟨a.toArray⟩ ++ u := by
  rw [← hu, cat_eq]
theorem len_of {r : List UInt8} {u : ByteArray} (hu : ⟨r.toArray⟩ = u) {n : Nat} (h : r.length ≤ n) : u.size ≤ n := by
  rw [← hu]; show r.toArray.size ≤ n; simpa using h
theorem cat_lit (a : ByteArray) (b : List UInt8) (x : List UInt8) (h : a = ⟨x.toArray⟩) : a ++ ⟨b.toArray⟩ = ⟨(x ++ b).toArray⟩ := by rw [h]; exact cat_eq x b

theorem digits_known (n : Nat) (hn : n ≤ 9223372036854775807) (r : List UInt8) (hr : Lib.decDigits n = r) (w : World) :
    Calls Tryd.prog 39 #[.int .i64 n] w fun e w' => e = .returned (.string ⟨r.toArray⟩) ∧ Below w.heap.size w w' := by
  rw [← hr]; exact rdigits_any n hn w

set_option maxRecDepth 100000 in
set_option maxHeartbeats 8000000 in
theorem rshown_any (c q : UInt8) (w : World) :
    Calls Tryd.prog 40 #[.int .u8 c.toNat, .int .u8 q.toNat] w fun e w' => e = .returned (.string ⟨(shQ q (behK q) c).toArray⟩) ∧ Below w.heap.size w w' := by
  have hby : c.toNat ≤ 255 := by have := UInt8.toNat_lt c; omega
  have hcv := conv1 w c
  by_cases c1 : c = 92 ∨ c = q
  · have hr : shQ q (behK q) c = [92, c] := by unfold shQ; rw [if_pos c1]
    rw [hr]
    have hq : ((c.toNat : Int) == (q.toNat : Int)) = true ∨ (((c.toNat : Int) == (q.toNat : Int)) = false ∧ ((c.toNat : Int) == 92) = true) := by
      by_cases g : c = q
      · exact .inl (by rw [g]; simp)
      · rcases c1 with c1 | c1
        · exact .inr ⟨by rw [beq_eq_false_iff_ne]; intro h; exact g (UInt8.toNat_inj.1 (Int.ofNat.inj h)), by rw [c1]; rfl⟩
        · exact absurd c1 g
    clear c1 hr
    rcases hq with e1 | ⟨e1, e2⟩
    all_goals
      go_enter Tryd.func40, Tryd.ntmps40
      go_wp2
      go_ret
      exact ⟨rfl, (Below.refl _ _).alloc (Nat.le_refl _) _⟩
  · have e1 : ((c.toNat : Int) == 92) = false := by rw [beq_eq_false_iff_ne]; intro h; exact c1 (.inl (UInt8.toNat_inj.1 (Int.ofNat.inj h)))
    have e2 : ((c.toNat : Int) == (q.toNat : Int)) = false := by rw [beq_eq_false_iff_ne]; intro h; exact c1 (.inr (UInt8.toNat_inj.1 (Int.ofNat.inj h)))
    by_cases c2 : 32 ≤ c.toNat ∧ c.toNat ≤ 126
    · have hr : shQ q (behK q) c = [c] := by unfold shQ; rw [if_neg c1, if_pos c2]
      rw [hr]
      have e3 : decide ((32 : Int) ≤ (c.toNat : Int)) = true := decide_eq_true (by omega)
      have e4 : decide ((c.toNat : Int) ≤ 126) = true := decide_eq_true (by omega)
      clear c1 c2 hr
      go_enter Tryd.func40, Tryd.ntmps40
      go_wp2
      go_ret
      exact ⟨rfl, (Below.refl _ _).alloc (Nat.le_refl _) _⟩
    · have hr : shQ q (behK q) c = 92 :: Lib.decDigits c.toNat ++ behK q := by unfold shQ; rw [if_neg c1, if_neg c2]
      rw [hr]
      obtain ⟨r, hre⟩ : ∃ r, Lib.decDigits c.toNat = r := ⟨_, rfl⟩
      have K := fun w => digits_known c.toNat (by omega) r hre w
      rw [hre]
      obtain ⟨u, hu⟩ : ∃ u : ByteArray, ⟨r.toArray⟩ = u := ⟨_, rfl⟩
      have hul := len_of hu (show r.length ≤ 21 by rw [← hre]; exact dec_len _ (by omega))
      rw [hu] at K
      have K := Lib.hid K
      have e34 : (decide ((32 : Int) ≤ (c.toNat : Int)) = false) ∨ (decide ((32 : Int) ≤ (c.toNat : Int)) = true ∧ decide ((c.toNat : Int) ≤ 126) = false) := by
        by_cases g : 32 ≤ c.toNat
        · exact .inr ⟨decide_eq_true (by omega), decide_eq_false (by omega)⟩
        · exact .inl (decide_eq_false (by omega))
      have hi : IntKind.i64.wrap (c.toNat : Int) = (c.toNat : Int) := IntWalk.i64_in _ (by omega)
      have hq : ((q.toNat : Int) == 34) = true ∧ behK q = [92, 38] ∨ ((q.toNat : Int) == 34) = false ∧ behK q = [] := by
        unfold behK
        by_cases g : q.toNat = 34
        · exact .inl ⟨by rw [g]; rfl, if_pos g⟩
        · exact .inr ⟨by rw [beq_eq_false_iff_ne]; omega, if_neg g⟩
      clear c1 c2 hr hre hcv
      have h1 := cat3 [92] r [92, 38] u hu
      have h2 := cat2 [92] r u hu
      clear hu
      rcases hq with ⟨q1, q2⟩ | ⟨q1, q2⟩
      all_goals
        rw [q2]
        clear q2
        first | rw [show 92 :: r ++ [92, 38] = [92] ++ r ++ [92, 38] from rfl, h1] | rw [show 92 :: r ++ [] = [92] ++ r by simp, h2]
        clear h1 h2
        rcases e34 with e3 | ⟨e3, e4⟩
        all_goals
          go_enter Tryd.func40, Tryd.ntmps40
          go_wp2_with (go_at_call 39; refine (K.out _).mono ?_; rintro e w1 ⟨rfl, b1⟩)
          go_ret
          exact ⟨rfl, b1⟩

theorem shown39 (c : UInt8) (r : List UInt8) (hr : shQ 39 [] c = r) (w : World) :
    Calls Tryd.prog 40 #[.int .u8 c.toNat, .int .u8 39] w fun e w' => e = .returned (.string ⟨r.toArray⟩) ∧ Below w.heap.size w w' := by
  rw [← hr]; exact rshown_any c 39 w
theorem shown34 (c : UInt8) (r : List UInt8) (hr : shQ 34 [92, 38] c = r) (w : World) :
    Calls Tryd.prog 40 #[.int .u8 c.toNat, .int .u8 34] w fun e w' => e = .returned (.string ⟨r.toArray⟩) ∧ Below w.heap.size w w' := by
  rw [← hr]; exact rshown_any c 34 w

set_option maxRecDepth 100000 in
set_option maxHeartbeats 8000000 in
theorem rtext_of (kind num : Int) (u : ByteArray) (x3 x4 x5 : Int) (x6 : Bool) (w : World) (hu : u.size ≤ 1000000) (hn : num ≤ 9223372036854775807) :
    Calls Tryd.prog 17 #[.agg #[.int .i64 kind, .string u, .int .i64 num, .int .i64 x3, .int .i64 x4, .int .i64 x5, .bool x6]] w fun e w' => e = .returned (.string ⟨(txtI kind num u.data.toList).toArray⟩) ∧ Below w.heap.size w w' := by
  have hB0 : Below w.heap.size w (w.alloc (.cells #[.int .i64 kind, .string u, .int .i64 num, .int .i64 x3, .int .i64 x4, .int .i64 x5, .bool x6] 30)) := (Below.refl _ w).alloc (Nat.le_refl _) _
  obtain ⟨m, hm⟩ : ∃ m, max 0 num = m := ⟨_, rfl⟩
  have hm0 : 0 ≤ m := by omega
  have hm1 : m ≤ 9223372036854775807 := by omega
  by_cases h5 : kind = 5
  · subst h5
    have hr : txtI 5 num u.data.toList = Lib.decDigits m.toNat := by unfold txtI; rw [if_pos rfl, hm]
    rw [hr]
    obtain ⟨r, hre⟩ : ∃ r, Lib.decDigits m.toNat = r := ⟨_, rfl⟩
    have Hf := Lib.hid (fun w => digits_known m.toNat (by omega) r hre w)
    rw [show ((m.toNat : Nat) : Int) = m by omega] at Hf
    rw [hre]
    clear hr hre
    go_enter Tryd.func17, Tryd.ntmps17
    go_wp2_with (go_at_call 39; refine (Hf.out _).mono ?_; rintro e w1 ⟨rfl, b1⟩)
    go_ret
    exact ⟨rfl, chain hB0 b1⟩
  · have e5 : (kind == 5) = false := by rw [beq_eq_false_iff_ne]; exact h5
    by_cases h6 : kind = 6
    · subst h6
      obtain ⟨p, hp⟩ : ∃ p, min 255 m = p := ⟨_, rfl⟩
      have hp0 : 0 ≤ p := by omega
      have hp1 : p ≤ 255 := by omega
      obtain ⟨c, hc⟩ : ∃ c : UInt8, (c.toNat : Int) = p := ⟨UInt8.ofNat p.toNat, by simp; omega⟩
      have hr : txtI 6 num u.data.toList = 39 :: shL 39 [] [c] ++ [39] := by
        unfold txtI; rw [if_neg (by omega), if_pos rfl, hm, hp, show UInt8.ofNat p.toNat = c from UInt8.toNat_inj.1 (by simp; omega)]
      rw [hr, show shL 39 [] [c] = shQ 39 [] c by simp [shL]]
      obtain ⟨r, hre⟩ : ∃ r, shQ 39 [] c = r := ⟨_, rfl⟩
      have K := fun w => shown39 c r hre w
      rw [hre]
      obtain ⟨v, hv⟩ : ∃ v : ByteArray, ⟨r.toArray⟩ = v := ⟨_, rfl⟩
      have hvl := len_of hv (show r.length ≤ 24 by rw [← hre]; exact shQ_len _ _ _ (by simp))
      rw [hv] at K
      have K := Lib.hid K
      rw [show 39 :: r ++ [39] = [39] ++ r ++ [39] from rfl, cat3 [39] r [39] v hv]
      have hmin : min 255 m = (c.toNat : Int) := by rw [hp, hc]
      have hby : c.toNat ≤ 255 := by have := UInt8.toNat_lt c; omega
      clear hr hre hp hc h5 hp0 hp1 hv
      go_enter Tryd.func17, Tryd.ntmps17
      go_wp2_with (go_at_call 40; refine (K.out _).mono ?_; rintro e w2 ⟨rfl, b2⟩)
      go_ret
      exact ⟨rfl, chain hB0 b2⟩
    · have e6 : (kind == 6) = false := by rw [beq_eq_false_iff_ne]; exact h6
      by_cases h7 : kind = 7
      · subst h7
        have hr : txtI 7 num u.data.toList = 34 :: shL 34 [92, 38] u.data.toList ++ [34] := by
          unfold txtI; rw [if_neg (by omega), if_neg (by omega), if_pos rfl]
        rw [hr]
        have BT := Blk.new w #[.int .i64 7, .string u, .int .i64 num, .int .i64 x3, .int .i64 x4, .int .i64 x5, .bool x6] 30
        have hbl := BT.lt
        clear hr h5 h6 e5 e6 hm
        go_enter Tryd.func17, Tryd.ntmps17
        go_wp2
        go_loopw [3, 4] (fun x i wr => ∃ (k : Nat) (U : ByteArray), i = .int .i64 k ∧ k ≤ u.size ∧ x = .string U ∧ ⟨(34 :: shL 34 [92, 38] (u.data.toList.take k)).toArray⟩ = U ∧ Blk wr w.heap.size #[.int .i64 7, .string u, .int .i64 num, .int .i64 x3, .int .i64 x4, .int .i64 x5, .bool x6] ∧ Below w.heap.size w wr) (fun _ i _ => u.size - (intOf i).toNat)
        case atStart => exact ⟨0, _, rfl, Nat.zero_le _, rfl, rfl, BT, hB0⟩
        case round =>
          obtain ⟨k, U, rfl, hk, rfl, hU, hBT, hB⟩ := hrel
          have hUl := len_of hU (n := 1 + 24 * k) (by
            have := shL_len 34 [92, 38] (by simp) (u.data.toList.take k)
            rw [List.length_take] at this
            rw [List.length_cons]; omega)
          have f1 := hBT.cell 1
          simp only [List.getElem?_toArray, List.getElem?_cons_zero, List.getElem?_cons_succ] at f1
          by_cases hlt : k < u.size
          · have hlt2 : decide ((k : Int) < (u.size : Int)) = true := by simp; omega
            have hlt3 : decide (k < u.size) = true := by simp; omega
            have hkl : k < u.data.toList.length := hlt
            have hat := shL_at 34 [92, 38] u.data.toList k hkl
            have hge : u.data.toList[k] = u[k] := rfl
            rw [hge] at hat
            obtain ⟨c, hc⟩ : ∃ c, u[k] = c := ⟨_, rfl⟩
            rw [hc] at hat
            obtain ⟨r, hre⟩ : ∃ r, shQ 34 [92, 38] c = r := ⟨_, rfl⟩
            rw [hre] at hat
            have K := fun w => shown34 c r hre w
            obtain ⟨v, hv⟩ : ∃ v : ByteArray, ⟨r.toArray⟩ = v := ⟨_, rfl⟩
            have hvl := len_of hv (show r.length ≤ 24 by rw [← hre]; exact shQ_len _ _ _ (by simp))
            rw [hv] at K
            have K := Lib.hid K
            have Hat := Lib.hid (show (⟨(34 :: shL 34 [92, 38] (u.data.toList.take (k + 1))).toArray⟩ : ByteArray) = U ++ v by rw [hat, ← List.cons_append, ← cat_eq, hU, hv])
            clear hat hre hv hU BT
            go_wp2_with (go_at_call 40; refine (K.out _).mono ?_; rintro e w2 ⟨rfl, b2⟩)
            go_roundw
            case rel => exact ⟨k + 1, _, by go_num, by omega, rfl, Hat.out, hBT.below b2 hBT.lt, chain hB b2⟩
            case measure => simp [intOf]; omega
          · have hlt2 : decide ((k : Int) < (u.size : Int)) = false := by simp; omega
            have hlt3 : decide (k < u.size) = false := by simp; omega
            have hall : u.data.toList.take k = u.data.toList := List.take_of_length_le (by show u.size ≤ k; omega)
            rw [hall] at hU
            have Hc := Lib.hid ((cat2 (34 :: shL 34 [92, 38] u.data.toList) [34] ⟨#[34]⟩ rfl).trans (by rw [hU]))
            clear hall hU BT
            go_wp2
            go_ret
            exact ⟨congrArg (fun s => Ending.returned (Value.string s)) Hc.out.symm, hB⟩
      · have e7 : (kind == 7) = false := by rw [beq_eq_false_iff_ne]; exact h7
        by_cases h8 : 1 ≤ kind ∧ kind ≤ 10
        · have hr : txtI kind num u.data.toList = u.data.toList := by
            unfold txtI; rw [if_neg h5, if_neg h6, if_neg h7, if_pos h8]
          have Hr := Lib.hid hr
          have d1 : decide ((1 : Int) ≤ kind) = true := decide_eq_true (by omega)
          have d2 : decide (kind ≤ 10) = true := decide_eq_true (by omega)
          clear hr h5 h6 h7 h8 hm
          go_enter Tryd.func17, Tryd.ntmps17
          go_wp2
          go_ret
          exact ⟨by rw [Hr.out]; rfl, hB0⟩
        · have hr : txtI kind num u.data.toList = [] := by
            unfold txtI; rw [if_neg h5, if_neg h6, if_neg h7, if_neg h8]
          have Hr := Lib.hid hr
          have hd : decide ((1 : Int) ≤ kind) = false ∨ (decide ((1 : Int) ≤ kind) = true ∧ decide (kind ≤ 10) = false) := by
            by_cases g : 1 ≤ kind
            · exact .inr ⟨decide_eq_true g, decide_eq_false (by omega)⟩
            · exact .inl (decide_eq_false g)
          clear hr h5 h6 h7 h8 hm
          rcases hd with d1 | ⟨d1, d2⟩
          all_goals
            go_enter Tryd.func17, Tryd.ntmps17
            go_wp2
            go_ret
            exact ⟨by rw [Hr.out]; rfl, hB0⟩
end Go.Proofs.YtiflklmjmdhfoaaDoor
