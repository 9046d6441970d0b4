/- Show: the document's digits, and strconv.FormatInt. -/
import Derived.Test.YtmgfgkikeflenaaDoorPcF
import Derived.Test.YtmgfgkikeflenaaDoorShelfB
import Derived.OwnWalk
import Derived.Lib.ConvBytes
import Derived.Lib.AppendIntMem
import Derived.Lib.LaidU8
namespace Go.Proofs.YtmgfgkikeflenaaDoor
open Go.RowKit Go.Shelf
open Ev (AV Mem V VL MR)
set_option linter.unusedSimpArgs false
set_option linter.unusedVariables false

theorem own_shape {W : World} {base : Nat} {e : TypeId} {size : Nat} {v : Value} {n : Nat} {xs : List Value} (h : W.ownsRow base e size v n xs) : ∃ a c, v = .slice a n c := by
  rcases h.2 with ⟨rfl, h0⟩ | ⟨g, cap, _, rfl, _⟩
  · exact ⟨none, 0, by rw [h0]⟩
  · exact ⟨_, _, rfl⟩

theorem own_lt {W : World} {base : Nat} {e : TypeId} {size : Nat} {v : Value} {n : Nat} {xs : List Value} (h : W.ownsRow base e size v n xs) : ∀ g, v.ownBlock = some g → g < W.heap.size := by
  intro g hg
  rcases h.2 with ⟨rfl, _⟩ | ⟨g', cap, cur, rfl, _, hb, _⟩
  · simp [Value.ownBlock] at hg
  · simp [Value.ownBlock] at hg; subst hg; exact (Array.getElem?_eq_some_iff.1 hb).1
theorem own_on {B : Nat} {W W' : World} {base : Nat} {e : TypeId} {size : Nat} {v : Value} {n : Nat} {xs : List Value} (h : W.ownsRow base e size v n xs) (hb : Below B W W') (hB : ∀ g, v.ownBlock = some g → g < B) : W'.ownsRow base e size v n xs := by
  refine ⟨h.1, ?_⟩
  rcases h.2 with h2 | ⟨g, cap, cur, rfl, hg, hh, r⟩
  · exact .inl h2
  · exact .inr ⟨g, cap, cur, rfl, hg, (hb.block g (hB g rfl)).trans hh, r⟩
theorem own_low {W : World} {b b' : Nat} {e : TypeId} {size : Nat} {v : Value} {n : Nat} {xs : List Value} (h : W.ownsRow b e size v n xs) (hb : b' ≤ b) : W.ownsRow b' e size v n xs := by
  obtain ⟨h1, h2⟩ := h
  refine ⟨h1, ?_⟩
  rcases h2 with h2 | ⟨g, cap, cur, hv, hg, r⟩
  · exact .inl h2
  · exact .inr ⟨g, cap, cur, hv, by omega, r⟩
theorem own_from {W : World} {b : Nat} {e : TypeId} {size : Nat} {v : Value} {n : Nat} {xs : List Value} (h : W.ownsRow b e size v n xs) : ∀ k, v.ownBlock = some k → b ≤ k := by
  intro k hk
  rcases h.2 with ⟨rfl, _⟩ | ⟨g, cap, cur, rfl, hg, _⟩
  · simp [Value.ownBlock] at hk
  · simp [Value.ownBlock] at hk; omega

theorem grown_below {B : Nat} {w a a1 : World} {v : Value} {e : TypeId} {size n base : Nat} {xs : List Value} (hb : Below B w a) (hg : a.grownBy a1 v.ownBlock) (ho : a.ownsRow base e size v n xs) (h1 : B ≤ a.heap.size) (h2 : B ≤ base) : Below B w a1 :=
  hb.grown hg h1 fun k hk => Nat.le_trans h2 (own_from ho k hk)
theorem info5 : (Tryd.prog.info? 5).map (fun i => (i.zero, i.size, i.bytes)) = some (some (.int .u8 0), 1, 1) := by kernel_rfl
def bV (l : List UInt8) : List Value := l.map fun b => Value.int .u8 (b.toNat : Int)
theorem bV_len (l : List UInt8) : (bV l).length = l.length := by simp [bV]
theorem bV_app (a b : List UInt8) : bV (a ++ b) = bV a ++ bV b := by simp [bV]
abbrev BOwn (W : World) (base : Nat) (v : Value) (l : List UInt8) : Prop := W.ownsRow base 5 1 v l.length (bV l)
theorem run_back (w : World) (base : Nat) (v : Value) (l : List UInt8) (h : BOwn w base v l) :
    (convert 90 9 v).run Tryd.prog w = .ok (.string ⟨l.toArray⟩) w := by
  rcases h.2 with ⟨rfl, h0⟩ | ⟨g, cap, cur, rfl, _⟩
  · have : l = [] := List.length_eq_zero_iff.1 h0
    subst this
    rw [run_convert_bytes_string w _ _ 5 none 0 0 Tryd.underlying90 Tryd.underlying5 Tryd.underlying9]; rfl
  · have hc := h.cells (g := g) rfl
    rw [run_convert_bytes_back w _ _ 5 ⟨g, 0, none⟩ cap l Tryd.underlying90 Tryd.underlying5 Tryd.underlying9 (fun j hj => hc j _ (by unfold bV; rw [List.getElem?_map, List.getElem?_eq_getElem hj]; rfl))]
theorem box1 (w : World) (c : UInt8) : BOwn (w.alloc (.cells #[.int .u8 c.toNat] 5)) w.heap.size (.slice (some ⟨w.heap.size, 0, none⟩) 1 1) [c] :=
  ⟨by simp [bV], .inr ⟨w.heap.size, 1, #[.int .u8 c.toNat], rfl, Nat.le_refl _, heap_alloc_new w _, Nat.le_refl _, by unfold maxLen; omega, rfl, rfl⟩⟩
theorem conv1 (w : World) (c : UInt8) : (convert 90 9 (.slice (some ⟨w.heap.size, 0, none⟩) 1 1)).run Tryd.prog (w.alloc (.cells #[.int .u8 c.toNat] 5)) = .ok (.string ⟨#[c]⟩) (w.alloc (.cells #[.int .u8 c.toNat] 5)) := run_back _ _ _ _ (box1 w c)
theorem conv1_on {w w1 : World} {c : UInt8} (h : Below (w.alloc (.cells #[.int .u8 c.toNat] 5)).heap.size (w.alloc (.cells #[.int .u8 c.toNat] 5)) w1) :
    (convert 90 9 (.slice (some ⟨w.heap.size, 0, none⟩) 1 1)).run Tryd.prog w1 = .ok (.string ⟨#[c]⟩) w1 := run_back _ _ _ _ (own_on (box1 w c) h (own_lt (box1 w c)))
theorem cat_eq (a b : List UInt8) : (⟨a.toArray⟩ : ByteArray) ++ ⟨b.toArray⟩ = ⟨(a ++ b).toArray⟩ := by
  apply ByteArray.ext
  simp [ByteArray.data_append]
theorem dig_byte (n : Nat) (h : n < 10) : IntKind.u8.wrap (48 + (n : Int)) = ((UInt8.ofNat (48 + n)).toNat : Int) := by
  have : (UInt8.ofNat (48 + n)).toNat = 48 + n := by simp; omega
  rw [this]
  simp [IntKind.wrap, IntKind.bits, IntKind.signed]
  omega


theorem dec_lenF : ∀ f n, n < 10 ^ (f + 1) → (Lib.decDigits n).length ≤ f + 1
  | 0, n, h => by
    rw [Lib.decDigits, dif_pos (by simpa using h)]; simp
  | f + 1, n, h => by
    rw [Lib.decDigits]
    split
    · simp
    · have := dec_lenF f (n / 10) (by rw [Nat.pow_succ] at h; omega)
      simp; exact this
theorem dec_len (n : Nat) (h : n ≤ 9223372036854775808) : (Lib.decDigits n).length ≤ 21 := dec_lenF 20 n (by omega)
set_option maxRecDepth 100000 in
set_option maxHeartbeats 8000000 in
theorem digits_nat (n : Nat) (hn : n ≤ 9223372036854775807) (w : World) :
    Calls Tryd.prog 79 #[.int .i64 n] w fun e w' => e = .returned (.string ⟨(Lib.decDigits n).toArray⟩) ∧ Below w.heap.size w w' := by
  induction n using Nat.strongRecOn generalizing w with
  | _ n ih =>
  by_cases h10 : n < 10
  · have d0 : decide ((n : Int) < 10) = true := decide_eq_true (by omega)
    have d0' : decide (n < 10) = true := decide_eq_true (by omega)
    have hw := dig_byte n h10
    have hi : IntKind.i64.wrap (48 + (n : Int)) = 48 + (n : Int) := IntWalk.i64_in _ (by omega)
    have hr : Lib.decDigits n = [UInt8.ofNat (48 + n)] := by rw [Lib.decDigits, dif_pos h10]
    rw [hr]
    clear hr ih
    obtain ⟨c, hc⟩ : ∃ c, UInt8.ofNat (48 + n) = c := ⟨_, rfl⟩
    rw [hc] at hw ⊢
    have hcv := conv1 w c
    clear hc h10
    go_enter Tryd.func79, Tryd.ntmps79
    go_wp2
    go_ret
    exact ⟨rfl, (Below.refl _ _).alloc (Nat.le_refl _) _⟩
  · have d0 : decide ((n : Int) < 10) = false := decide_eq_false (by omega)
    have d0' : decide (n < 10) = false := decide_eq_false (by omega)
    have hw := dig_byte (n % 10) (by omega)
    have hi : IntKind.i64.wrap (48 + ((n % 10 : Nat) : Int)) = 48 + ((n % 10 : Nat) : Int) := IntWalk.i64_in _ (by omega)
    have e1 : (n : Int).tdiv 10 = ((n / 10 : Nat) : Int) := rfl
    have e2 : (n : Int).tmod 10 = ((n % 10 : Nat) : Int) := rfl
    have hr : Lib.decDigits n = Lib.decDigits (n / 10) ++ [UInt8.ofNat (48 + n % 10)] := by rw [Lib.decDigits, dif_neg h10]
    rw [hr]
    have K := Lib.hid (fun w => ih (n / 10) (by omega) (by omega) w)
    clear hr ih
    obtain ⟨c, hc⟩ : ∃ c, UInt8.ofNat (48 + n % 10) = c := ⟨_, rfl⟩
    obtain ⟨r, hre⟩ : ∃ r, Lib.decDigits (n / 10) = r := ⟨_, rfl⟩
    obtain ⟨m, hm⟩ : ∃ m, n % 10 = m := ⟨_, rfl⟩
    obtain ⟨q, hq⟩ : ∃ q, n / 10 = q := ⟨_, rfl⟩
    rw [hc] at hw ⊢
    rw [hre] at K ⊢
    rw [hm] at hw hi e2
    rw [hq] at e1 K
    have hcv := conv1_on (w := w) (c := c) (Below.refl _ (w.alloc (.cells #[.int .u8 c.toNat] 5))).drew
    have hrl : r.length ≤ 21 := by rw [← hre]; exact dec_len _ (by omega)
    obtain ⟨u, hu⟩ : ∃ u : ByteArray, ⟨r.toArray⟩ = u := ⟨_, rfl⟩
    have hul : u.size ≤ 21 := by rw [← hu]; show r.toArray.size ≤ 21; simpa using hrl
    rw [hu] at K
    have hcat : (⟨(r ++ [c]).toArray⟩ : ByteArray) = u ++ ⟨#[c]⟩ := by rw [← hu]; exact (cat_eq r [c]).symm
    rw [hcat]
    clear hcat hu hrl
    have hmb : m < 10 := by omega
    have hqb : q ≤ n := by omega
    have hi2 : IntKind.i64.wrap (m : Int) = (m : Int) := IntWalk.i64_in _ (by omega)
    have hi3 : IntKind.i64.wrap (q : Int) = (q : Int) := IntWalk.i64_in _ (by omega)
    clear hc h10 hre hm hq
    go_enter Tryd.func79, Tryd.ntmps79
    go_wp2
    go_region_with (go_at_call 79; refine (K.out _).mono ?_; rintro e w1 ⟨rfl, b1⟩; first | have hcv1 := conv1_on (w := w) (c := c) (below_of_drew b1) | have hcv1 := conv1 w1 c)
    all_goals
      go_wp2
      go_ret
    all_goals first | exact ⟨rfl, chain ((Below.refl _ w).alloc (Nat.le_refl _) _) (below_of_drew b1)⟩ | exact ⟨rfl, (below_of_drew b1).alloc (below_of_drew b1).size _⟩ | trace_state

theorem digits_neg (m : Nat) (h0 : 0 < m) (h1 : m < 9223372036854775808) (w : World) :
    Calls Tryd.prog 79 #[.int .i64 (-(m : Int))] w fun e w' => e = .returned (.string ⟨(45 :: Lib.decDigits m).toArray⟩) ∧ Below w.heap.size w w' := by
  have d0 : decide (-(m : Int) < 0) = true := decide_eq_true (by omega)
  have d1 : (-(m : Int) == -9223372036854775808) = false := by rw [beq_eq_false_iff_ne]; omega
  have K := fun w => digits_nat m (by omega) w
  obtain ⟨r, hr⟩ : ∃ r, Lib.decDigits m = r := ⟨_, rfl⟩
  have hrl : r.length ≤ 21 := by rw [← hr]; exact dec_len _ (by omega)
  rw [hr] at K ⊢
  obtain ⟨u, hu⟩ : ∃ u : ByteArray, ⟨r.toArray⟩ = u := ⟨_, rfl⟩
  have hul : u.size ≤ 21 := by rw [← hu]; show r.toArray.size ≤ 21; simpa using hrl
  have hcat : (⟨(45 :: r).toArray⟩ : ByteArray) = ⟨#[45]⟩ ++ u := by rw [← hu]; exact (cat_eq [45] r).symm
  rw [hcat]
  rw [hu] at K
  have K := Lib.hid K
  have hw : IntKind.i64.wrap (0 - -(m : Int)) = (m : Int) := by rw [IntWalk.i64_in _ (by omega)]; omega
  have hw2 : IntKind.i64.wrap (m : Int) = (m : Int) := IntWalk.i64_in _ (by omega)
  clear hr hu hrl hcat
  go_enter Tryd.func79, Tryd.ntmps79
  go_wp2_with (go_at_call 79; refine (K.out _).mono ?_; rintro e w1 ⟨rfl, b1⟩)
  go_ret
  exact ⟨rfl, b1⟩
set_option maxRecDepth 1000000 in
theorem digits_min (w : World) : Calls Tryd.prog 79 #[.int .i64 (-9223372036854775808)] w fun e w' => e = .returned (.string (Ev.bytes [45, 57, 50, 50, 51, 51, 55, 50, 48, 51, 54, 56, 53, 52, 55, 55, 53, 56, 48, 56])) ∧ Below w.heap.size w w' :=
  valued (ν := ν0) (r := .str [45, 57, 50, 50, 51, 51, 55, 50, 48, 51, 54, 56, 53, 52, 55, 55, 53, 56, 48, 56]) (args := [.int .i64 (-9223372036854775808)]) (show ansV _ (Ev.calls Tryd.prog Ev.noFacts 100000 60 _ _ Mem.start) = true by kernel_rfl) (vl_int _ _ (vl_nil _)) (fun E x h => by simp only [V] at h; exact h.1) w
theorem dec_min : Lib.decDigits 9223372036854775808 = [57, 50, 50, 51, 51, 55, 50, 48, 51, 54, 56, 53, 52, 55, 55, 53, 56, 48, 56] := by
  repeat (rw [Lib.decDigits]; first | rw [dif_neg (by decide)] | rw [dif_pos (by decide)])
  rfl
theorem digits_any (n : Int) (h0 : -9223372036854775808 ≤ n) (h1 : n ≤ 9223372036854775807) (w : World) :
    Calls Tryd.prog 79 #[.int .i64 n] w fun e w' => e = .returned (.string ⟨(Lib.itoa n).toArray⟩) ∧ Below w.heap.size w w' := by
  unfold Lib.itoa
  by_cases hn : n < 0
  · rw [if_pos hn]
    by_cases hm : n = -9223372036854775808
    · subst hm
      rw [show (-9223372036854775808 : Int).natAbs = 9223372036854775808 from rfl, dec_min]
      exact digits_min w
    · obtain ⟨m, hme⟩ : ∃ m : Nat, n.natAbs = m := ⟨_, rfl⟩
      rw [hme, show n = -(m : Int) by omega]
      exact digits_neg m (by omega) (by omega) w
  · rw [if_neg hn]
    obtain ⟨m, rfl⟩ := Int.eq_ofNat_of_zero_le (show 0 ≤ n by omega)
    exact digits_nat m (by omega) w

abbrev leafA : AV := .agg [.int .i64 2, .str [], .opq 0, .nslice, .nslice, .nslice, .nslice]
abbrev leafV (n : Int) : Value := .agg #[.int .i64 2, .string ⟨#[]⟩, .int .i64 n, .slice none 0 0, .slice none 0 0, .slice none 0 0, .slice none 0 0]
set_option maxRecDepth 1000000 in
theorem long_leaf (n : Int) (w : World) : Calls Tryd.prog 59 #[leafV n] w fun e w' => e = .returned (.bool false) ∧ Below w.heap.size w w' :=
  valued (ν := fun _ => .int .i64 n) (r := .bool false) (args := [leafA]) (show ansV _ (Ev.calls Tryd.prog Ev.noFacts 100000 60 _ _ Mem.start) = true by kernel_rfl) (by
    simp only [VL, V]
    exact ⟨_, _, rfl, ⟨_, rfl, _, _, rfl, rfl, _, _, rfl, ⟨rfl, by simp⟩, _, _, rfl, ⟨rfl, rfl⟩, _, _, rfl, rfl, _, _, rfl, rfl, _, _, rfl, rfl, _, _, rfl, rfl, rfl⟩, rfl⟩) is_bool w
set_option maxRecDepth 100000 in
set_option maxHeartbeats 8000000 in
theorem text_leaf (n : Int) (h0 : -9223372036854775808 ≤ n) (h1 : n ≤ 9223372036854775807) (w : World) :
    Calls Tryd.prog 60 #[leafV n] w fun e w' => e = .returned (.string ⟨(Lib.itoa n).toArray⟩) ∧ Below w.heap.size w w' := by
  have K := Lib.hid (fun w => digits_any n h0 h1 w)
  have l0 : Below w.heap.size w (w.alloc (.cells #[.int .i64 2, .string ⟨#[]⟩, .int .i64 n, .slice none 0 0, .slice none 0 0, .slice none 0 0, .slice none 0 0] 67)) := (Below.refl _ w).alloc (Nat.le_refl _) _
  go_enter Tryd.func60, Tryd.ntmps60
  go_wp2_with (go_at_call 79; refine (K.out _).mono ?_; rintro e w1 ⟨rfl, b1⟩)
  go_ret
  exact ⟨rfl, chain l0 b1⟩
set_option maxRecDepth 100000 in
set_option maxHeartbeats 8000000 in
theorem Text_leaf (n : Int) (h0 : -9223372036854775808 ≤ n) (h1 : n ≤ 9223372036854775807) (w : World) :
    Calls Tryd.prog 34 #[leafV n] w fun e w' => e = .returned (.string ⟨(Lib.itoa n).toArray⟩) ∧ Below w.heap.size w w' := by
  have K := Lib.hid (fun w => text_leaf n h0 h1 w)
  have KL := Lib.hid (fun w => long_leaf n w)
  have B0 := Blk.new w #[.int .i64 2, .string ⟨#[]⟩, .int .i64 n, .slice none 0 0, .slice none 0 0, .slice none 0 0, .slice none 0 0] 67
  have l0 : Below w.heap.size w (w.alloc (.cells #[.int .i64 2, .string ⟨#[]⟩, .int .i64 n, .slice none 0 0, .slice none 0 0, .slice none 0 0, .slice none 0 0] 67)) := (Below.refl _ w).alloc (Nat.le_refl _) _
  go_enter Tryd.func34, Tryd.ntmps34
  go_wp2_with (first | (go_at_call 59; refine (KL.out _).mono ?_; rintro e w1 ⟨rfl, b1⟩; have hl := chain l0 b1; have B1 := B0.below b1 B0.lt; have c0 := B1.cell 0; have c1 := B1.cell 1; have c2 := B1.cell 2; have c3 := B1.cell 3; have c4 := B1.cell 4; have c5 := B1.cell 5; have c6 := B1.cell 6; simp only [List.getElem?_toArray, List.getElem?_cons_zero, List.getElem?_cons_succ] at c0 c1 c2 c3 c4 c5 c6) | (go_at_call 60; refine (K.out _).mono ?_; rintro e w2 ⟨rfl, b2⟩))
  go_ret
  exact ⟨rfl, chain hl b2⟩
set_option maxRecDepth 100000 in
set_option maxHeartbeats 8000000 in
theorem rShow_any (n : Int) (h0 : -9223372036854775808 ≤ n) (h1 : n ≤ 9223372036854775807) (w : World) :
    Calls Tryd.prog 18 #[.int .i64 n] w fun e w' => e = .returned (.string ⟨(Lib.itoa n).toArray⟩) ∧ Below w.heap.size w w' := by
  have K := Lib.hid (fun w => Text_leaf n h0 h1 w)
  go_enter Tryd.func18, Tryd.ntmps18
  go_wp2_with (go_at_call 34; refine (K.out _).mono ?_; rintro e w1 ⟨rfl, b1⟩)
  go_ret
  exact ⟨rfl, b1⟩

abbrev Tb (w : World) : Prop := Lib.TabBelow Tryd.prog w.heap.size w powName .u64 Lib.pow10Tab
theorem Tb.on {w W : World} (h : Tb w) (hb : Below w.heap.size w W) : Tb W := fun w' h' => h w' (hb.trans (h'.mono hb.size))
set_option maxRecDepth 100000 in
set_option maxHeartbeats 8000000 in
theorem Show_any (n : Int) (h0 : -9223372036854775808 ≤ n) (h1 : n ≤ 9223372036854775807) (w : World) (ht : Tb w) :
    Calls Tryd.prog 11 #[.int .i64 n] w fun e w' => e = .returned (.string ⟨(Lib.itoa n).toArray⟩) ∧ Below w.heap.size w w' := by
  have K := Lib.hid ((Tryd.strconv_FormatInt_10 n h0 h1 w ht.here).mono (R' := fun e w' => e = .returned (.string ⟨(Lib.itoa n).toArray⟩) ∧ Below w.heap.size w w') (by
    rintro e w' ⟨rfl, k, os, rfl⟩
    exact ⟨rfl, Lib.below_grow _ _ (Nat.le_refl _) _ _⟩))
  go_enter Tryd.func11, Tryd.ntmps11
  go_wp2_with (go_at_call 29; refine K.out.mono ?_; rintro e w1 ⟨rfl, b1⟩)
  go_ret
  exact ⟨rfl, b1⟩
end Go.Proofs.YtmgfgkikeflenaaDoor
