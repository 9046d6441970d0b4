/- Families of closed runs; the digits of a number, as the document and as strconv.Itoa tell them. (Turned from the like texts of layer 08.) -/
import Derived.Test.YtbjlnllbcgghlaaDoorPyB
import Derived.Test.YtbjlnllbcgghlaaDoorEvX
import Derived.Test.YtbjlnllbcgghlaaDoorEvT
import Derived.Test.YtbjlnllbcgghlaaDoorShelfB
import Derived.Lib.ConvBytes
import Derived.Lib.AppendIntMem
import Derived.Lib.LaidU8
namespace Go.Proofs.YtbjlnllbcgghlaaDoor
open Go.RowKit Go.Shelf
open Ev (AV Mem V VL MR)
set_option linter.unusedSimpArgs false
set_option linter.unusedVariables false

theorem mix : Tryd.prog.follows .mixedOrders = true := by kernel_rfl
noncomputable def allV (r : AV) : List (AV × Mem) → Bool
  | [] => true
  | q :: l => AV.beq q.1 r && allV r l
noncomputable def ansV (r : AV) : Option (List (AV × Mem)) → Bool
  | some l => allV r l
  | none => false
theorem allV_mem {r : AV} : ∀ {l : List (AV × Mem)}, allV r l = true → ∀ q ∈ l, q.1 = r
  | [], _, q, hq => by cases hq
  | p :: l, h, q, hq => by
    rw [allV, Bool.and_eq_true] at h
    rcases List.mem_cons.1 hq with rfl | hq
    · exact AV.eq_of_beq _ _ h.1
    · exact allV_mem h.2 q hq
theorem valued {ν : Nat → Value} {Φ : Ev.Facts} [Ev.FactsOk Tryd.prog ν Φ] {F : FuncId} {args : List AV} {xs : Array Value} {r : AV} {z : Value} (h : ansV r (Ev.calls Tryd.prog Φ 100000 60 F args Mem.start) = true) (hx : VL ν (fun _ => none) args xs.toList)
    (hz : ∀ E x, V ν E r x → x = z) (w : World) : Calls Tryd.prog F xs w fun e w' => e = .returned z ∧ Below w.heap.size w w' := by
  cases e : Ev.calls Tryd.prog Φ 100000 60 F args Mem.start with
  | none => rw [e] at h; cases h
  | some l =>
    rw [e] at h
    have hall := allV_mem (show allV r l = true from h)
    refine Calls.mono (Ev.calls_ok (ν := ν) mix 100000 60 _ _ F args Mem.start l e rfl (fun _ => none) xs w hx (MR.start w)) fun e w' he => ?_
    obtain ⟨q, hq, E', x, _, rfl, hx, hM, _⟩ := he
    rw [hall q hq] at hx
    exact ⟨by rw [hz _ _ hx], hM.low⟩
noncomputable def fam (Φ : Ev.Facts) (F : FuncId) (args : Nat → List AV) (r : Nat → AV) : Nat → Bool
  | 0 => true
  | n + 1 => ansV (r n) (Ev.calls Tryd.prog Φ 100000 60 F (args n) Mem.start) && fam Φ F args r n
theorem fam_at {Φ : Ev.Facts} {F : FuncId} {args : Nat → List AV} {r : Nat → AV} : ∀ {n : Nat}, fam Φ F args r n = true → ∀ k, k < n → ansV (r k) (Ev.calls Tryd.prog Φ 100000 60 F (args k) Mem.start) = true
  | 0, _, k, hk => by omega
  | n + 1, h, k, hk => by
    rw [fam, Bool.and_eq_true] at h
    by_cases e : k = n
    · rw [e]; exact h.1
    · exact fam_at h.2 k (by omega)
abbrev ν0 : Nat → Value := fun _ => undef
theorem vl_nil (ν : Nat → Value) : VL ν (fun _ => none) [] [] := by simp only [VL]
theorem vl_int (ν : Nat → Value) (n : Int) {l : List AV} {xs : List Value} (h : VL ν (fun _ => none) l xs) : VL ν (fun _ => none) (.int .i64 n :: l) (.int .i64 n :: xs) := by
  simp only [VL, V]
  exact ⟨_, _, rfl, rfl, h⟩
theorem vl_opq (ν : Nat → Value) (i : Nat) {v : Value} (hv : ν i = v) (h1 : v.oneCell' = true) {l : List AV} {xs : List Value} (h : VL ν (fun _ => none) l xs) : VL ν (fun _ => none) (.opq i :: l) (v :: xs) := by
  simp only [VL, V]
  exact ⟨_, _, rfl, ⟨hv.symm, h1⟩, h⟩
theorem is_bool {ν : Nat → Value} {b : Bool} : ∀ E x, V ν E (.bool b) x → x = .bool b := fun E x h => by simpa only [V] using h
theorem is_int {ν : Nat → Value} {n : Int} : ∀ E x, V ν E (.int .i64 n) x → x = .int .i64 n := fun E x h => by simpa only [V] using h

theorem info5 : (Tryd.prog.info? 5).map (fun i => (i.zero, i.size, i.bytes)) = some (some (.int .u8 0), 1, 1) := by kernel_rfl
def bV (l : List UInt8) : List Value := l.map fun b => Value.int .u8 (b.toNat : Int)
theorem bV_len (l : List UInt8) : (bV l).length = l.length := by simp [bV]
theorem bV_app (a b : List UInt8) : bV (a ++ b) = bV a ++ bV b := by simp [bV]
abbrev BOwn (W : World) (base : Nat) (v : Value) (l : List UInt8) : Prop := W.ownsRow base 5 1 v l.length (bV l)
theorem run_back (w : World) (base : Nat) (v : Value) (l : List UInt8) (h : BOwn w base v l) :
    (convert 32 9 v).run Tryd.prog w = .ok (.string ⟨l.toArray⟩) w := by
  rcases h.2 with ⟨rfl, h0⟩ | ⟨g, cap, cur, rfl, _⟩
  · have : l = [] := List.length_eq_zero_iff.1 h0
    subst this
    rw [run_convert_bytes_string w _ _ 5 none 0 0 Tryd.underlying32 Tryd.underlying5 Tryd.underlying9]; rfl
  · have hc := h.cells (g := g) rfl
    rw [run_convert_bytes_back w _ _ 5 ⟨g, 0, none⟩ cap l Tryd.underlying32 Tryd.underlying5 Tryd.underlying9 (fun j hj => hc j _ (by unfold bV; rw [List.getElem?_map, List.getElem?_eq_getElem hj]; rfl))]
theorem box1 (w : World) (c : UInt8) : BOwn (w.alloc (.cells #[.int .u8 c.toNat] 5)) w.heap.size (.slice (some ⟨w.heap.size, 0, none⟩) 1 1) [c] :=
  ⟨by simp [bV], .inr ⟨w.heap.size, 1, #[.int .u8 c.toNat], rfl, Nat.le_refl _, heap_alloc_new w _, Nat.le_refl _, by unfold maxLen; omega, rfl, rfl⟩⟩
theorem conv1 (w : World) (c : UInt8) : (convert 32 9 (.slice (some ⟨w.heap.size, 0, none⟩) 1 1)).run Tryd.prog (w.alloc (.cells #[.int .u8 c.toNat] 5)) = .ok (.string ⟨#[c]⟩) (w.alloc (.cells #[.int .u8 c.toNat] 5)) := run_back _ _ _ _ (box1 w c)
theorem conv1_on {w w1 : World} {c : UInt8} (h : Below (w.alloc (.cells #[.int .u8 c.toNat] 5)).heap.size (w.alloc (.cells #[.int .u8 c.toNat] 5)) w1) :
    (convert 32 9 (.slice (some ⟨w.heap.size, 0, none⟩) 1 1)).run Tryd.prog w1 = .ok (.string ⟨#[c]⟩) w1 := run_back _ _ _ _ (own_on (box1 w c) h (own_lt (box1 w c)))
theorem cat_eq (a b : List UInt8) : (⟨a.toArray⟩ : ByteArray) ++ ⟨b.toArray⟩ = ⟨(a ++ b).toArray⟩ := by
  apply ByteArray.ext
  simp [ByteArray.data_append]
theorem dig_byte (n : Nat) (h : n < 10) : IntKind.u8.wrap (48 + (n : Int)) = ((UInt8.ofNat (48 + n)).toNat : Int) := by
  have : (UInt8.ofNat (48 + n)).toNat = 48 + n := by simp; omega
  rw [this]
  simp [IntKind.wrap, IntKind.bits, IntKind.signed]
  omega


theorem dec_lenF : ∀ f n, n < 10 ^ (f + 1) → (Lib.decDigits n).length ≤ f + 1
  | 0, n, h => by
    rw [Lib.decDigits, dif_pos (by simpa using h)]; simp
  | f + 1, n, h => by
    rw [Lib.decDigits]
    split
    · simp
    · have := dec_lenF f (n / 10) (by rw [Nat.pow_succ] at h; omega)
      simp; exact this
theorem dec_len (n : Nat) (h : n ≤ 9223372036854775808) : (Lib.decDigits n).length ≤ 21 := dec_lenF 20 n (by omega)
set_option maxRecDepth 100000 in
set_option maxHeartbeats 8000000 in
theorem digits_nat (n : Nat) (hn : n ≤ 9223372036854775807) (w : World) :
    Calls Tryd.prog 74 #[.int .i64 n] w fun e w' => e = .returned (.string ⟨(Lib.decDigits n).toArray⟩) ∧ Below w.heap.size w w' := by
  induction n using Nat.strongRecOn generalizing w with
  | _ n ih =>
  by_cases h10 : n < 10
  · have d0 : decide ((n : Int) < 10) = true := decide_eq_true (by omega)
    have d0' : decide (n < 10) = true := decide_eq_true (by omega)
    have hw := dig_byte n h10
    have hi : IntKind.i64.wrap (48 + (n : Int)) = 48 + (n : Int) := IntWalk.i64_in _ (by omega)
    have hr : Lib.decDigits n = [UInt8.ofNat (48 + n)] := by rw [Lib.decDigits, dif_pos h10]
    rw [hr]
    clear hr ih
    obtain ⟨c, hc⟩ : ∃ c, UInt8.ofNat (48 + n) = c := ⟨_, rfl⟩
    rw [hc] at hw ⊢
    have hcv := conv1 w c
    clear hc h10
    go_enter Tryd.func74, Tryd.ntmps74
    go_wp2
    go_ret
    exact ⟨rfl, (Below.refl _ _).alloc (Nat.le_refl _) _⟩
  · have d0 : decide ((n : Int) < 10) = false := decide_eq_false (by omega)
    have d0' : decide (n < 10) = false := decide_eq_false (by omega)
    have hw := dig_byte (n % 10) (by omega)
    have hi : IntKind.i64.wrap (48 + ((n % 10 : Nat) : Int)) = 48 + ((n % 10 : Nat) : Int) := IntWalk.i64_in _ (by omega)
    have e1 : (n : Int).tdiv 10 = ((n / 10 : Nat) : Int) := rfl
    have e2 : (n : Int).tmod 10 = ((n % 10 : Nat) : Int) := rfl
    have hr : Lib.decDigits n = Lib.decDigits (n / 10) ++ [UInt8.ofNat (48 + n % 10)] := by rw [Lib.decDigits, dif_neg h10]
    rw [hr]
    have K := Lib.hid (fun w => ih (n / 10) (by omega) (by omega) w)
    clear hr ih
    obtain ⟨c, hc⟩ : ∃ c, UInt8.ofNat (48 + n % 10) = c := ⟨_, rfl⟩
    obtain ⟨r, hre⟩ : ∃ r, Lib.decDigits (n / 10) = r := ⟨_, rfl⟩
    obtain ⟨m, hm⟩ : ∃ m, n % 10 = m := ⟨_, rfl⟩
    obtain ⟨q, hq⟩ : ∃ q, n / 10 = q := ⟨_, rfl⟩
    rw [hc] at hw ⊢
    rw [hre] at K ⊢
    rw [hm] at hw hi e2
    rw [hq] at e1 K
    have hcv := conv1_on (w := w) (c := c) (Below.refl _ (w.alloc (.cells #[.int .u8 c.toNat] 5))).drew
    have hrl : r.length ≤ 21 := by rw [← hre]; exact dec_len _ (by omega)
    obtain ⟨u, hu⟩ : ∃ u : ByteArray, ⟨r.toArray⟩ = u := ⟨_, rfl⟩
    have hul : u.size ≤ 21 := by rw [← hu]; show r.toArray.size ≤ 21; simpa using hrl
    rw [hu] at K
    have hcat : (⟨(r ++ [c]).toArray⟩ : ByteArray) = u ++ ⟨#[c]⟩ := by rw [← hu]; exact (cat_eq r [c]).symm
    rw [hcat]
    clear hcat hu hrl
    have hmb : m < 10 := by omega
    have hqb : q ≤ n := by omega
    have hi2 : IntKind.i64.wrap (m : Int) = (m : Int) := IntWalk.i64_in _ (by omega)
    have hi3 : IntKind.i64.wrap (q : Int) = (q : Int) := IntWalk.i64_in _ (by omega)
    clear hc h10 hre hm hq
    go_enter Tryd.func74, Tryd.ntmps74
    go_wp2
    go_region_with (go_at_call 74; refine (K.out _).mono ?_; rintro e w1 ⟨rfl, b1⟩; first | have hcv1 := conv1_on (w := w) (c := c) (below_of_drew b1) | have hcv1 := conv1 w1 c)
    all_goals
      go_wp2
      go_ret
    all_goals first | exact ⟨rfl, chain ((Below.refl _ w).alloc (Nat.le_refl _) _) (below_of_drew b1)⟩ | exact ⟨rfl, (below_of_drew b1).alloc (below_of_drew b1).size _⟩ | trace_state

theorem digits_neg (m : Nat) (h0 : 0 < m) (h1 : m < 9223372036854775808) (w : World) :
    Calls Tryd.prog 74 #[.int .i64 (-(m : Int))] w fun e w' => e = .returned (.string ⟨(45 :: Lib.decDigits m).toArray⟩) ∧ Below w.heap.size w w' := by
  have d0 : decide (-(m : Int) < 0) = true := decide_eq_true (by omega)
  have d1 : (-(m : Int) == -9223372036854775808) = false := by rw [beq_eq_false_iff_ne]; omega
  have K := fun w => digits_nat m (by omega) w
  obtain ⟨r, hr⟩ : ∃ r, Lib.decDigits m = r := ⟨_, rfl⟩
  have hrl : r.length ≤ 21 := by rw [← hr]; exact dec_len _ (by omega)
  rw [hr] at K ⊢
  obtain ⟨u, hu⟩ : ∃ u : ByteArray, ⟨r.toArray⟩ = u := ⟨_, rfl⟩
  have hul : u.size ≤ 21 := by rw [← hu]; show r.toArray.size ≤ 21; simpa using hrl
  have hcat : (⟨(45 :: r).toArray⟩ : ByteArray) = ⟨#[45]⟩ ++ u := by rw [← hu]; exact (cat_eq [45] r).symm
  rw [hcat]
  rw [hu] at K
  have K := Lib.hid K
  have hw : IntKind.i64.wrap (0 - -(m : Int)) = (m : Int) := by rw [IntWalk.i64_in _ (by omega)]; omega
  have hw2 : IntKind.i64.wrap (m : Int) = (m : Int) := IntWalk.i64_in _ (by omega)
  clear hr hu hrl hcat
  go_enter Tryd.func74, Tryd.ntmps74
  go_wp2_with (go_at_call 74; refine (K.out _).mono ?_; rintro e w1 ⟨rfl, b1⟩)
  go_ret
  exact ⟨rfl, b1⟩
set_option maxRecDepth 1000000 in
theorem digits_min (w : World) : Calls Tryd.prog 74 #[.int .i64 (-9223372036854775808)] w fun e w' => e = .returned (.string (Ev.bytes [45, 57, 50, 50, 51, 51, 55, 50, 48, 51, 54, 56, 53, 52, 55, 55, 53, 56, 48, 56])) ∧ Below w.heap.size w w' :=
  valued (ν := ν0) (r := .str [45, 57, 50, 50, 51, 51, 55, 50, 48, 51, 54, 56, 53, 52, 55, 55, 53, 56, 48, 56]) (args := [.int .i64 (-9223372036854775808)]) (show ansV _ (Ev.calls Tryd.prog Ev.noFacts 100000 60 _ _ Mem.start) = true by kernel_rfl) (vl_int _ _ (vl_nil _)) (fun E x h => by simp only [V] at h; exact h.1) w
theorem dec_min : Lib.decDigits 9223372036854775808 = [57, 50, 50, 51, 51, 55, 50, 48, 51, 54, 56, 53, 52, 55, 55, 53, 56, 48, 56] := by
  repeat (rw [Lib.decDigits]; first | rw [dif_neg (by decide)] | rw [dif_pos (by decide)])
  rfl
theorem digits_any (n : Int) (h0 : -9223372036854775808 ≤ n) (h1 : n ≤ 9223372036854775807) (w : World) :
    Calls Tryd.prog 74 #[.int .i64 n] w fun e w' => e = .returned (.string ⟨(Lib.itoa n).toArray⟩) ∧ Below w.heap.size w w' := by
  unfold Lib.itoa
  by_cases hn : n < 0
  · rw [if_pos hn]
    by_cases hm : n = -9223372036854775808
    · subst hm
      rw [show (-9223372036854775808 : Int).natAbs = 9223372036854775808 from rfl, dec_min]
      exact digits_min w
    · obtain ⟨m, hme⟩ : ∃ m : Nat, n.natAbs = m := ⟨_, rfl⟩
      rw [hme, show n = -(m : Int) by omega]
      exact digits_neg m (by omega) (by omega) w
  · rw [if_neg hn]
    obtain ⟨m, rfl⟩ := Int.eq_ofNat_of_zero_le (show 0 ≤ n by omega)
    exact digits_nat m (by omega) w

abbrev leafA : AV := .agg [.int .i64 2, .str [], .opq 0, .nslice, .nslice, .nslice, .nslice]
abbrev leafV (n : Int) : Value := .agg #[.int .i64 2, .string ⟨#[]⟩, .int .i64 n, .slice none 0 0, .slice none 0 0, .slice none 0 0, .slice none 0 0]
set_option maxRecDepth 1000000 in
theorem long_leaf (n : Int) (w : World) : Calls Tryd.prog 61 #[leafV n] w fun e w' => e = .returned (.bool false) ∧ Below w.heap.size w w' :=
  valued (ν := fun _ => .int .i64 n) (r := .bool false) (args := [leafA]) (show ansV _ (Ev.calls Tryd.prog Ev.noFacts 100000 60 _ _ Mem.start) = true by kernel_rfl) (by
    simp only [VL, V]
    exact ⟨_, _, rfl, ⟨_, rfl, _, _, rfl, rfl, _, _, rfl, ⟨rfl, by simp⟩, _, _, rfl, ⟨rfl, rfl⟩, _, _, rfl, rfl, _, _, rfl, rfl, _, _, rfl, rfl, _, _, rfl, rfl, rfl⟩, rfl⟩) is_bool w
set_option maxRecDepth 100000 in
set_option maxHeartbeats 8000000 in
theorem text_leaf (n : Int) (h0 : -9223372036854775808 ≤ n) (h1 : n ≤ 9223372036854775807) (w : World) :
    Calls Tryd.prog 62 #[leafV n] w fun e w' => e = .returned (.string ⟨(Lib.itoa n).toArray⟩) ∧ Below w.heap.size w w' := by
  have K := Lib.hid (fun w => digits_any n h0 h1 w)
  have l0 : Below w.heap.size w (w.alloc (.cells #[.int .i64 2, .string ⟨#[]⟩, .int .i64 n, .slice none 0 0, .slice none 0 0, .slice none 0 0, .slice none 0 0] 86)) := (Below.refl _ w).alloc (Nat.le_refl _) _
  go_enter Tryd.func62, Tryd.ntmps62
  go_wp2_with (go_at_call 74; refine (K.out _).mono ?_; rintro e w1 ⟨rfl, b1⟩)
  go_ret
  exact ⟨rfl, chain l0 b1⟩
set_option maxRecDepth 100000 in
set_option maxHeartbeats 8000000 in
theorem Text_leaf (n : Int) (h0 : -9223372036854775808 ≤ n) (h1 : n ≤ 9223372036854775807) (w : World) :
    Calls Tryd.prog 48 #[leafV n] w fun e w' => e = .returned (.string ⟨(Lib.itoa n).toArray⟩) ∧ Below w.heap.size w w' := by
  have K := Lib.hid (fun w => text_leaf n h0 h1 w)
  have KL := Lib.hid (fun w => long_leaf n w)
  have B0 := Blk.new w #[.int .i64 2, .string ⟨#[]⟩, .int .i64 n, .slice none 0 0, .slice none 0 0, .slice none 0 0, .slice none 0 0] 86
  have l0 : Below w.heap.size w (w.alloc (.cells #[.int .i64 2, .string ⟨#[]⟩, .int .i64 n, .slice none 0 0, .slice none 0 0, .slice none 0 0, .slice none 0 0] 86)) := (Below.refl _ w).alloc (Nat.le_refl _) _
  go_enter Tryd.func48, Tryd.ntmps48
  go_wp2_with (first | (go_at_call 61; refine (KL.out _).mono ?_; rintro e w1 ⟨rfl, b1⟩; have hl := chain l0 b1; have B1 := B0.below b1 B0.lt; have c0 := B1.cell 0; have c1 := B1.cell 1; have c2 := B1.cell 2; have c3 := B1.cell 3; have c4 := B1.cell 4; have c5 := B1.cell 5; have c6 := B1.cell 6; simp only [List.getElem?_toArray, List.getElem?_cons_zero, List.getElem?_cons_succ] at c0 c1 c2 c3 c4 c5 c6) | (go_at_call 62; refine (K.out _).mono ?_; rintro e w2 ⟨rfl, b2⟩))
  go_ret
  exact ⟨rfl, chain hl b2⟩
set_option maxRecDepth 100000 in
set_option maxHeartbeats 8000000 in
theorem rShow_any (n : Int) (h0 : -9223372036854775808 ≤ n) (h1 : n ≤ 9223372036854775807) (w : World) :
    Calls Tryd.prog 39 #[.int .i64 n] w fun e w' => e = .returned (.string ⟨(Lib.itoa n).toArray⟩) ∧ Below w.heap.size w w' := by
  have K := Lib.hid (fun w => Text_leaf n h0 h1 w)
  go_enter Tryd.func39, Tryd.ntmps39
  go_wp2_with (go_at_call 48; refine (K.out _).mono ?_; rintro e w1 ⟨rfl, b1⟩)
  go_ret
  exact ⟨rfl, b1⟩

abbrev Tb (w : World) : Prop := Lib.TabBelow Tryd.prog w.heap.size w powName .u64 Lib.pow10Tab
theorem Tb.on {w W : World} (h : Tb w) (hb : Below w.heap.size w W) : Tb W := fun w' h' => h w' (hb.trans (h'.mono hb.size))
set_option maxRecDepth 100000 in
set_option maxHeartbeats 8000000 in
theorem itoa_any (n : Int) (h0 : -9223372036854775808 ≤ n) (h1 : n ≤ 9223372036854775807) (w : World) (ht : Tb w) :
    Calls Tryd.prog 37 #[.int .i64 n] w fun e w' => e = .returned (.string ⟨(Lib.itoa n).toArray⟩) ∧ Below w.heap.size w w' :=
  (Tryd.strconv_Itoa n h0 h1 w ht.here).mono (by
    rintro e w' ⟨rfl, k, os, rfl⟩
    exact ⟨rfl, Lib.below_grow _ _ (Nat.le_refl _) _ _⟩)
end Go.Proofs.YtbjlnllbcgghlaaDoor
