/- What is laid; ParseUint and Atoi at any text; a play's line. -/
import Derived.Test.YtbjlnllbcgghlaaDoorPyE
import Derived.Lib.AtoiTie
import Derived.Lib.AtoiAllCases
namespace Go.Proofs.YtbjlnllbcgghlaaDoor
open Go.RowKit Go.Shelf
open Ev (AV Mem V VL MR)
set_option linter.unusedSimpArgs false
set_option linter.unusedVariables false

def IsErr (v : Value) : Prop := v = .nilIface ∨ ∃ t p, v = .iface t p
/-- What is laid when the law begins. -/
structure LayP (w : World) : Prop where
  tb : Tb w
  ml : ∃ m, w.cell? ⟨0, 0, none⟩ = some (.int .i64 m)
  es : ∃ v, w.cell? ⟨1, 0, none⟩ = some v ∧ IsErr v
  er : ∃ v, w.cell? ⟨2, 0, none⟩ = some v ∧ IsErr v
theorem cell_on {w W : World} (hb : Below w.heap.size w W) {b : Nat} {v : Value} (h : w.cell? ⟨b, 0, none⟩ = some v) : W.cell? ⟨b, 0, none⟩ = some v :=
  (hb.cell (p := ⟨b, 0, none⟩) (Lib.lt_of_cell h)).trans h
theorem LayP.on {w W : World} (h : LayP w) (hb : Below w.heap.size w W) : LayP W := by
  obtain ⟨t, ⟨m, h0⟩, ⟨v1, h1, e1⟩, ⟨v2, h2, e2⟩⟩ := h
  exact ⟨t.on hb, ⟨m, cell_on hb h0⟩, ⟨v1, cell_on hb h1, e1⟩, ⟨v2, cell_on hb h2, e2⟩⟩

/-! A number told is read. -/
theorem decFrom_snoc (b : UInt8) (d : Nat) (hd : Lib.digitVal b = some d) : ∀ (l : List UInt8) (acc n : Nat), Lib.decFrom acc l = some n → Lib.decFrom acc (l ++ [b]) = some (n * 10 + d)
  | [], acc, n, h => by simp [Lib.decFrom] at h; subst h; simp [Lib.decFrom, hd]
  | c :: l, acc, n, h => by
    rw [List.cons_append]
    unfold Lib.decFrom at h ⊢
    cases hc : Lib.digitVal c with
    | none => simp [hc] at h
    | some e => simp only [hc] at h ⊢; exact decFrom_snoc b d hd l _ _ h
theorem dig_val (k : Nat) (h : k < 10) : Lib.digitVal (UInt8.ofNat (48 + k)) = some k := by
  have e : (UInt8.ofNat (48 + k)).toNat = 48 + k := by simp; omega
  unfold Lib.digitVal
  rw [e, if_pos (by omega)]
  congr 1; omega
theorem dec_val (n : Nat) : Lib.decFrom 0 (Lib.decDigits n) = some n := by
  induction n using Nat.strongRecOn with
  | _ n ih =>
    rw [Lib.decDigits]
    split
    · next h => unfold Lib.decFrom; rw [dig_val n h]; simp [Lib.decFrom]
    · next h => rw [decFrom_snoc _ (n % 10) (dig_val _ (by omega)) _ _ _ (ih (n / 10) (by omega))]; congr 1; omega
theorem dec_ne (n : Nat) : Lib.decDigits n ≠ [] := by
  rw [Lib.decDigits]; split <;> simp
theorem dec_head (n : Nat) : ∃ c r, Lib.decDigits n = c :: r ∧ 48 ≤ c.toNat ∧ c.toNat ≤ 57 := by
  cases h : Lib.decDigits n with
  | nil => exact absurd h (dec_ne n)
  | cons c r =>
    obtain ⟨d, hd⟩ := Lib.digit_of_decFrom _ _ _ (dec_val n) 0 c (by rw [h]; rfl)
    have := Lib.digitVal_eq hd
    exact ⟨c, r, rfl, this.1, this.2.1⟩
theorem atoi_dec (n : Nat) : Lib.atoi (Lib.decDigits n) = some (n : Int) := by
  obtain ⟨c, r, h, h1, h2⟩ := dec_head n
  have hv := dec_val n
  rw [h] at hv ⊢
  unfold Lib.atoi
  have e1 : (c == 45) = false := by rw [beq_eq_false_iff_ne]; rintro rfl; revert h1; decide
  have e2 : (c == 43) = false := by rw [beq_eq_false_iff_ne]; rintro rfl; revert h1; decide
  simp only [e1, e2, Bool.false_eq_true, if_false]
  unfold Lib.decNat
  rw [hv]; rfl
theorem atoi_itoa (n : Int) (h0 : 0 ≤ n) (h1 : n ≤ 1048576) : Lib.atoiAll (Lib.itoa n) = .ok n := by
  obtain ⟨m, rfl⟩ := Int.eq_ofNat_of_zero_le h0
  have e : Lib.itoa (m : Int) = Lib.decDigits m := by unfold Lib.itoa; rw [if_neg (by omega)]; rfl
  have hl := dec_lenF 6 m (by omega)
  rw [e, Lib.atoiAll_short _ (by omega), atoi_dec]
  rfl

theorem digB_inj : ∀ i j : Fin 16, digB i.1 = digB j.1 → i = j := by decide
theorem hexK_inj {c d : UInt8} (h : hexK c = hexK d) : c = d := by
  unfold hexK at h
  have hc := c.toNat_lt
  have hd := d.toNat_lt
  obtain ⟨h1, h2⟩ := List.cons.inj h
  obtain ⟨h2, -⟩ := List.cons.inj h2
  have e1 := congrArg Fin.val (digB_inj ⟨c.toNat / 16, by omega⟩ ⟨d.toNat / 16, by omega⟩ h1)
  have e2 := congrArg Fin.val (digB_inj ⟨c.toNat % 16, by omega⟩ ⟨d.toNat % 16, by omega⟩ h2)
  simp only at e1 e2
  exact UInt8.toNat_inj.1 (by omega)
set_option maxRecDepth 100000 in
set_option maxHeartbeats 8000000 in
theorem pu_any (t : ByteArray) (w : World) (hm : t.size ≤ 100000000) (hL : LayP w) :
    Calls Tryd.prog 34 #[.string t, .int .i64 16, .int .i64 8] w fun e w' => (∃ n ev, 0 ≤ n ∧ n ≤ 255 ∧ IsErr ev ∧ e = .returned (.tuple #[.int .u64 n, ev])) ∧ Below w.heap.size w w' := by
  have K := Lib.hid (show Calls Tryd.prog 43 #[.string t, .int .i64 16, .int .i64 8] w fun e w' => (∃ n : Int, (0 ≤ n ∧ n ≤ 255) ∧ ∃ ev, (ev = .nilIface ∨ ev = .iface 89 (.int .i64 2) ∨ ev = .iface 89 (.int .i64 1)) ∧ e = .returned (.tuple #[.int .u64 n, ev])) ∧ Below w.heap.size w w' from by
    by_cases h0 : t.size = 0
    · obtain rfl : t = ⟨#[]⟩ := by
        cases t with | mk a => cases a with | mk l => cases l with | nil => rfl | cons c r => simp [ByteArray.size] at h0
      refine (Tryd.internal_strconv_ParseUint_empty 16 8 w).mono ?_
      rintro e w' ⟨rfl, rfl⟩
      exact ⟨⟨0, by omega, _, .inr (.inl rfl), rfl⟩, Below.refl _ _⟩
    · exact pu_inner t w h0 hm)
  have KL := Lib.hid (fun (W : World) (hb : Below w.heap.size w W) => hL.on hb)
  go_enter Tryd.func34, Tryd.ntmps34
  go_upto_region 2 with ((go_at_call 43; refine K.out.mono ?_; rintro e w1 ⟨⟨n, ⟨hn0, hn1⟩, ev, hev, rfl⟩, b1⟩))
  have KL2 := Lib.hid (KL.out _ b1)
  rcases hev with rfl | rfl | rfl
  · go_wp2
    refine bodyPost_ret (v := .tuple #[.int .u64 n, .nilIface]) (by simp [results, Tryd.results34, go_sem]) rfl ?_
    exact ⟨⟨n, _, hn0, hn1, .inl rfl, rfl⟩, b1⟩
  · obtain ⟨v1, h1, e1⟩ := KL2.out.es
    have KE := Lib.hid (Tryd.strconv_toError_syntax ⟨#[80, 97, 114, 115, 101, 85, 105, 110, 116]⟩ t 16 8 v1 w1 (by omega) h1 e1)
    go_wp2_with (go_at_call 44; refine KE.out.mono ?_; rintro e2 w2 ⟨N, rfl, -, -, b2⟩)
    refine bodyPost_ret (v := .tuple #[.int .u64 n, .iface 92 (.pointer (some ⟨N, 0, none⟩))]) (by simp [results, Tryd.results34, go_sem]) rfl ?_
    exact ⟨⟨n, _, hn0, hn1, .inr ⟨_, _, rfl⟩, rfl⟩, chain b1 b2⟩
  · obtain ⟨v1, h1, e1⟩ := KL2.out.er
    have KE := Lib.hid (Tryd.strconv_toError_range ⟨#[80, 97, 114, 115, 101, 85, 105, 110, 116]⟩ t 16 8 v1 w1 (by omega) h1 e1)
    go_wp2_with (go_at_call 44; refine KE.out.mono ?_; rintro e2 w2 ⟨N, rfl, -, -, b2⟩)
    refine bodyPost_ret (v := .tuple #[.int .u64 n, .iface 92 (.pointer (some ⟨N, 0, none⟩))]) (by simp [results, Tryd.results34, go_sem]) rfl ?_
    exact ⟨⟨n, _, hn0, hn1, .inr ⟨_, _, rfl⟩, rfl⟩, chain b1 b2⟩

theorem pu_u (t : ByteArray) (w : World) (hm : t.size ≤ 100000000) (hL : LayP w) :
    Calls Tryd.prog 34 #[.string t, .int .i64 16, .int .i64 8] w fun e w' => (∃ n ev, 0 ≤ n ∧ n ≤ 255 ∧ IsErr ev ∧ (∀ c : UInt8, t = ⟨(hexK c).toArray⟩ → n = (c.toNat : Int) ∧ ev = .nilIface) ∧ e = .returned (.tuple #[.int .u64 n, ev])) ∧ Below w.heap.size w w' := by
  by_cases h : ∃ c : UInt8, t = ⟨(hexK c).toArray⟩
  · obtain ⟨c, rfl⟩ := h
    refine (pu_hex c w).mono ?_
    rintro e w' ⟨rfl, b⟩
    have hc := c.toNat_lt
    refine ⟨⟨c.toNat, _, by omega, by omega, .inl rfl, fun d hd => ⟨?_, rfl⟩, rfl⟩, b⟩
    have e1 : hexK c = hexK d := by
      have := congrArg (fun x : ByteArray => x.data.toList) hd
      simpa using this
    rw [hexK_inj e1]
  · refine (pu_any t w hm hL).mono ?_
    rintro e w' ⟨⟨n, ev, h0, h1, h2, rfl⟩, b⟩
    exact ⟨⟨n, ev, h0, h1, h2, fun c hc => absurd ⟨c, hc⟩ h, rfl⟩, b⟩
theorem atoi_u (s : ByteArray) (w : World) (hm : s.size ≤ 100000000) (hL : LayP w) :
    Calls Tryd.prog 35 #[.string s] w fun e w' => (∃ n ev, IsErr ev ∧ (∀ m : Int, 0 ≤ m → m ≤ 1048576 → s = ⟨(Lib.itoa m).toArray⟩ → n = m ∧ ev = .nilIface) ∧ e = .returned (.tuple #[.int .i64 n, ev])) ∧ Below w.heap.size w w' := by
  have key : ∀ m : Int, 0 ≤ m → m ≤ 1048576 → s = ⟨(Lib.itoa m).toArray⟩ → Lib.atoiAll s.data.toList = .ok m := by
    rintro m h0 h1 rfl
    exact atoi_itoa m h0 h1
  rcases h : Lib.atoiAll s.data.toList with v | _ | _
  · refine (Tryd.strconv_Atoi_ok s (by omega) v h w).mono ?_
    rintro e w' ⟨rfl, hw⟩
    refine ⟨⟨v, _, .inl rfl, fun m h0 h1 hs => ⟨?_, rfl⟩, rfl⟩, ?_⟩
    · have := key m h0 h1 hs
      rw [h] at this
      exact Lib.NumEnd.ok.inj this
    · rcases hw with rfl | ⟨t, rfl⟩
      · exact Below.refl _ _
      · exact Lib.bytesWorld_below _ _ _
  · obtain ⟨v1, h1, e1⟩ := hL.es
    refine (Tryd.strconv_Atoi_syntax s (by omega) h v1 w h1 e1).mono ?_
    rintro e w' ⟨N, rfl, -, -, b⟩
    exact ⟨⟨_, _, .inr ⟨_, _, rfl⟩, fun m h0 h1 hs => (by have := key m h0 h1 hs; rw [h] at this; cases this), rfl⟩, b⟩
  · obtain ⟨v1, h1, e1⟩ := hL.er
    refine (Tryd.strconv_Atoi_range s (by omega) h v1 w h1 e1).mono ?_
    rintro e w' ⟨N, rfl, -, -, b⟩
    exact ⟨⟨_, _, .inr ⟨_, _, rfl⟩, fun m h0 h1 hs => (by have := key m h0 h1 hs; rw [h] at this; cases this), rfl⟩, b⟩
end Go.Proofs.YtbjlnllbcgghlaaDoor
