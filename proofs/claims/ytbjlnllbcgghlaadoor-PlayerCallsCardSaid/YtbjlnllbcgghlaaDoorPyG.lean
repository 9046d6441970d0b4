/- A fine play's line. -/
import Derived.Test.YtbjlnllbcgghlaaDoorPyF
namespace Go.Proofs.YtbjlnllbcgghlaaDoor
open Go.RowKit Go.Shelf
open Ev (AV Mem V VL MR)
set_option linter.unusedSimpArgs false
set_option linter.unusedVariables false

abbrev plA (k : Int) : AV := .agg [.int .i64 k, .opq 0, .opq 1]
abbrev plN (n : Int) (v : Value) : Nat → Value := fun i => if i = 0 then .int .i64 n else v
theorem plA_ok (k n : Int) (v : Value) (hv : v.oneCell' = true) : VL (plN n v) (fun _ => none) [plA k] [.agg #[.int .i64 k, .int .i64 n, v]] := by
  simp only [VL, V]
  exact ⟨_, _, rfl, ⟨_, rfl, _, _, rfl, rfl, _, _, rfl, ⟨rfl, rfl⟩, _, _, rfl, ⟨rfl, hv⟩, rfl⟩, rfl⟩
theorem str_res {ν : Nat → Value} (l : List Nat) (hl : l.all (· < 256) = true) : ∀ E x, V ν E (.str l) x → x = .string ⟨(l.map UInt8.ofNat).toArray⟩ := by
  intro E x h
  simp only [V] at h
  rw [h.1]; rfl
set_option maxRecDepth 1000000 in
theorem line_end (n : Int) (v : Value) (hv : v.oneCell' = true) (w : World) : Calls Tryd.prog 28 #[.agg #[.int .i64 2, .int .i64 n, v]] w fun e w' => e = .returned (.string ⟨#[101, 110, 100]⟩) ∧ Below w.heap.size w w' :=
  valued (ν := plN n v) (r := .str [101, 110, 100]) (args := [plA 2]) (show ansV _ (Ev.calls Tryd.prog Ev.noFacts 100000 60 _ _ Mem.start) = true by kernel_rfl) (plA_ok 2 n v hv) (str_res _ rfl) w
set_option maxRecDepth 1000000 in
theorem line_minor (n : Int) (v : Value) (hv : v.oneCell' = true) (w : World) : Calls Tryd.prog 28 #[.agg #[.int .i64 4, .int .i64 n, v]] w fun e w' => e = .returned (.string ⟨#[109, 105, 110, 111, 114]⟩) ∧ Below w.heap.size w w' :=
  valued (ν := plN n v) (r := .str [109, 105, 110, 111, 114]) (args := [plA 4]) (show ansV _ (Ev.calls Tryd.prog Ev.noFacts 100000 60 _ _ Mem.start) = true by kernel_rfl) (plA_ok 4 n v hv) (str_res _ rfl) w
set_option maxRecDepth 1000000 in
theorem line_major (n : Int) (v : Value) (hv : v.oneCell' = true) (w : World) : Calls Tryd.prog 28 #[.agg #[.int .i64 5, .int .i64 n, v]] w fun e w' => e = .returned (.string ⟨#[109, 97, 106, 111, 114]⟩) ∧ Below w.heap.size w w' :=
  valued (ν := plN n v) (r := .str [109, 97, 106, 111, 114]) (args := [plA 5]) (show ansV _ (Ev.calls Tryd.prog Ev.noFacts 100000 60 _ _ Mem.start) = true by kernel_rfl) (plA_ok 5 n v hv) (str_res _ rfl) w
set_option maxRecDepth 1000000 in
theorem rline_end (n : Int) (v : Value) (hv : v.oneCell' = true) (w : World) : Calls Tryd.prog 30 #[.agg #[.int .i64 2, .int .i64 n, v]] w fun e w' => e = .returned (.string ⟨#[101, 110, 100]⟩) ∧ Below w.heap.size w w' :=
  valued (ν := plN n v) (r := .str [101, 110, 100]) (args := [plA 2]) (show ansV _ (Ev.calls Tryd.prog Ev.noFacts 100000 60 _ _ Mem.start) = true by kernel_rfl) (plA_ok 2 n v hv) (str_res _ rfl) w
set_option maxRecDepth 1000000 in
theorem rline_minor (n : Int) (v : Value) (hv : v.oneCell' = true) (w : World) : Calls Tryd.prog 30 #[.agg #[.int .i64 4, .int .i64 n, v]] w fun e w' => e = .returned (.string ⟨#[109, 105, 110, 111, 114]⟩) ∧ Below w.heap.size w w' :=
  valued (ν := plN n v) (r := .str [109, 105, 110, 111, 114]) (args := [plA 4]) (show ansV _ (Ev.calls Tryd.prog Ev.noFacts 100000 60 _ _ Mem.start) = true by kernel_rfl) (plA_ok 4 n v hv) (str_res _ rfl) w
set_option maxRecDepth 1000000 in
theorem rline_major (n : Int) (v : Value) (hv : v.oneCell' = true) (w : World) : Calls Tryd.prog 30 #[.agg #[.int .i64 5, .int .i64 n, v]] w fun e w' => e = .returned (.string ⟨#[109, 97, 106, 111, 114]⟩) ∧ Below w.heap.size w w' :=
  valued (ν := plN n v) (r := .str [109, 97, 106, 111, 114]) (args := [plA 5]) (show ansV _ (Ev.calls Tryd.prog Ev.noFacts 100000 60 _ _ Mem.start) = true by kernel_rfl) (plA_ok 5 n v hv) (str_res _ rfl) w
theorem run_cat (l : List UInt8) : (⟨#[114, 117, 110, 32]⟩ : ByteArray) ++ ⟨l.toArray⟩ = ⟨([114, 117, 110, 32] ++ l).toArray⟩ := by
  rw [show (⟨#[114, 117, 110, 32]⟩ : ByteArray) = ⟨[114, 117, 110, 32].toArray⟩ from rfl, cat_eq]
set_option maxRecDepth 100000 in
set_option maxHeartbeats 8000000 in
theorem line_run (n : Int) (v : Value) (w : World) (h0 : 0 ≤ n) (h1 : n ≤ 1048576) (hL : LayP w) : Calls Tryd.prog 28 #[.agg #[.int .i64 3, .int .i64 n, v]] w fun e w' => e = .returned (.string ⟨([114, 117, 110, 32] ++ Lib.itoa n).toArray⟩) ∧ Below w.heap.size w w' := by
  have l0 : Below w.heap.size w (w.alloc (.cells #[.int .i64 3, .int .i64 n, v] 34)) := (Below.refl _ w).alloc (Nat.le_refl _) _
  have K := Lib.hid (fun (W : World) (hb : Below w.heap.size w W) => itoa_any n (by omega) (by omega) W (hL.on hb).tb)
  obtain ⟨s, hs⟩ : ∃ s : ByteArray, (⟨(Lib.itoa n).toArray⟩ : ByteArray) = s := ⟨_, rfl⟩
  have z : s.size ≤ 22 := by
    rw [← hs]
    obtain ⟨m, rfl⟩ := Int.eq_ofNat_of_zero_le h0
    have e : Lib.itoa (m : Int) = Lib.decDigits m := by unfold Lib.itoa; rw [if_neg (by omega)]; rfl
    have hl := dec_lenF 6 m (by omega)
    rw [e]
    show (Lib.decDigits m).toArray.size ≤ 22
    rw [List.size_toArray]; omega
  have HS := Lib.hid hs
  have K2 := Lib.hid (show Calls Tryd.prog 37 #[.int .i64 n] (w.alloc (.cells #[.int .i64 3, .int .i64 n, v] 34)) fun e w' => e = .returned (.string s) ∧ Below (w.alloc (.cells #[.int .i64 3, .int .i64 n, v] 34)).heap.size (w.alloc (.cells #[.int .i64 3, .int .i64 n, v] 34)) w' from hs ▸ K.out _ l0)
  have hf : (⟨([114, 117, 110, 32] ++ Lib.itoa n).toArray⟩ : ByteArray) = ⟨#[114, 117, 110, 32]⟩ ++ s := by rw [← hs, run_cat]
  rw [hf]
  clear hs hf
  go_enter Tryd.func28, Tryd.ntmps28
  go_wp2_with (go_at_call 37; refine K2.out.mono ?_; rintro e w1 ⟨rfl, b1⟩)
  go_ret
  exact ⟨rfl, chain l0 b1⟩
set_option maxRecDepth 100000 in
set_option maxHeartbeats 8000000 in
theorem rline_run (n : Int) (v : Value) (w : World) (h0 : 0 ≤ n) (h1 : n ≤ 1048576) : Calls Tryd.prog 30 #[.agg #[.int .i64 3, .int .i64 n, v]] w fun e w' => e = .returned (.string ⟨([114, 117, 110, 32] ++ Lib.itoa n).toArray⟩) ∧ Below w.heap.size w w' := by
  have l0 : Below w.heap.size w (w.alloc (.cells #[.int .i64 3, .int .i64 n, v] 34)) := (Below.refl _ w).alloc (Nat.le_refl _) _
  obtain ⟨s, hs⟩ : ∃ s : ByteArray, (⟨(Lib.itoa n).toArray⟩ : ByteArray) = s := ⟨_, rfl⟩
  have z : s.size ≤ 22 := by
    rw [← hs]
    obtain ⟨m, rfl⟩ := Int.eq_ofNat_of_zero_le h0
    have e : Lib.itoa (m : Int) = Lib.decDigits m := by unfold Lib.itoa; rw [if_neg (by omega)]; rfl
    have hl := dec_lenF 6 m (by omega)
    rw [e]
    show (Lib.decDigits m).toArray.size ≤ 22
    rw [List.size_toArray]; omega
  have K2 := Lib.hid (show ∀ W, Calls Tryd.prog 39 #[.int .i64 n] W fun e w' => e = .returned (.string s) ∧ Below W.heap.size W w' from fun W => hs ▸ rShow_any n (by omega) (by omega) W)
  have hf : (⟨([114, 117, 110, 32] ++ Lib.itoa n).toArray⟩ : ByteArray) = ⟨#[114, 117, 110, 32]⟩ ++ s := by rw [← hs, run_cat]
  rw [hf]
  clear hs hf
  go_enter Tryd.func30, Tryd.ntmps30
  go_wp2_with (go_at_call 39; refine (K2.out _).mono ?_; rintro e w1 ⟨rfl, b1⟩)
  go_ret
  exact ⟨rfl, chain l0 b1⟩
theorem fine_kind {x : PlD} (h : fineK x = true) : x.kind = 1 ∨ x.kind = 2 ∨ (x.kind = 3 ∧ 0 ≤ x.n ∧ x.n ≤ 1048576) ∨ x.kind = 4 ∨ x.kind = 5 := by
  unfold fineK at h
  simp only [Bool.and_eq_true, decide_eq_true_eq] at h
  obtain ⟨⟨⟨h1, h2⟩, -⟩, h3⟩ := h
  by_cases e : x.kind = 3
  · rw [if_pos e] at h3
    simp only [Bool.and_eq_true, decide_eq_true_eq] at h3
    exact .inr (.inr (.inl ⟨e, h3⟩))
  · omega
theorem Bts.one {W : World} {v : Value} {l : List UInt8} (h : Bts W v l) : v.oneCell' = true := by
  obtain ⟨a, c, rfl, -⟩ := h
  rfl
theorem line_fine (v : Value) (x : PlD) (w : World) (h : PlIs w v x) (hf : fineK x = true) (hn : x.bytes.length ≤ 10000000) (hL : LayP w) :
    Calls Tryd.prog 28 #[v] w fun e w' => e = .returned (.string ⟨(lineK x).toArray⟩) ∧ Below w.heap.size w w' := by
  obtain ⟨vs, rfl, hb⟩ := h
  obtain ⟨k, n, bs⟩ := x
  rcases fine_kind hf with e | e | ⟨e, h0, h1⟩ | e | e <;> (simp only at e; subst e)
  · exact line_feed vs bs n w hb hn
  · exact line_end n vs hb.one w
  · exact line_run n vs w h0 h1 hL
  · exact line_minor n vs hb.one w
  · exact line_major n vs hb.one w
theorem rline_fine (v : Value) (x : PlD) (w : World) (h : PlIs w v x) (hf : fineK x = true) (hn : x.bytes.length ≤ 10000000) :
    Calls Tryd.prog 30 #[v] w fun e w' => e = .returned (.string ⟨(lineK x).toArray⟩) ∧ Below w.heap.size w w' := by
  obtain ⟨vs, rfl, hb⟩ := h
  obtain ⟨k, n, bs⟩ := x
  rcases fine_kind hf with e | e | ⟨e, h0, h1⟩ | e | e <;> (simp only at e; subst e)
  · exact rline_feed vs bs n w hb hn
  · exact rline_end n vs hb.one w
  · exact rline_run n vs w h0 h1
  · exact rline_minor n vs hb.one w
  · exact rline_major n vs hb.one w
end Go.Proofs.YtbjlnllbcgghlaaDoor
