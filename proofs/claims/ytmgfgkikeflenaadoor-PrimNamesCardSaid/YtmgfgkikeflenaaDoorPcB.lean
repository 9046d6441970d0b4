/- Closed calls with a known name: what Simple, Strict, Takes, Arity answer; the primitives' own functions and the document's two. The little machine is run by the kernel. -/
import Derived.Test.YtmgfgkikeflenaaDoorPcA
namespace Go.Proofs.YtmgfgkikeflenaaDoor
open Go.RowKit
open Ev (AV Mem V VL MR BinF UnF IsInt isInt_opq isInt_int lss_ok leq_ok gtr_ok geq_ok eql_ok neq_ok add_ok mul_ok quo_ok rem_ok neg_ok table table_ok bin_ok V_opq)
set_option linter.unusedSimpArgs false
set_option linter.unusedVariables false
set_option maxRecDepth 1000000

noncomputable def allV (r : AV) : List (AV × Mem) → Bool
  | [] => true
  | q :: l => AV.beq q.1 r && allV r l
noncomputable def ansV (r : AV) : Option (List (AV × Mem)) → Bool
  | some l => allV r l
  | none => false
theorem allV_mem {r : AV} : ∀ {l : List (AV × Mem)}, allV r l = true → ∀ q ∈ l, q.1 = r
  | [], _, q, hq => by cases hq
  | p :: l, h, q, hq => by
    rw [allV, Bool.and_eq_true] at h
    rcases List.mem_cons.1 hq with rfl | hq
    · exact AV.eq_of_beq _ _ h.1
    · exact allV_mem h.2 q hq
theorem valued {ν : Nat → Value} {Φ : Ev.Facts} [Ev.FactsOk Tryd.prog ν Φ] {F : FuncId} {args : List AV} {xs : Array Value} {r : AV} {z : Value} (h : ansV r (Ev.calls Tryd.prog Φ 100000 60 F args Mem.start) = true) (hx : VL ν (fun _ => none) args xs.toList)
    (hz : ∀ E x, V ν E r x → x = z) (w : World) : Calls Tryd.prog F xs w fun e w' => e = .returned z ∧ Below w.heap.size w w' := by
  cases e : Ev.calls Tryd.prog Φ 100000 60 F args Mem.start with
  | none => rw [e] at h; cases h
  | some l =>
    rw [e] at h
    have hall := allV_mem (show allV r l = true from h)
    refine Calls.mono (Ev.calls_ok (ν := ν) mix 100000 60 _ _ F args Mem.start l e rfl (fun _ => none) xs w hx (MR.start w)) fun e w' he => ?_
    obtain ⟨q, hq, E', x, _, rfl, hx, hM, _⟩ := he
    rw [hall q hq] at hx
    exact ⟨by rw [hz _ _ hx], hM.low⟩
noncomputable def fam (Φ : Ev.Facts) (F : FuncId) (args : Nat → List AV) (r : Nat → AV) : Nat → Bool
  | 0 => true
  | n + 1 => ansV (r n) (Ev.calls Tryd.prog Φ 100000 60 F (args n) Mem.start) && fam Φ F args r n
theorem fam_at {Φ : Ev.Facts} {F : FuncId} {args : Nat → List AV} {r : Nat → AV} : ∀ {n : Nat}, fam Φ F args r n = true → ∀ k, k < n → ansV (r k) (Ev.calls Tryd.prog Φ 100000 60 F (args k) Mem.start) = true
  | 0, _, k, hk => by omega
  | n + 1, h, k, hk => by
    rw [fam, Bool.and_eq_true] at h
    by_cases e : k = n
    · rw [e]; exact h.1
    · exact fam_at h.2 k (by omega)
abbrev ν0 : Nat → Value := fun _ => undef
theorem arg_name (ν : Nat → Value) (k : Nat) {l : List AV} {xs : List Value} (h : VL ν (fun _ => none) l xs) : VL ν (fun _ => none) (.str (nameN k) :: l) (.string (nameB k) :: xs) := by
  simp only [VL, V]
  exact ⟨_, _, rfl, ⟨rfl, Tab.name_lt k⟩, h⟩
theorem vl_nil (ν : Nat → Value) : VL ν (fun _ => none) [] [] := by simp only [VL]
theorem vl_int (ν : Nat → Value) (n : Int) {l : List AV} {xs : List Value} (h : VL ν (fun _ => none) l xs) : VL ν (fun _ => none) (.int .i64 n :: l) (.int .i64 n :: xs) := by
  simp only [VL, V]
  exact ⟨_, _, rfl, rfl, h⟩
theorem vl_opq (ν : Nat → Value) (i : Nat) {v : Value} (hv : ν i = v) (h1 : v.oneCell' = true) {l : List AV} {xs : List Value} (h : VL ν (fun _ => none) l xs) : VL ν (fun _ => none) (.opq i :: l) (v :: xs) := by
  simp only [VL, V]
  exact ⟨_, _, rfl, ⟨hv.symm, h1⟩, h⟩
theorem is_bool {ν : Nat → Value} {b : Bool} : ∀ E x, V ν E (.bool b) x → x = .bool b := fun E x h => by simpa only [V] using h
theorem is_int {ν : Nat → Value} {n : Int} : ∀ E x, V ν E (.int .i64 n) x → x = .int .i64 n := fun E x h => by simpa only [V] using h

def simpK (k : Nat) : Bool := Nat.blt k 15
def strictK (k : Nat) : Int := match Nat.blt k 15 with
  | true => (arN k : Int)
  | false => match k with | 15 => 1 | 17 => 1 | _ => 0
def arityK (k : Nat) : Int := match k with | 20 => 0 | 22 => 0 | 13 => 1 | 14 => 1 | 16 => 1 | 17 => 1 | 18 => 1 | 21 => 1 | 23 => 1 | _ => 2

theorem pSimple_runs : fam Ev.noFacts 13 (fun k => [.str (nameN k)]) (fun k => .bool (simpK k)) 24 = true := by kernel_rfl
theorem pSimple_at (k : Nat) (hk : k < 24) (w : World) : Calls Tryd.prog 13 #[.string (nameB k)] w fun e w' => e = .returned (.bool (simpK k)) ∧ Below w.heap.size w w' :=
  valued (ν := ν0) (fam_at pSimple_runs k hk) (arg_name _ k (vl_nil _)) is_bool w
theorem rSimple_runs : fam Ev.noFacts 14 (fun k => [.str (nameN k)]) (fun k => .bool (simpK k)) 24 = true := by kernel_rfl
theorem rSimple_at (k : Nat) (hk : k < 24) (w : World) : Calls Tryd.prog 14 #[.string (nameB k)] w fun e w' => e = .returned (.bool (simpK k)) ∧ Below w.heap.size w w' :=
  valued (ν := ν0) (fam_at rSimple_runs k hk) (arg_name _ k (vl_nil _)) is_bool w
theorem pStrict_runs : fam Ev.noFacts 10 (fun k => [.str (nameN k)]) (fun k => .int .i64 (strictK k)) 24 = true := by kernel_rfl
theorem pStrict_at (k : Nat) (hk : k < 24) (w : World) : Calls Tryd.prog 10 #[.string (nameB k)] w fun e w' => e = .returned (.int .i64 (strictK k)) ∧ Below w.heap.size w w' :=
  valued (ν := ν0) (fam_at pStrict_runs k hk) (arg_name _ k (vl_nil _)) is_int w
theorem rStrict_runs : fam Ev.noFacts 15 (fun k => [.str (nameN k)]) (fun k => .int .i64 (strictK k)) 24 = true := by kernel_rfl
theorem rStrict_at (k : Nat) (hk : k < 24) (w : World) : Calls Tryd.prog 15 #[.string (nameB k)] w fun e w' => e = .returned (.int .i64 (strictK k)) ∧ Below w.heap.size w w' :=
  valued (ν := ν0) (fam_at rStrict_runs k hk) (arg_name _ k (vl_nil _)) is_int w
theorem rArity_runs : fam Ev.noFacts 30 (fun k => [.str (nameN k)]) (fun k => .int .i64 (arityK k)) 24 = true := by kernel_rfl
theorem rArity_at (k : Nat) (hk : k < 24) (w : World) : Calls Tryd.prog 30 #[.string (nameB k)] w fun e w' => e = .returned (.int .i64 (arityK k)) ∧ Below w.heap.size w w' :=
  valued (ν := ν0) (fam_at rArity_runs k hk) (arg_name _ k (vl_nil _)) is_int w

def takesK (k : Nat) (i : Int) : Int := if k < 15 ∧ 0 ≤ i ∧ i < arN k then kdN k else 0
def tkC (k j : Nat) : Int := match Nat.blt k 15, Nat.blt j (arN k) with | true, true => kdN k | _, _ => 0
theorem tkC_eq (k j : Nat) : tkC k j = takesK k j := by
  unfold tkC takesK
  by_cases h : k < 15
  · have h1 : Nat.blt k 15 = true := Ev.blt_iff.2 h
    by_cases g : j < arN k
    · have g1 : Nat.blt j (arN k) = true := Ev.blt_iff.2 g
      rw [h1, g1, if_pos ⟨h, by omega, by omega⟩]
    · have g1 : Nat.blt j (arN k) = false := by rw [← Bool.not_eq_true, Ev.blt_iff]; exact g
      rw [h1, g1, if_neg (by omega)]
  · have h1 : Nat.blt k 15 = false := by rw [← Bool.not_eq_true, Ev.blt_iff]; exact h
    rw [h1, if_neg (by omega)]
def Φlow : Ev.Facts := table [⟨.lss, .opq 1, .int .i64 0, .bool true⟩] []
def Φhigh : Ev.Facts := table [⟨.lss, .opq 1, .int .i64 0, .bool false⟩, ⟨.geq, .opq 1, .int .i64 0, .bool true⟩, ⟨.geq, .opq 1, .int .i64 1, .bool true⟩, ⟨.geq, .opq 1, .int .i64 2, .bool true⟩] []
def νi (i : Int) : Nat → Value := fun _ => .int .i64 i
theorem low_ok (i : Int) (h : i < 0) : Ev.FactsOk Tryd.prog (νi i) Φlow := by
  refine table_ok (fun f hf => ?_) (fun f hf => by cases hf)
  simp only [List.mem_cons, List.not_mem_nil, or_false] at hf
  subst hf
  exact lss_ok (isInt_opq rfl) isInt_int (by simpa using h)
theorem high_ok (i : Int) (h : 2 ≤ i) : Ev.FactsOk Tryd.prog (νi i) Φhigh := by
  have hx : IsInt (νi i) (.opq 1) .i64 i := isInt_opq rfl
  refine table_ok (fun f hf => ?_) (fun f hf => by cases hf)
  simp only [List.mem_cons, List.not_mem_nil, or_false] at hf
  rcases hf with rfl | rfl | rfl | rfl
  · exact lss_ok hx isInt_int (by simp; omega)
  · exact geq_ok hx isInt_int (by simp; omega)
  · exact geq_ok hx isInt_int (by simp; omega)
  · exact geq_ok hx isInt_int (by simp; omega)

theorem pTakes_runs0 : fam Ev.noFacts 16 (fun k => [.str (nameN k), .int .i64 0]) (fun k => .int .i64 (tkC k 0)) 24 = true := by kernel_rfl
theorem pTakes_runs1 : fam Ev.noFacts 16 (fun k => [.str (nameN k), .int .i64 1]) (fun k => .int .i64 (tkC k 1)) 24 = true := by kernel_rfl
theorem pTakes_runsL : fam Φlow 16 (fun k => [.str (nameN k), .opq 1]) (fun k => .int .i64 0) 24 = true := by kernel_rfl
theorem pTakes_runsH : fam Φhigh 16 (fun k => [.str (nameN k), .opq 1]) (fun k => .int .i64 0) 24 = true := by kernel_rfl
theorem pTakes_at (k : Nat) (hk : k < 24) (i : Int) (w : World) : Calls Tryd.prog 16 #[.string (nameB k), .int .i64 i] w fun e w' => e = .returned (.int .i64 (takesK k i)) ∧ Below w.heap.size w w' := by
  by_cases h0 : i < 0
  · have : takesK k i = 0 := by unfold takesK; rw [if_neg (by omega)]
    rw [this]
    haveI := low_ok i h0
    exact valued (ν := νi i) (fam_at pTakes_runsL k hk) (arg_name _ k (vl_opq _ 1 rfl rfl (vl_nil _))) is_int w
  · by_cases h2 : 2 ≤ i
    · have : takesK k i = 0 := by
        unfold takesK
        have : arN k ≤ 2 := by unfold arN; split <;> omega
        rw [if_neg (by omega)]
      rw [this]
      haveI := high_ok i h2
      exact valued (ν := νi i) (fam_at pTakes_runsH k hk) (arg_name _ k (vl_opq _ 1 rfl rfl (vl_nil _))) is_int w
    · obtain rfl | rfl : i = 0 ∨ i = 1 := by omega
      · rw [show takesK k 0 = tkC k 0 from (tkC_eq k 0).symm]
        exact valued (ν := ν0) (fam_at pTakes_runs0 k hk) (arg_name _ k (vl_int _ 0 (vl_nil _))) is_int w
      · rw [show takesK k 1 = tkC k 1 from (tkC_eq k 1).symm]
        exact valued (ν := ν0) (fam_at pTakes_runs1 k hk) (arg_name _ k (vl_int _ 1 (vl_nil _))) is_int w
theorem rTakes_runs0 : fam Ev.noFacts 17 (fun k => [.str (nameN k), .int .i64 0]) (fun k => .int .i64 (tkC k 0)) 24 = true := by kernel_rfl
theorem rTakes_runs1 : fam Ev.noFacts 17 (fun k => [.str (nameN k), .int .i64 1]) (fun k => .int .i64 (tkC k 1)) 24 = true := by kernel_rfl
theorem rTakes_runsL : fam Φlow 17 (fun k => [.str (nameN k), .opq 1]) (fun k => .int .i64 0) 24 = true := by kernel_rfl
theorem rTakes_runsH : fam Φhigh 17 (fun k => [.str (nameN k), .opq 1]) (fun k => .int .i64 0) 24 = true := by kernel_rfl
theorem rTakes_at (k : Nat) (hk : k < 24) (i : Int) (w : World) : Calls Tryd.prog 17 #[.string (nameB k), .int .i64 i] w fun e w' => e = .returned (.int .i64 (takesK k i)) ∧ Below w.heap.size w w' := by
  by_cases h0 : i < 0
  · have : takesK k i = 0 := by unfold takesK; rw [if_neg (by omega)]
    rw [this]
    haveI := low_ok i h0
    exact valued (ν := νi i) (fam_at rTakes_runsL k hk) (arg_name _ k (vl_opq _ 1 rfl rfl (vl_nil _))) is_int w
  · by_cases h2 : 2 ≤ i
    · have : takesK k i = 0 := by
        unfold takesK
        have : arN k ≤ 2 := by unfold arN; split <;> omega
        rw [if_neg (by omega)]
      rw [this]
      haveI := high_ok i h2
      exact valued (ν := νi i) (fam_at rTakes_runsH k hk) (arg_name _ k (vl_opq _ 1 rfl rfl (vl_nil _))) is_int w
    · obtain rfl | rfl : i = 0 ∨ i = 1 := by omega
      · rw [show takesK k 0 = tkC k 0 from (tkC_eq k 0).symm]
        exact valued (ν := ν0) (fam_at rTakes_runs0 k hk) (arg_name _ k (vl_int _ 0 (vl_nil _))) is_int w
      · rw [show takesK k 1 = tkC k 1 from (tkC_eq k 1).symm]
        exact valued (ν := ν0) (fam_at rTakes_runs1 k hk) (arg_name _ k (vl_int _ 1 (vl_nil _))) is_int w

/-- What a primitive does. -/
def pV (kd n : Int) (t : List Nat) : Value := .agg #[.int .i64 kd, .int .i64 n, .string (Ev.bytes t)]
def divT : List Nat := [100, 105, 118, 105, 100, 101, 32, 98, 121, 32, 122, 101, 114, 111]
def chrT : List Nat := [99, 104, 114, 32, 111, 117, 116, 32, 111, 102, 32, 114, 97, 110, 103, 101]
def truthV (b : Bool) : Value := pV 3 (if b then 1 else 0) []
def doesV (k : Nat) (x y : Int) : Value := match k with
  | 0 => pV 1 (IntKind.i64.wrap (x + y)) []
  | 1 => pV 1 (IntKind.i64.wrap (x - y)) []
  | 2 => pV 1 (IntKind.i64.wrap (x * y)) []
  | 3 => if y = 0 then pV 4 0 divT else pV 1 (IntKind.i64.wrap (x.tdiv y)) []
  | 4 => if y = 0 then pV 4 0 divT else pV 1 (x.tmod y) []
  | 5 => truthV (decide (x = y))
  | 6 => truthV (!decide (x = y))
  | 7 => truthV (decide (x < y))
  | 8 => truthV (decide (x ≤ y))
  | 9 => truthV (decide (y < x))
  | 10 => truthV (decide (y ≤ x))
  | 11 => truthV (decide (x = y))
  | 12 => truthV (decide (x < y))
  | 13 => pV 1 x []
  | _ => if x < 0 ∨ 255 < x then pV 4 0 chrT else pV 2 x []
theorem sub_ok {P : Program} {ν : Nat → Value} {a b : AV} {i : Nat} {k : IntKind} {m n : Int} (ha : IsInt ν a k m) (hb : IsInt ν b k n) (h : ν i = .int k (k.wrap (m - n))) : (⟨.sub, a, b, .opq i⟩ : BinF).Ok P ν :=
  bin_ok ha hb (z := .int k (k.wrap (m - n))) (fun t w => by simp [binOp, Op.intArith]) fun E => V_opq h rfl
abbrev x : AV := .opq 0
abbrev y : AV := .opq 1
abbrev q : AV := .opq 2
def νd (a b c : Int) : Nat → Value
  | 0 => .int .i64 a
  | 1 => .int .i64 b
  | _ => .int .i64 c
theorem isx (a b c : Int) : IsInt (νd a b c) x .i64 a := isInt_opq rfl
theorem isy (a b c : Int) : IsInt (νd a b c) y .i64 b := isInt_opq rfl
theorem vl_xy (a b c : Int) : VL (νd a b c) (fun _ => none) [x, y] [.int .i64 a, .int .i64 b] := vl_opq _ 0 rfl rfl (vl_opq _ 1 rfl rfl (vl_nil _))
theorem is_prim {ν : Nat → Value} {kd n : Int} {t : List Nat} : ∀ E z, V ν E (.agg [.int .i64 kd, .int .i64 n, .str t]) z → z = pV kd n t := fun E z h => by
  simp only [V, VL] at h
  obtain ⟨l, rfl, _, _, e, rfl, _, _, rfl, rfl, _, _, rfl, ⟨rfl, _⟩, rfl⟩ := h
  cases l with | mk l => simp at e; subst e; rfl
theorem is_primq {ν : Nat → Value} {i : Nat} {kd n : Int} {t : List Nat} (hi : ν i = .int .i64 n) : ∀ E z, V ν E (.agg [.int .i64 kd, .opq i, .str t]) z → z = pV kd n t := fun E z h => by
  simp only [V, VL] at h
  obtain ⟨l, rfl, _, _, e, rfl, _, _, rfl, ⟨rfl, _⟩, _, _, rfl, ⟨rfl, _⟩, rfl⟩ := h
  cases l with | mk l => simp at e; subst e; rw [hi]; rfl
theorem one_ok {ν : Nat → Value} {f : BinF} (h : f.Ok Tryd.prog ν) : Ev.FactsOk Tryd.prog ν (table [f] []) :=
  table_ok (fun g hg => by obtain rfl := List.mem_singleton.1 hg; exact h) (fun f hf => by cases hf)

theorem d0_runs : ansV (.agg [.int .i64 1, q, .str []]) (Ev.calls Tryd.prog (table [⟨.add, x, y, q⟩] []) 100000 60 36 [x, y] Mem.start) = true := by kernel_rfl
theorem d0_at (a b : Int) (w : World) : Calls Tryd.prog 36 #[.int .i64 a, .int .i64 b] w fun e w' => e = .returned (doesV 0 a b) ∧ Below w.heap.size w w' := by
  haveI := one_ok (add_ok (isx a b (IntKind.i64.wrap (a + b))) (isy a b (IntKind.i64.wrap (a + b))) (i := 2) rfl)
  exact valued (ν := νd a b (IntKind.i64.wrap (a + b))) d0_runs (vl_xy a b _) (is_primq rfl) w
theorem t0_runs : ansV (.agg [.int .i64 1, q, .str []]) (Ev.calls Tryd.prog (table [⟨.add, x, y, q⟩] []) 100000 60 33 [.str (nameN 0), x, y] Mem.start) = true := by kernel_rfl
theorem t0_at (a b : Int) (w : World) : Calls Tryd.prog 33 #[.string (nameB 0), .int .i64 a, .int .i64 b] w fun e w' => e = .returned (doesV 0 a b) ∧ Below w.heap.size w w' := by
  haveI := one_ok (add_ok (isx a b (IntKind.i64.wrap (a + b))) (isy a b (IntKind.i64.wrap (a + b))) (i := 2) rfl)
  exact valued (ν := νd a b (IntKind.i64.wrap (a + b))) t0_runs (arg_name _ 0 (vl_xy a b _)) (is_primq rfl) w
theorem d1_runs : ansV (.agg [.int .i64 1, q, .str []]) (Ev.calls Tryd.prog (table [⟨.sub, x, y, q⟩] []) 100000 60 38 [x, y] Mem.start) = true := by kernel_rfl
theorem d1_at (a b : Int) (w : World) : Calls Tryd.prog 38 #[.int .i64 a, .int .i64 b] w fun e w' => e = .returned (doesV 1 a b) ∧ Below w.heap.size w w' := by
  haveI := one_ok (sub_ok (isx a b (IntKind.i64.wrap (a - b))) (isy a b (IntKind.i64.wrap (a - b))) (i := 2) rfl)
  exact valued (ν := νd a b (IntKind.i64.wrap (a - b))) d1_runs (vl_xy a b _) (is_primq rfl) w
theorem t1_runs : ansV (.agg [.int .i64 1, q, .str []]) (Ev.calls Tryd.prog (table [⟨.sub, x, y, q⟩] []) 100000 60 33 [.str (nameN 1), x, y] Mem.start) = true := by kernel_rfl
theorem t1_at (a b : Int) (w : World) : Calls Tryd.prog 33 #[.string (nameB 1), .int .i64 a, .int .i64 b] w fun e w' => e = .returned (doesV 1 a b) ∧ Below w.heap.size w w' := by
  haveI := one_ok (sub_ok (isx a b (IntKind.i64.wrap (a - b))) (isy a b (IntKind.i64.wrap (a - b))) (i := 2) rfl)
  exact valued (ν := νd a b (IntKind.i64.wrap (a - b))) t1_runs (arg_name _ 1 (vl_xy a b _)) (is_primq rfl) w
theorem d2_runs : ansV (.agg [.int .i64 1, q, .str []]) (Ev.calls Tryd.prog (table [⟨.mul, x, y, q⟩] []) 100000 60 39 [x, y] Mem.start) = true := by kernel_rfl
theorem d2_at (a b : Int) (w : World) : Calls Tryd.prog 39 #[.int .i64 a, .int .i64 b] w fun e w' => e = .returned (doesV 2 a b) ∧ Below w.heap.size w w' := by
  haveI := one_ok (mul_ok (isx a b (IntKind.i64.wrap (a * b))) (isy a b (IntKind.i64.wrap (a * b))) (i := 2) rfl)
  exact valued (ν := νd a b (IntKind.i64.wrap (a * b))) d2_runs (vl_xy a b _) (is_primq rfl) w
theorem t2_runs : ansV (.agg [.int .i64 1, q, .str []]) (Ev.calls Tryd.prog (table [⟨.mul, x, y, q⟩] []) 100000 60 33 [.str (nameN 2), x, y] Mem.start) = true := by kernel_rfl
theorem t2_at (a b : Int) (w : World) : Calls Tryd.prog 33 #[.string (nameB 2), .int .i64 a, .int .i64 b] w fun e w' => e = .returned (doesV 2 a b) ∧ Below w.heap.size w w' := by
  haveI := one_ok (mul_ok (isx a b (IntKind.i64.wrap (a * b))) (isy a b (IntKind.i64.wrap (a * b))) (i := 2) rfl)
  exact valued (ν := νd a b (IntKind.i64.wrap (a * b))) t2_runs (arg_name _ 2 (vl_xy a b _)) (is_primq rfl) w
theorem d5_runs_true : ansV (.agg [.int .i64 3, .int .i64 1, .str []]) (Ev.calls Tryd.prog (table [⟨.eql, x, y, .bool true⟩] []) 100000 60 43 [x, y] Mem.start) = true := by kernel_rfl
theorem d5_runs_false : ansV (.agg [.int .i64 3, .int .i64 0, .str []]) (Ev.calls Tryd.prog (table [⟨.eql, x, y, .bool false⟩] []) 100000 60 43 [x, y] Mem.start) = true := by kernel_rfl
theorem d5_at (a b : Int) (w : World) : Calls Tryd.prog 43 #[.int .i64 a, .int .i64 b] w fun e w' => e = .returned (doesV 5 a b) ∧ Below w.heap.size w w' := by
  show Calls _ _ _ _ fun e w' => e = .returned (truthV (decide (a = b))) ∧ _
  cases hd : decide (a = b)
  · haveI := one_ok (eql_ok (isx a b 0) (isy a b 0) hd)
    exact valued (ν := νd a b 0) d5_runs_false (vl_xy a b 0) is_prim w
  · haveI := one_ok (eql_ok (isx a b 0) (isy a b 0) hd)
    exact valued (ν := νd a b 0) d5_runs_true (vl_xy a b 0) is_prim w

theorem t5_runs_true : ansV (.agg [.int .i64 3, .int .i64 1, .str []]) (Ev.calls Tryd.prog (table [⟨.eql, x, y, .bool true⟩] []) 100000 60 33 [.str (nameN 5), x, y] Mem.start) = true := by kernel_rfl
theorem t5_runs_false : ansV (.agg [.int .i64 3, .int .i64 0, .str []]) (Ev.calls Tryd.prog (table [⟨.eql, x, y, .bool false⟩] []) 100000 60 33 [.str (nameN 5), x, y] Mem.start) = true := by kernel_rfl
theorem t5_at (a b : Int) (w : World) : Calls Tryd.prog 33 #[.string (nameB 5), .int .i64 a, .int .i64 b] w fun e w' => e = .returned (doesV 5 a b) ∧ Below w.heap.size w w' := by
  show Calls _ _ _ _ fun e w' => e = .returned (truthV (decide (a = b))) ∧ _
  cases hd : decide (a = b)
  · haveI := one_ok (eql_ok (isx a b 0) (isy a b 0) hd)
    exact valued (ν := νd a b 0) t5_runs_false (arg_name _ 5 (vl_xy a b 0)) is_prim w
  · haveI := one_ok (eql_ok (isx a b 0) (isy a b 0) hd)
    exact valued (ν := νd a b 0) t5_runs_true (arg_name _ 5 (vl_xy a b 0)) is_prim w

theorem d6_runs_true : ansV (.agg [.int .i64 3, .int .i64 1, .str []]) (Ev.calls Tryd.prog (table [⟨.neq, x, y, .bool true⟩] []) 100000 60 45 [x, y] Mem.start) = true := by kernel_rfl
theorem d6_runs_false : ansV (.agg [.int .i64 3, .int .i64 0, .str []]) (Ev.calls Tryd.prog (table [⟨.neq, x, y, .bool false⟩] []) 100000 60 45 [x, y] Mem.start) = true := by kernel_rfl
theorem d6_at (a b : Int) (w : World) : Calls Tryd.prog 45 #[.int .i64 a, .int .i64 b] w fun e w' => e = .returned (doesV 6 a b) ∧ Below w.heap.size w w' := by
  show Calls _ _ _ _ fun e w' => e = .returned (truthV (!decide (a = b))) ∧ _
  cases hd : decide (a = b)
  · haveI := one_ok (show (⟨.neq, x, y, .bool true⟩ : BinF).Ok Tryd.prog (νd a b 0) from neq_ok (isx a b 0) (isy a b 0) hd)
    exact valued (ν := νd a b 0) d6_runs_true (vl_xy a b 0) is_prim w
  · haveI := one_ok (show (⟨.neq, x, y, .bool false⟩ : BinF).Ok Tryd.prog (νd a b 0) from neq_ok (isx a b 0) (isy a b 0) hd)
    exact valued (ν := νd a b 0) d6_runs_false (vl_xy a b 0) is_prim w

theorem t6_runs_true : ansV (.agg [.int .i64 3, .int .i64 1, .str []]) (Ev.calls Tryd.prog (table [⟨.neq, x, y, .bool true⟩] []) 100000 60 33 [.str (nameN 6), x, y] Mem.start) = true := by kernel_rfl
theorem t6_runs_false : ansV (.agg [.int .i64 3, .int .i64 0, .str []]) (Ev.calls Tryd.prog (table [⟨.neq, x, y, .bool false⟩] []) 100000 60 33 [.str (nameN 6), x, y] Mem.start) = true := by kernel_rfl
theorem t6_at (a b : Int) (w : World) : Calls Tryd.prog 33 #[.string (nameB 6), .int .i64 a, .int .i64 b] w fun e w' => e = .returned (doesV 6 a b) ∧ Below w.heap.size w w' := by
  show Calls _ _ _ _ fun e w' => e = .returned (truthV (!decide (a = b))) ∧ _
  cases hd : decide (a = b)
  · haveI := one_ok (show (⟨.neq, x, y, .bool true⟩ : BinF).Ok Tryd.prog (νd a b 0) from neq_ok (isx a b 0) (isy a b 0) hd)
    exact valued (ν := νd a b 0) t6_runs_true (arg_name _ 6 (vl_xy a b 0)) is_prim w
  · haveI := one_ok (show (⟨.neq, x, y, .bool false⟩ : BinF).Ok Tryd.prog (νd a b 0) from neq_ok (isx a b 0) (isy a b 0) hd)
    exact valued (ν := νd a b 0) t6_runs_false (arg_name _ 6 (vl_xy a b 0)) is_prim w

theorem d7_runs_true : ansV (.agg [.int .i64 3, .int .i64 1, .str []]) (Ev.calls Tryd.prog (table [⟨.lss, x, y, .bool true⟩] []) 100000 60 46 [x, y] Mem.start) = true := by kernel_rfl
theorem d7_runs_false : ansV (.agg [.int .i64 3, .int .i64 0, .str []]) (Ev.calls Tryd.prog (table [⟨.lss, x, y, .bool false⟩] []) 100000 60 46 [x, y] Mem.start) = true := by kernel_rfl
theorem d7_at (a b : Int) (w : World) : Calls Tryd.prog 46 #[.int .i64 a, .int .i64 b] w fun e w' => e = .returned (doesV 7 a b) ∧ Below w.heap.size w w' := by
  show Calls _ _ _ _ fun e w' => e = .returned (truthV (decide (a < b))) ∧ _
  cases hd : decide (a < b)
  · haveI := one_ok (lss_ok (isx a b 0) (isy a b 0) hd)
    exact valued (ν := νd a b 0) d7_runs_false (vl_xy a b 0) is_prim w
  · haveI := one_ok (lss_ok (isx a b 0) (isy a b 0) hd)
    exact valued (ν := νd a b 0) d7_runs_true (vl_xy a b 0) is_prim w

theorem t7_runs_true : ansV (.agg [.int .i64 3, .int .i64 1, .str []]) (Ev.calls Tryd.prog (table [⟨.lss, x, y, .bool true⟩] []) 100000 60 33 [.str (nameN 7), x, y] Mem.start) = true := by kernel_rfl
theorem t7_runs_false : ansV (.agg [.int .i64 3, .int .i64 0, .str []]) (Ev.calls Tryd.prog (table [⟨.lss, x, y, .bool false⟩] []) 100000 60 33 [.str (nameN 7), x, y] Mem.start) = true := by kernel_rfl
theorem t7_at (a b : Int) (w : World) : Calls Tryd.prog 33 #[.string (nameB 7), .int .i64 a, .int .i64 b] w fun e w' => e = .returned (doesV 7 a b) ∧ Below w.heap.size w w' := by
  show Calls _ _ _ _ fun e w' => e = .returned (truthV (decide (a < b))) ∧ _
  cases hd : decide (a < b)
  · haveI := one_ok (lss_ok (isx a b 0) (isy a b 0) hd)
    exact valued (ν := νd a b 0) t7_runs_false (arg_name _ 7 (vl_xy a b 0)) is_prim w
  · haveI := one_ok (lss_ok (isx a b 0) (isy a b 0) hd)
    exact valued (ν := νd a b 0) t7_runs_true (arg_name _ 7 (vl_xy a b 0)) is_prim w

theorem d8_runs_true : ansV (.agg [.int .i64 3, .int .i64 1, .str []]) (Ev.calls Tryd.prog (table [⟨.leq, x, y, .bool true⟩] []) 100000 60 47 [x, y] Mem.start) = true := by kernel_rfl
theorem d8_runs_false : ansV (.agg [.int .i64 3, .int .i64 0, .str []]) (Ev.calls Tryd.prog (table [⟨.leq, x, y, .bool false⟩] []) 100000 60 47 [x, y] Mem.start) = true := by kernel_rfl
theorem d8_at (a b : Int) (w : World) : Calls Tryd.prog 47 #[.int .i64 a, .int .i64 b] w fun e w' => e = .returned (doesV 8 a b) ∧ Below w.heap.size w w' := by
  show Calls _ _ _ _ fun e w' => e = .returned (truthV (decide (a ≤ b))) ∧ _
  cases hd : decide (a ≤ b)
  · haveI := one_ok (leq_ok (isx a b 0) (isy a b 0) hd)
    exact valued (ν := νd a b 0) d8_runs_false (vl_xy a b 0) is_prim w
  · haveI := one_ok (leq_ok (isx a b 0) (isy a b 0) hd)
    exact valued (ν := νd a b 0) d8_runs_true (vl_xy a b 0) is_prim w

theorem t8_runs_true : ansV (.agg [.int .i64 3, .int .i64 1, .str []]) (Ev.calls Tryd.prog (table [⟨.leq, x, y, .bool true⟩] []) 100000 60 33 [.str (nameN 8), x, y] Mem.start) = true := by kernel_rfl
theorem t8_runs_false : ansV (.agg [.int .i64 3, .int .i64 0, .str []]) (Ev.calls Tryd.prog (table [⟨.leq, x, y, .bool false⟩] []) 100000 60 33 [.str (nameN 8), x, y] Mem.start) = true := by kernel_rfl
theorem t8_at (a b : Int) (w : World) : Calls Tryd.prog 33 #[.string (nameB 8), .int .i64 a, .int .i64 b] w fun e w' => e = .returned (doesV 8 a b) ∧ Below w.heap.size w w' := by
  show Calls _ _ _ _ fun e w' => e = .returned (truthV (decide (a ≤ b))) ∧ _
  cases hd : decide (a ≤ b)
  · haveI := one_ok (leq_ok (isx a b 0) (isy a b 0) hd)
    exact valued (ν := νd a b 0) t8_runs_false (arg_name _ 8 (vl_xy a b 0)) is_prim w
  · haveI := one_ok (leq_ok (isx a b 0) (isy a b 0) hd)
    exact valued (ν := νd a b 0) t8_runs_true (arg_name _ 8 (vl_xy a b 0)) is_prim w

theorem d9_runs_true : ansV (.agg [.int .i64 3, .int .i64 1, .str []]) (Ev.calls Tryd.prog (table [⟨.gtr, x, y, .bool true⟩] []) 100000 60 48 [x, y] Mem.start) = true := by kernel_rfl
theorem d9_runs_false : ansV (.agg [.int .i64 3, .int .i64 0, .str []]) (Ev.calls Tryd.prog (table [⟨.gtr, x, y, .bool false⟩] []) 100000 60 48 [x, y] Mem.start) = true := by kernel_rfl
theorem d9_at (a b : Int) (w : World) : Calls Tryd.prog 48 #[.int .i64 a, .int .i64 b] w fun e w' => e = .returned (doesV 9 a b) ∧ Below w.heap.size w w' := by
  show Calls _ _ _ _ fun e w' => e = .returned (truthV (decide (b < a))) ∧ _
  cases hd : decide (b < a)
  · haveI := one_ok (gtr_ok (isx a b 0) (isy a b 0) hd)
    exact valued (ν := νd a b 0) d9_runs_false (vl_xy a b 0) is_prim w
  · haveI := one_ok (gtr_ok (isx a b 0) (isy a b 0) hd)
    exact valued (ν := νd a b 0) d9_runs_true (vl_xy a b 0) is_prim w

theorem t9_runs_true : ansV (.agg [.int .i64 3, .int .i64 1, .str []]) (Ev.calls Tryd.prog (table [⟨.gtr, x, y, .bool true⟩] []) 100000 60 33 [.str (nameN 9), x, y] Mem.start) = true := by kernel_rfl
theorem t9_runs_false : ansV (.agg [.int .i64 3, .int .i64 0, .str []]) (Ev.calls Tryd.prog (table [⟨.gtr, x, y, .bool false⟩] []) 100000 60 33 [.str (nameN 9), x, y] Mem.start) = true := by kernel_rfl
theorem t9_at (a b : Int) (w : World) : Calls Tryd.prog 33 #[.string (nameB 9), .int .i64 a, .int .i64 b] w fun e w' => e = .returned (doesV 9 a b) ∧ Below w.heap.size w w' := by
  show Calls _ _ _ _ fun e w' => e = .returned (truthV (decide (b < a))) ∧ _
  cases hd : decide (b < a)
  · haveI := one_ok (gtr_ok (isx a b 0) (isy a b 0) hd)
    exact valued (ν := νd a b 0) t9_runs_false (arg_name _ 9 (vl_xy a b 0)) is_prim w
  · haveI := one_ok (gtr_ok (isx a b 0) (isy a b 0) hd)
    exact valued (ν := νd a b 0) t9_runs_true (arg_name _ 9 (vl_xy a b 0)) is_prim w

theorem d10_runs_true : ansV (.agg [.int .i64 3, .int .i64 1, .str []]) (Ev.calls Tryd.prog (table [⟨.geq, x, y, .bool true⟩] []) 100000 60 49 [x, y] Mem.start) = true := by kernel_rfl
theorem d10_runs_false : ansV (.agg [.int .i64 3, .int .i64 0, .str []]) (Ev.calls Tryd.prog (table [⟨.geq, x, y, .bool false⟩] []) 100000 60 49 [x, y] Mem.start) = true := by kernel_rfl
theorem d10_at (a b : Int) (w : World) : Calls Tryd.prog 49 #[.int .i64 a, .int .i64 b] w fun e w' => e = .returned (doesV 10 a b) ∧ Below w.heap.size w w' := by
  show Calls _ _ _ _ fun e w' => e = .returned (truthV (decide (b ≤ a))) ∧ _
  cases hd : decide (b ≤ a)
  · haveI := one_ok (geq_ok (isx a b 0) (isy a b 0) hd)
    exact valued (ν := νd a b 0) d10_runs_false (vl_xy a b 0) is_prim w
  · haveI := one_ok (geq_ok (isx a b 0) (isy a b 0) hd)
    exact valued (ν := νd a b 0) d10_runs_true (vl_xy a b 0) is_prim w

theorem t10_runs_true : ansV (.agg [.int .i64 3, .int .i64 1, .str []]) (Ev.calls Tryd.prog (table [⟨.geq, x, y, .bool true⟩] []) 100000 60 33 [.str (nameN 10), x, y] Mem.start) = true := by kernel_rfl
theorem t10_runs_false : ansV (.agg [.int .i64 3, .int .i64 0, .str []]) (Ev.calls Tryd.prog (table [⟨.geq, x, y, .bool false⟩] []) 100000 60 33 [.str (nameN 10), x, y] Mem.start) = true := by kernel_rfl
theorem t10_at (a b : Int) (w : World) : Calls Tryd.prog 33 #[.string (nameB 10), .int .i64 a, .int .i64 b] w fun e w' => e = .returned (doesV 10 a b) ∧ Below w.heap.size w w' := by
  show Calls _ _ _ _ fun e w' => e = .returned (truthV (decide (b ≤ a))) ∧ _
  cases hd : decide (b ≤ a)
  · haveI := one_ok (geq_ok (isx a b 0) (isy a b 0) hd)
    exact valued (ν := νd a b 0) t10_runs_false (arg_name _ 10 (vl_xy a b 0)) is_prim w
  · haveI := one_ok (geq_ok (isx a b 0) (isy a b 0) hd)
    exact valued (ν := νd a b 0) t10_runs_true (arg_name _ 10 (vl_xy a b 0)) is_prim w

theorem d11_runs_true : ansV (.agg [.int .i64 3, .int .i64 1, .str []]) (Ev.calls Tryd.prog (table [⟨.eql, x, y, .bool true⟩] []) 100000 60 50 [x, y] Mem.start) = true := by kernel_rfl
theorem d11_runs_false : ansV (.agg [.int .i64 3, .int .i64 0, .str []]) (Ev.calls Tryd.prog (table [⟨.eql, x, y, .bool false⟩] []) 100000 60 50 [x, y] Mem.start) = true := by kernel_rfl
theorem d11_at (a b : Int) (w : World) : Calls Tryd.prog 50 #[.int .i64 a, .int .i64 b] w fun e w' => e = .returned (doesV 11 a b) ∧ Below w.heap.size w w' := by
  show Calls _ _ _ _ fun e w' => e = .returned (truthV (decide (a = b))) ∧ _
  cases hd : decide (a = b)
  · haveI := one_ok (eql_ok (isx a b 0) (isy a b 0) hd)
    exact valued (ν := νd a b 0) d11_runs_false (vl_xy a b 0) is_prim w
  · haveI := one_ok (eql_ok (isx a b 0) (isy a b 0) hd)
    exact valued (ν := νd a b 0) d11_runs_true (vl_xy a b 0) is_prim w

theorem t11_runs_true : ansV (.agg [.int .i64 3, .int .i64 1, .str []]) (Ev.calls Tryd.prog (table [⟨.eql, x, y, .bool true⟩] []) 100000 60 33 [.str (nameN 11), x, y] Mem.start) = true := by kernel_rfl
theorem t11_runs_false : ansV (.agg [.int .i64 3, .int .i64 0, .str []]) (Ev.calls Tryd.prog (table [⟨.eql, x, y, .bool false⟩] []) 100000 60 33 [.str (nameN 11), x, y] Mem.start) = true := by kernel_rfl
theorem t11_at (a b : Int) (w : World) : Calls Tryd.prog 33 #[.string (nameB 11), .int .i64 a, .int .i64 b] w fun e w' => e = .returned (doesV 11 a b) ∧ Below w.heap.size w w' := by
  show Calls _ _ _ _ fun e w' => e = .returned (truthV (decide (a = b))) ∧ _
  cases hd : decide (a = b)
  · haveI := one_ok (eql_ok (isx a b 0) (isy a b 0) hd)
    exact valued (ν := νd a b 0) t11_runs_false (arg_name _ 11 (vl_xy a b 0)) is_prim w
  · haveI := one_ok (eql_ok (isx a b 0) (isy a b 0) hd)
    exact valued (ν := νd a b 0) t11_runs_true (arg_name _ 11 (vl_xy a b 0)) is_prim w

theorem d12_runs_true : ansV (.agg [.int .i64 3, .int .i64 1, .str []]) (Ev.calls Tryd.prog (table [⟨.lss, x, y, .bool true⟩] []) 100000 60 51 [x, y] Mem.start) = true := by kernel_rfl
theorem d12_runs_false : ansV (.agg [.int .i64 3, .int .i64 0, .str []]) (Ev.calls Tryd.prog (table [⟨.lss, x, y, .bool false⟩] []) 100000 60 51 [x, y] Mem.start) = true := by kernel_rfl
theorem d12_at (a b : Int) (w : World) : Calls Tryd.prog 51 #[.int .i64 a, .int .i64 b] w fun e w' => e = .returned (doesV 12 a b) ∧ Below w.heap.size w w' := by
  show Calls _ _ _ _ fun e w' => e = .returned (truthV (decide (a < b))) ∧ _
  cases hd : decide (a < b)
  · haveI := one_ok (lss_ok (isx a b 0) (isy a b 0) hd)
    exact valued (ν := νd a b 0) d12_runs_false (vl_xy a b 0) is_prim w
  · haveI := one_ok (lss_ok (isx a b 0) (isy a b 0) hd)
    exact valued (ν := νd a b 0) d12_runs_true (vl_xy a b 0) is_prim w

theorem t12_runs_true : ansV (.agg [.int .i64 3, .int .i64 1, .str []]) (Ev.calls Tryd.prog (table [⟨.lss, x, y, .bool true⟩] []) 100000 60 33 [.str (nameN 12), x, y] Mem.start) = true := by kernel_rfl
theorem t12_runs_false : ansV (.agg [.int .i64 3, .int .i64 0, .str []]) (Ev.calls Tryd.prog (table [⟨.lss, x, y, .bool false⟩] []) 100000 60 33 [.str (nameN 12), x, y] Mem.start) = true := by kernel_rfl
theorem t12_at (a b : Int) (w : World) : Calls Tryd.prog 33 #[.string (nameB 12), .int .i64 a, .int .i64 b] w fun e w' => e = .returned (doesV 12 a b) ∧ Below w.heap.size w w' := by
  show Calls _ _ _ _ fun e w' => e = .returned (truthV (decide (a < b))) ∧ _
  cases hd : decide (a < b)
  · haveI := one_ok (lss_ok (isx a b 0) (isy a b 0) hd)
    exact valued (ν := νd a b 0) t12_runs_false (arg_name _ 12 (vl_xy a b 0)) is_prim w
  · haveI := one_ok (lss_ok (isx a b 0) (isy a b 0) hd)
    exact valued (ν := νd a b 0) t12_runs_true (arg_name _ 12 (vl_xy a b 0)) is_prim w

theorem d13_runs : ansV (.agg [.int .i64 1, x, .str []]) (Ev.calls Tryd.prog Ev.noFacts 100000 60 52 [x, y] Mem.start) = true := by kernel_rfl
theorem d13_at (a b : Int) (w : World) : Calls Tryd.prog 52 #[.int .i64 a, .int .i64 b] w fun e w' => e = .returned (doesV 13 a b) ∧ Below w.heap.size w w' :=
  valued (ν := νd a b 0) d13_runs (vl_xy a b 0) (is_primq rfl) w
def ΦchrL : Ev.Facts := table [⟨.lss, x, .int .i64 0, .bool true⟩] []
def ΦchrH : Ev.Facts := table [⟨.lss, x, .int .i64 0, .bool false⟩, ⟨.gtr, x, .int .i64 255, .bool true⟩] []
def ΦchrM : Ev.Facts := table [⟨.lss, x, .int .i64 0, .bool false⟩, ⟨.gtr, x, .int .i64 255, .bool false⟩] []
theorem d14_runsL : ansV (.agg [.int .i64 4, .int .i64 0, .str chrT]) (Ev.calls Tryd.prog ΦchrL 100000 60 53 [x, y] Mem.start) = true := by kernel_rfl
theorem d14_runsH : ansV (.agg [.int .i64 4, .int .i64 0, .str chrT]) (Ev.calls Tryd.prog ΦchrH 100000 60 53 [x, y] Mem.start) = true := by kernel_rfl
theorem d14_runsM : ansV (.agg [.int .i64 2, x, .str []]) (Ev.calls Tryd.prog ΦchrM 100000 60 53 [x, y] Mem.start) = true := by kernel_rfl
theorem d14_at (a b : Int) (w : World) : Calls Tryd.prog 53 #[.int .i64 a, .int .i64 b] w fun e w' => e = .returned (doesV 14 a b) ∧ Below w.heap.size w w' := by
  show Calls _ _ _ _ fun e w' => e = .returned (if a < 0 ∨ 255 < a then pV 4 0 chrT else pV 2 a []) ∧ _
  by_cases h0 : a < 0
  · rw [if_pos (.inl h0)]
    haveI : Ev.FactsOk Tryd.prog (νd a b 0) ΦchrL := one_ok (lss_ok (isx a b 0) isInt_int (by simpa using h0))
    exact valued (ν := νd a b 0) d14_runsL (vl_xy a b 0) is_prim w
  · by_cases h1 : 255 < a
    · rw [if_pos (.inr h1)]
      haveI : Ev.FactsOk Tryd.prog (νd a b 0) ΦchrH := table_ok (fun g hg => by
        simp only [List.mem_cons, List.not_mem_nil, or_false] at hg
        rcases hg with rfl | rfl
        · exact lss_ok (isx a b 0) isInt_int (by simpa using h0)
        · exact gtr_ok (isx a b 0) isInt_int (by simpa using h1)) (fun f hf => by cases hf)
      exact valued (ν := νd a b 0) d14_runsH (vl_xy a b 0) is_prim w
    · rw [if_neg (by omega)]
      haveI : Ev.FactsOk Tryd.prog (νd a b 0) ΦchrM := table_ok (fun g hg => by
        simp only [List.mem_cons, List.not_mem_nil, or_false] at hg
        rcases hg with rfl | rfl
        · exact lss_ok (isx a b 0) isInt_int (by simpa using h0)
        · exact gtr_ok (isx a b 0) isInt_int (by simpa using h1)) (fun f hf => by cases hf)
      exact valued (ν := νd a b 0) d14_runsM (vl_xy a b 0) (is_primq rfl) w

theorem t3_runs0 : ansV (.agg [.int .i64 4, .int .i64 0, .str divT]) (Ev.calls Tryd.prog Ev.noFacts 100000 60 33 [.str (nameN 3), x, .int .i64 0] Mem.start) = true := by kernel_rfl
theorem t4_runs0 : ansV (.agg [.int .i64 4, .int .i64 0, .str divT]) (Ev.calls Tryd.prog Ev.noFacts 100000 60 33 [.str (nameN 4), x, .int .i64 0] Mem.start) = true := by kernel_rfl
theorem t3_runs1 : ansV (.agg [.int .i64 1, q, .str []]) (Ev.calls Tryd.prog (table [] [⟨.neg, x, q⟩]) 100000 60 33 [.str (nameN 3), x, .int .i64 (-1)] Mem.start) = true := by kernel_rfl
theorem t4_runs1 : ansV (.agg [.int .i64 1, .int .i64 0, .str []]) (Ev.calls Tryd.prog Ev.noFacts 100000 60 33 [.str (nameN 4), x, .int .i64 (-1)] Mem.start) = true := by kernel_rfl
def Φq : Ev.Facts := table [⟨.eql, y, .int .i64 0, .bool false⟩, ⟨.eql, y, .int .i64 (-1), .bool false⟩, ⟨.quo, x, y, q⟩] []
def Φr : Ev.Facts := table [⟨.eql, y, .int .i64 0, .bool false⟩, ⟨.eql, y, .int .i64 (-1), .bool false⟩, ⟨.rem, x, y, q⟩] []
theorem t3_runs2 : ansV (.agg [.int .i64 1, q, .str []]) (Ev.calls Tryd.prog Φq 100000 60 33 [.str (nameN 3), x, y] Mem.start) = true := by kernel_rfl
theorem t4_runs2 : ansV (.agg [.int .i64 1, q, .str []]) (Ev.calls Tryd.prog Φr 100000 60 33 [.str (nameN 4), x, y] Mem.start) = true := by kernel_rfl
theorem q_ok (a b : Int) (h0 : b ≠ 0) (h1 : b ≠ -1) : Ev.FactsOk Tryd.prog (νd a b (IntKind.i64.wrap (a.tdiv b))) Φq := table_ok (fun g hg => by
  simp only [List.mem_cons, List.not_mem_nil, or_false] at hg
  rcases hg with rfl | rfl | rfl
  · exact eql_ok (isy a b _) isInt_int (by simpa using h0)
  · exact eql_ok (isy a b _) isInt_int (by simpa using h1)
  · exact quo_ok (isx a b _) (isy a b _) h0 rfl) (fun f hf => by cases hf)
theorem r_ok (a b : Int) (h0 : b ≠ 0) (h1 : b ≠ -1) : Ev.FactsOk Tryd.prog (νd a b (a.tmod b)) Φr := table_ok (fun g hg => by
  simp only [List.mem_cons, List.not_mem_nil, or_false] at hg
  rcases hg with rfl | rfl | rfl
  · exact eql_ok (isy a b _) isInt_int (by simpa using h0)
  · exact eql_ok (isy a b _) isInt_int (by simpa using h1)
  · exact rem_ok (isx a b _) (isy a b _) h0 rfl) (fun f hf => by cases hf)
theorem vl_xi (a b c n : Int) : VL (νd a b c) (fun _ => none) [x, .int .i64 n] [.int .i64 a, .int .i64 n] := vl_opq _ 0 rfl rfl (vl_int _ n (vl_nil _))
theorem t3_at (a b : Int) (w : World) : Calls Tryd.prog 33 #[.string (nameB 3), .int .i64 a, .int .i64 b] w fun e w' => e = .returned (doesV 3 a b) ∧ Below w.heap.size w w' := by
  show Calls _ _ _ _ fun e w' => e = .returned (if b = 0 then pV 4 0 divT else pV 1 (IntKind.i64.wrap (a.tdiv b)) []) ∧ _
  by_cases h0 : b = 0
  · subst h0
    rw [if_pos rfl]
    exact valued (ν := νd a 0 0) t3_runs0 (arg_name _ 3 (vl_xi a 0 0 0)) is_prim w
  · rw [if_neg h0]
    by_cases h1 : b = -1
    · subst h1
      rw [show a.tdiv (-1) = 0 - a by rw [Int.tdiv_neg, Int.tdiv_one]; omega]
      haveI : Ev.FactsOk Tryd.prog (νd a (-1) (IntKind.i64.wrap (0 - a))) (table [] [⟨.neg, x, q⟩]) := table_ok (fun f hf => by cases hf) (fun g hg => by
        obtain rfl := List.mem_singleton.1 hg
        exact neg_ok (isx a (-1) _) rfl)
      exact valued (ν := νd a (-1) (IntKind.i64.wrap (0 - a))) t3_runs1 (arg_name _ 3 (vl_xi a (-1) _ (-1))) (is_primq rfl) w
    · haveI := q_ok a b h0 h1
      exact valued (ν := νd a b (IntKind.i64.wrap (a.tdiv b))) t3_runs2 (arg_name _ 3 (vl_xy a b _)) (is_primq rfl) w
theorem t4_at (a b : Int) (w : World) : Calls Tryd.prog 33 #[.string (nameB 4), .int .i64 a, .int .i64 b] w fun e w' => e = .returned (doesV 4 a b) ∧ Below w.heap.size w w' := by
  show Calls _ _ _ _ fun e w' => e = .returned (if b = 0 then pV 4 0 divT else pV 1 (a.tmod b) []) ∧ _
  by_cases h0 : b = 0
  · subst h0
    rw [if_pos rfl]
    exact valued (ν := νd a 0 0) t4_runs0 (arg_name _ 4 (vl_xi a 0 0 0)) is_prim w
  · rw [if_neg h0]
    by_cases h1 : b = -1
    · subst h1
      rw [show a.tmod (-1) = 0 by rw [Int.tmod_neg, Int.tmod_one]]
      exact valued (ν := νd a (-1) 0) t4_runs1 (arg_name _ 4 (vl_xi a (-1) 0 (-1))) is_prim w
    · haveI := r_ok a b h0 h1
      exact valued (ν := νd a b (a.tmod b)) t4_runs2 (arg_name _ 4 (vl_xy a b _)) (is_primq rfl) w
theorem two_at (k : Nat) (hk : k < 13) (a b : Int) (w : World) : Calls Tryd.prog 33 #[.string (nameB k), .int .i64 a, .int .i64 b] w fun e w' => e = .returned (doesV k a b) ∧ Below w.heap.size w w' := by
  match k, hk with

  | 0, _ => exact t0_at a b w
  | 1, _ => exact t1_at a b w
  | 2, _ => exact t2_at a b w
  | 3, _ => exact t3_at a b w
  | 4, _ => exact t4_at a b w
  | 5, _ => exact t5_at a b w
  | 6, _ => exact t6_at a b w
  | 7, _ => exact t7_at a b w
  | 8, _ => exact t8_at a b w
  | 9, _ => exact t9_at a b w
  | 10, _ => exact t10_at a b w
  | 11, _ => exact t11_at a b w
  | 12, _ => exact t12_at a b w
end Go.Proofs.YtmgfgkikeflenaaDoor
