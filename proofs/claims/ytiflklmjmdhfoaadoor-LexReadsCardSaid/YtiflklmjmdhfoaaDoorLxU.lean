/- Tokens in memory, read; the law's first examples; the walk of LexPlaces. -/
import Derived.Test.YtiflklmjmdhfoaaDoorLxT
namespace Go.Proofs.YtiflklmjmdhfoaaDoor
open Go.RowKit Go.Shelf
set_option linter.unusedSimpArgs false

set_option maxRecDepth 1000000 in
theorem livesRuns : Ev.isTrue (Ev.callsT Tryd.prog Ev.noFacts (Ev.indexByteT 47) 100000 60 9 [] Ev.Mem.start) = true := by kernel_rfl
theorem lives_true (w : World) : Calls Tryd.prog 9 #[] w fun e w' => e = .returned (.bool true) ∧ Below w.heap.size w w' :=
  Ev.closedT (ν := fun _ => undef) (Ev.indexByteT_ok Tryd.strings_IndexByte) (by kernel_rfl) livesRuns #[] (by simp only [Ev.VL]) w

/-- A token lies at a place. -/
structure TokAt (W : World) (b o : Nat) (x : Tp) : Prop where
  kind : W.cell? ⟨b, o, none⟩ = some (.int .i64 x.t.kind)
  text : W.cell? ⟨b, o + 1, none⟩ = some (.string ⟨x.t.text.toArray⟩)
  num : W.cell? ⟨b, o + 2, none⟩ = some (.int .i64 x.t.num)
  at_ : W.cell? ⟨b, o + 3, none⟩ = some (.int .i64 x.at_)
  line : W.cell? ⟨b, o + 4, none⟩ = some (.int .i64 x.line)
  col : W.cell? ⟨b, o + 5, none⟩ = some (.int .i64 x.col)
  first : W.cell? ⟨b, o + 6, none⟩ = some (.bool x.first)
theorem tflat_get : ∀ (ts : List Tp) (k : Nat) (h : k < ts.length) (j : Nat), j < 7 → (tflat ts)[k * 7 + j]? = (tpC ts[k])[j]?
  | x :: ts, 0, _, j, hj => by
    simp only [tflat, List.flatMap_cons, Nat.zero_mul, Nat.zero_add, List.getElem_cons_zero]
    exact List.getElem?_append_left (by simpa [tpC] using hj)
  | x :: ts, k + 1, h, j, hj => by
    have e : tflat (x :: ts) = tpC x ++ tflat ts := by simp [tflat]
    rw [e, List.getElem?_append_right (by simp [tpC]; omega)]
    have : (k + 1) * 7 + j - (tpC x).length = k * 7 + j := by simp [tpC]; omega
    rw [this, tflat_get ts k (by simpa using h) j hj]
    rfl
/-- A slice that reads as these tokens. -/
def TRd (W : World) (v : Value) (ts : List Tp) : Prop :=
  ∃ (a : Option Addr) (cap : Nat), v = .slice a ts.length cap ∧ (0 < ts.length → ∃ b, a = some ⟨b, 0, none⟩ ∧ b < W.heap.size ∧ ∀ k (h : k < ts.length), TokAt W b (k * 7) ts[k])
theorem TOwn.rd {W : World} {base : Nat} {v : Value} {ts : List Tp} (h : TOwn W base v ts) : TRd W v ts := by
  have h0 := h
  rcases h.2 with ⟨rfl, h1⟩ | ⟨g, cap, cur, rfl, hg, hb, _⟩
  · exact ⟨none, 0, by rw [h1], fun h => by omega⟩
  · refine ⟨_, cap, rfl, fun _ => ⟨g, rfl, (Array.getElem?_eq_some_iff.1 hb).1, fun k hk => ?_⟩⟩
    have key : ∀ j, j < 7 → ∀ u, (tpC ts[k])[j]? = some u → W.cell? ⟨g, k * 7 + j, none⟩ = some u := by
      intro j hj u hu
      have := h0.cells (g := g) rfl (k * 7 + j) u (by rw [tflat_get ts k hk j hj]; exact hu)
      cases hm : k * 7 + j with
      | zero => rw [hm] at this; simpa [Addr.add] using this
      | succ m => rw [hm] at this; simpa [Addr.add] using this
    exact ⟨key 0 (by omega) _ rfl, key 1 (by omega) _ rfl, key 2 (by omega) _ rfl, key 3 (by omega) _ rfl, key 4 (by omega) _ rfl, key 5 (by omega) _ rfl, key 6 (by omega) _ rfl⟩
theorem TRd.below {W W' : World} {v : Value} {ts : List Tp} (h : TRd W v ts) (hb : Below W.heap.size W W') : TRd W' v ts := by
  obtain ⟨a, cap, hv, hc⟩ := h
  refine ⟨a, cap, hv, fun hl => ?_⟩
  obtain ⟨b, h1, h2, h3⟩ := hc hl
  have key : ∀ o, W'.cell? ⟨b, o, none⟩ = W.cell? ⟨b, o, none⟩ := fun o => hb.cell (p := ⟨b, o, none⟩) h2
  exact ⟨b, h1, Nat.lt_of_lt_of_le h2 hb.size, fun k hk => ⟨(key _).trans (h3 k hk).kind, (key _).trans (h3 k hk).text, (key _).trans (h3 k hk).num, (key _).trans (h3 k hk).at_, (key _).trans (h3 k hk).line, (key _).trans (h3 k hk).col, (key _).trans (h3 k hk).first⟩⟩

theorem allF_sort (l : List UInt8) : ((allF l).1 = (0, 0) ∧ allK l = .ok (allF l).2 ∧ checkF l = (0, 0)) ∨ ((allF l).1.1 ≠ 0 ∧ (allF l).2 = []) := by
  unfold allF
  split
  · rename_i hc
    cases hk : allK l with
    | ok ts => exact .inl ⟨rfl, rfl, hc⟩
    | error i => exact .inr ⟨by simp, rfl⟩
  · rename_i h
    exact .inr ⟨checkF_sort l h, rfl⟩

theorem all_known (s : ByteArray) (hs : s.size ≤ 9223372036854775807) (x : Int × Int) (ts : List Tp) (h1 : (allF s.data.toList).1 = x) (h2 : (allF s.data.toList).2 = ts) (w : World) :
    Calls Tryd.prog 10 #[.string s] w fun e w' => ∃ v, e = .returned (.tuple #[v, .agg #[.int .i64 x.1, .int .i64 x.2]]) ∧ TRd w' v ts ∧ Below w.heap.size w w' := by
  refine (All_any s hs w).mono ?_
  rintro e w' ⟨v, rfl, h, hb⟩
  rw [h1] at *
  rw [h2] at h
  exact ⟨v, rfl, h.rd, hb⟩

theorem placed_len {l : List UInt8} {ss : List (Option Tk × Nat)} (h : Lexes l ss) : ∀ (i : Nat) (p : Nat × Nat) (last : Nat), (placed l ss i p last).length ≤ l.length := by
  induction h with
  | nil => intros; simp [placed]
  | skip hs _ ih => intro i p last; have := (step_skip hs).1; exact Nat.le_trans (ih _ _ _) (by rw [List.length_drop]; omega)
  | @tok l t n ss hs _ ih => intro i p last; have := (step_tok hs).1; have := ih (i + n) (overL p (l.take n)) p.1; rw [List.length_drop] at this; simp only [placed, List.length_cons]; omega
set_option maxRecDepth 100000 in
set_option maxHeartbeats 8000000 in
theorem places_walk (s : ByteArray) (hs : s.size ≤ 9223372036854775807) (w : World) :
    Calls Tryd.prog 6 #[.string s] w fun e w' => e = .returned (.bool true) ∧ Below w.heap.size w w' := by
  have hsl : s.data.toList.length = s.size := rfl
  by_cases hbig : 4000 < s.size
  · have d0 : decide ((4000 : Int) < (s.size : Int)) = true := by simp; omega
    go_enter Tryd.func6, Tryd.ntmps6
    go_wp2_with (go_at_call 9; refine (lives_true _).mono ?_; rintro e w0 ⟨rfl, b0⟩)
    go_ret
    exact ⟨rfl, b0⟩
  · have d0 : decide ((4000 : Int) < (s.size : Int)) = false := by simp; omega
    rcases allF_sort s.data.toList with ⟨h1, h2, _⟩ | ⟨h1, h2⟩
    · obtain ⟨ts, hts⟩ : ∃ ts, (allF s.data.toList).2 = ts := ⟨_, rfl⟩
      rw [hts] at h2
      obtain ⟨ss, hlex, hpl⟩ := allK_ok _ _ h2
      have hplace := placed_places _ _ hlex 0 (1, 1) 0 s.size none (by rw [hsl]; omega) ⟨by decide, by decide⟩ rfl
      rw [← hpl] at hplace
      have Hp := Lib.hid (fun k h => placeAt_of hplace k h)
      have K := Lib.hid (fun w => all_known s hs (0, 0) ts h1 hts w)
      have HNl : Hid (ts.length ≤ 4000) := Lib.hid (by rw [hpl]; exact Nat.le_trans (placed_len hlex _ _ _) (by omega))
      clear h1 h2 hts hlex hpl hplace
      go_enter Tryd.func6, Tryd.ntmps6
      go_wp2_with (first | (go_at_call 9; refine (lives_true _).mono ?_; rintro e w0 ⟨rfl, b0⟩) | (go_at_call 10; refine (K.out _).mono ?_; rintro e w1 ⟨v, rfl, ⟨a, cap, rfl, hrd⟩, b1⟩))
      have B1 := (chain b0 b1).alloc (chain b0 b1).size (.cells #[.int .i64 0, .int .i64 0] 26)
      have R1 : TRd (w1.alloc (.cells #[.int .i64 0, .int .i64 0] 26)) (.slice a ts.length cap) ts := TRd.below ⟨a, cap, rfl, hrd⟩ ((Below.refl _ _).alloc (Nat.le_refl _) _)
      generalize w1.alloc (.cells #[.int .i64 0, .int .i64 0] 26) = W at B1 R1 ⊢
      obtain ⟨a', cap', e, hr⟩ := R1
      cases e
      obtain ⟨N, hN⟩ : ∃ N, ts.length = N := ⟨_, rfl⟩
      have HN := Lib.hid hN
      rw [hN]
      rw [hN] at HNl
      have Hr := Lib.hid hr
      clear hr hrd b0 b1 hN K
      go_loopw [5] (fun i wr => ∃ k : Nat, i = .int .i64 k ∧ k ≤ N ∧ Below W.heap.size W wr) (fun i _ => N - (intOf i).toNat)
      case atStart => exact ⟨0, rfl, Nat.zero_le _, Below.refl _ _⟩
      case round =>
        obtain ⟨k, rfl, hk, hB⟩ := hrel
        by_cases hlt : k < N
        · have hlt2 : decide ((k : Int) < (N : Int)) = true := by simp; omega
          have hlt3 : decide (k < N) = true := by simp; omega
          have hkt : k < ts.length := by rw [HN.out]; exact hlt
          obtain ⟨b, rfl, hbl, hat⟩ := Hr.out (by omega)
          have key : ∀ o, wr.cell? ⟨b, o, none⟩ = W.cell? ⟨b, o, none⟩ := fun o => hB.cell (p := ⟨b, o, none⟩) hbl
          obtain ⟨_, _, _, c3, c4, c5, c6⟩ := hat k hkt
          rw [← key] at c3 c4 c5 c6
          obtain ⟨p1, p2, p3, p4, p5⟩ := Hp.out k hkt
          have hNl := HNl.out
          by_cases hk0 : k = 0
          · subst hk0
            simp only [beq_self_eq_true, Bool.true_or] at p1
            generalize ts[0] = x at c3 c4 c5 c6 p1 p3 p4 p5
            obtain ⟨t, pa, pl, pc, pf⟩ := x
            simp only at c3 c4 c5 c6 p1 p3 p4 p5
            subst p1
            have e0 : decide ((pa : Int) < 0) = false := decide_eq_false (by omega)
            have e1 : decide ((s.size : Int) ≤ (pa : Int)) = false := decide_eq_false (by omega)
            have e1b : decide (s.size ≤ pa) = false := decide_eq_false (by omega)
            have e2 : decide ((pl : Int) < 1) = false := decide_eq_false (by omega)
            have e3 : decide ((pc : Int) < 1) = false := decide_eq_false (by omega)
            clear hat key p2
            go_wp2
            go_quiet (fail)
            go_wp2
            go_quiet (fail)
            go_wp2
            go_roundw
            case rel => exact ⟨1, rfl, by omega, below_drewN hB _⟩
            case measure => simp [intOf]; omega
          · obtain ⟨m, hm⟩ : ∃ m, m + 1 = k := ⟨k - 1, by omega⟩
            have hmt : m < ts.length := by omega
            obtain ⟨_, _, _, d3, d4, _, _⟩ := hat m hmt
            rw [← key] at d3 d4
            have e5 : (k == 0) = false := by rw [beq_eq_false_iff_ne]; omega
            have e6 : ts[k - 1]? = some ts[m] := by rw [List.getElem?_eq_getElem (show k - 1 < ts.length by omega)]; simp only [← hm, Nat.add_sub_cancel]
            rw [e5, e6] at p1
            simp only [Bool.false_or] at p1
            have p2 := p2 (by omega)
            have e7 : (ts[k - 1]) = ts[m] := by simp only [← hm, Nat.add_sub_cancel]
            rw [e7] at p2
            generalize ts[m] = y at d3 d4 p1 p2
            generalize ts[k] = x at c3 c4 c5 c6 p1 p2 p3 p4 p5
            obtain ⟨t, pa, pl, pc, pf⟩ := x
            obtain ⟨ty, ya, yl, yc, yf⟩ := y
            simp only at c3 c4 c5 c6 d3 d4 p1 p2 p3 p4 p5
            have hne : ((yl : Int) != (pl : Int)) = pf := by
              rw [p1, Bool.eq_iff_iff, bne_iff_ne, bne_iff_ne]; omega
            have e0 : decide ((pa : Int) < 0) = false := decide_eq_false (by omega)
            have e1 : decide ((s.size : Int) ≤ (pa : Int)) = false := decide_eq_false (by omega)
            have e1b : decide (s.size ≤ pa) = false := decide_eq_false (by omega)
            have e2 : decide ((pl : Int) < 1) = false := decide_eq_false (by omega)
            have e3 : decide ((pc : Int) < 1) = false := decide_eq_false (by omega)
            have e4 : decide ((pa : Int) ≤ (ya : Int)) = false := decide_eq_false (by omega)
            have e4b : decide (pa ≤ ya) = false := decide_eq_false (by omega)
            have g0 : ((k : Int) == 0) = false := by rw [beq_eq_false_iff_ne]; omega
            have g1 : decide ((0 : Int) < (k : Int)) = true := decide_eq_true (by omega)
            have g1b : decide (0 < k) = true := decide_eq_true (by omega)
            have g2 : (k : Int) - 1 = (m : Int) := by omega
            have g3 : IntKind.i64.wrap (m : Int) = (m : Int) := IntWalk.i64_in _ (by omega)
            clear hat key p1 e5 e6 e7 hk0
            go_wp2
            go_quiet (fail)
            go_wp2
            go_quiet (fail)
            go_wp2
            go_roundw
            case rel => exact ⟨k + 1, by go_num, by omega, below_drewN hB _⟩
            case measure => simp [intOf]; omega
        · have hlt2 : decide ((k : Int) < (N : Int)) = false := by simp; omega
          have hlt3 : decide (k < N) = false := by simp; omega
          go_wp2
          go_ret
          exact ⟨rfl, B1.trans (hB.mono B1.size)⟩
    · obtain ⟨⟨x, y⟩, hx⟩ : ∃ x, (allF s.data.toList).1 = x := ⟨_, rfl⟩
      have K := Lib.hid (fun w => all_known s hs (x, y) [] hx h2 w)
      rw [hx] at h1
      have d1 : (x == 0) = false := by rw [beq_eq_false_iff_ne]; exact h1
      clear hx h2 h1
      go_enter Tryd.func6, Tryd.ntmps6
      go_wp2_with (first | (go_at_call 9; refine (lives_true _).mono ?_; rintro e w0 ⟨rfl, b0⟩) | (go_at_call 10; refine (K.out _).mono ?_; rintro e w1 ⟨v, rfl, ⟨a, cap, rfl, hrd⟩, b1⟩))
      go_ret
      exact ⟨rfl, (chain b0 b1).alloc (chain b0 b1).size _⟩
end Go.Proofs.YtiflklmjmdhfoaaDoor
