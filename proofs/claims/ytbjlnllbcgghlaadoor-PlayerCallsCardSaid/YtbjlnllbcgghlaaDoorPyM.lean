/- Bytes as a text; SamePlays, Steps, smallPlays. -/
import Derived.Test.YtbjlnllbcgghlaaDoorPyL
namespace Go.Proofs.YtbjlnllbcgghlaaDoor
open Go.RowKit Go.Shelf
set_option linter.unusedSimpArgs false
set_option linter.unusedVariables false

theorem bts_str {w : World} {v : Value} {l : List UInt8} (h : Bts w v l) : (convert 32 9 v).run Tryd.prog w = .ok (.string (mkW l)) w := by
  obtain ⟨a, cap, rfl, ha⟩ := h
  rcases l with _ | ⟨c, l⟩
  · rw [show ([] : List UInt8).length = 0 from rfl, run_convert_bytes_string w _ _ 5 a 0 cap Tryd.underlying32 Tryd.underlying5 Tryd.underlying9]
    cases a <;> rfl
  · obtain ⟨b, o, rfl, hb, hat⟩ := ha (by simp)
    exact run_convert_bytes_back w _ _ 5 ⟨b, o, none⟩ cap (c :: l) Tryd.underlying32 Tryd.underlying5 Tryd.underlying9 (fun j hj => by
      have := hat j _ (List.getElem?_eq_getElem hj)
      rw [Nat.mul_one] at this
      rw [show (⟨b, o, none⟩ : Addr).add j = ⟨b, o + j, none⟩ from by unfold Addr.add; split <;> simp_all]
      exact this)
/-- The sum of the runs' steps. -/
def stepF (st : Int) (x : PlD) : Int := if x.kind = 3 then wrap64 (st + x.n) else st
def stepsK (l : List PlD) : Int := l.foldl stepF 0
set_option maxRecDepth 100000 in
set_option maxHeartbeats 8000000 in
theorem same_plays (a b : Value) (gs : List PlD) (w : World) (ha : Pls w a gs) (hb : Pls w b gs) (hn : gs.length ≤ 100000000) :
    Calls Tryd.prog 11 #[a, b] w fun e w' => e = .returned (.bool true) ∧ Below w.heap.size w w' := by
  obtain ⟨a, ca, rfl, ha⟩ := ha
  obtain ⟨b, cb, rfl, hb⟩ := hb
  obtain ⟨N, hN⟩ : ∃ N, gs.length = N := ⟨_, rfl⟩
  have HN := Lib.hid hN
  rw [hN] at hn ⊢
  have Ha := Lib.hid ha
  have Hb := Lib.hid hb
  have z1 : ((N : Int) != (N : Int)) = false := by simp
  clear ha hb hN
  go_enter Tryd.func11, Tryd.ntmps11
  go_wp2
  go_loopw [5] (fun i wr => ∃ k : Nat, i = .int .i64 k ∧ k ≤ N ∧ Below w.heap.size w wr) (fun i _ => N - (intOf i).toNat)
  case atStart => exact ⟨0, rfl, Nat.zero_le _, Below.refl _ _⟩
  case round =>
    obtain ⟨k, rfl, hk, hB⟩ := hrel
    by_cases hlt : k < N
    · have hlt2 : decide ((k : Int) < (N : Int)) = true := by simp; omega
      have hlt3 : decide (k < N) = true := by simp; omega
      have hi0 : (0 : Int) ≤ (k : Int) := by omega
      have hkt : k < gs.length := by rw [HN.out]; exact hlt
      obtain ⟨p, o, rfl, hp, hat⟩ := Ha.out (by omega)
      obtain ⟨p', o', rfl, hp', hat'⟩ := Hb.out (by omega)
      obtain ⟨x, hx⟩ : ∃ x, gs[k]? = some x := ⟨_, List.getElem?_eq_getElem hkt⟩
      obtain ⟨vs, ha, ba⟩ := hat k x hx
      obtain ⟨us, hb, bb⟩ := hat' k x hx
      have ha := fun j c hc => (hB.cell (p := ⟨p, o + k * 3 + j, none⟩) hp).trans (ha j c hc)
      have hb := fun j c hc => (hB.cell (p := ⟨p', o' + k * 3 + j, none⟩) hp').trans (hb j c hc)
      have c0 := ha 0 _ rfl
      have c1 := ha 1 _ rfl
      have c2 := ha 2 _ rfl
      have g0 := hb 0 _ rfl
      have g1 := hb 1 _ rfl
      have g2 := hb 2 _ rfl
      rw [Nat.add_zero] at c0 g0
      have k1 := fun n => bts_str ((ba.below hB).below (below_drewN wr n))
      have k2 := fun n => bts_str ((bb.below hB).below (below_drewN wr n))
      generalize mkW x.bytes = s at k1 k2
      clear ha hb hat hat' hx ba bb
      go_wp2
      go_quiet ((simp only [k1, k2, Result.andThen]; first | exact ⟨rfl, rfl⟩ | rfl))
      go_wp2
      go_roundw
      case rel => exact ⟨k + 1, by go_num, by omega, chain hB (below_drewN _ _)⟩
      case measure => simp [intOf]; omega
    · have hlt2 : decide ((k : Int) < (N : Int)) = false := by simp; omega
      have hlt3 : decide (k < N) = false := by simp; omega
      obtain rfl : N = k := by omega
      go_wp2
      go_ret
      exact ⟨rfl, hB⟩
set_option maxRecDepth 100000 in
set_option maxHeartbeats 8000000 in
theorem steps_any (v : Value) (l : List PlD) (w : World) (h : Pls w v l) (hn : l.length ≤ 100000000) :
    Calls Tryd.prog 12 #[v] w fun e w' => e = .returned (.int .i64 (stepsK l)) ∧ Below w.heap.size w w' := by
  obtain ⟨a, ca, rfl, ha⟩ := h
  obtain ⟨N, hN⟩ : ∃ N, l.length = N := ⟨_, rfl⟩
  have HN := Lib.hid hN
  rw [hN] at hn ⊢
  have Ha := Lib.hid ha
  clear ha hN
  go_enter Tryd.func12, Tryd.ntmps12
  go_wp2
  go_loopw [3, 8] (fun s i wr => ∃ (k : Nat) (z : Int), i = .int .i64 k ∧ s = .int .i64 z ∧ k ≤ N ∧ Hid (z = (l.take k).foldl stepF 0) ∧ Below w.heap.size w wr) (fun s i _ => N - (intOf i).toNat)
  case atStart => exact ⟨0, 0, rfl, rfl, Nat.zero_le _, Lib.hid rfl, Below.refl _ _⟩
  case round =>
    obtain ⟨k, z, rfl, rfl, hk, HZ, hB⟩ := hrel
    by_cases hlt : k < N
    · have hlt2 : decide ((k : Int) < (N : Int)) = true := by simp; omega
      have hlt3 : decide (k < N) = true := by simp; omega
      have hi0 : (0 : Int) ≤ (k : Int) := by omega
      have hkt : k < l.length := by rw [HN.out]; exact hlt
      obtain ⟨p, o, rfl, hp, hat⟩ := Ha.out (by omega)
      obtain ⟨x, hx⟩ : ∃ x, l[k]? = some x := ⟨_, List.getElem?_eq_getElem hkt⟩
      obtain ⟨vs, hcs, ⟨ab, cb, rfl, -⟩⟩ := hat k x hx
      obtain ⟨m, hm⟩ : ∃ m, x.bytes.length = m := ⟨_, rfl⟩
      obtain ⟨kd, hkd⟩ : ∃ m, x.kind = m := ⟨_, rfl⟩
      obtain ⟨nn, hnn⟩ : ∃ m, x.n = m := ⟨_, rfl⟩
      rw [hm, hkd, hnn] at hcs
      have c0 := (hB.cell (p := ⟨p, o + k * 3 + 0, none⟩) hp).trans (hcs 0 _ rfl)
      have c1 := (hB.cell (p := ⟨p, o + k * 3 + 1, none⟩) hp).trans (hcs 1 _ rfl)
      have c2 := (hB.cell (p := ⟨p, o + k * 3 + 2, none⟩) hp).trans (hcs 2 _ rfl)
      rw [Nat.add_zero] at c0
      have HX := Lib.hid (show stepF z x = if kd = 3 then wrap64 (z + nn) else z by unfold stepF; rw [hkd, hnn])
      have HF := Lib.hid (show stepF z x = (l.take (k + 1)).foldl stepF 0 by rw [fold_next stepF 0 hx, HZ.out])
      have HB2 := Lib.hid (show Below w.heap.size w (wr.alloc (.cells #[.int .i64 kd, .int .i64 nn, .slice ab m cb] 34)) from hB.alloc hB.size _)
      clear hat hx hcs hm hkd hnn
      go_upto_region 5 with fail
      have R := Blk.new wr #[.int .i64 kd, .int .i64 nn, .slice ab m cb] 34
      generalize wr.alloc (.cells #[.int .i64 kd, .int .i64 nn, .slice ab m cb] 34) = W2 at R HB2 ⊢
      generalize wr.heap.size = r2 at R ⊢
      have d0 : W2.cell? ⟨r2, 0, none⟩ = _ := R.cell 0
      have d1 : W2.cell? ⟨r2, 1, none⟩ = _ := R.cell 1
      have d2 : W2.cell? ⟨r2, 2, none⟩ = _ := R.cell 2
      simp only [List.getElem?_toArray, List.getElem?_cons_zero, List.getElem?_cons_succ] at d0 d1 d2
      clear c0 c1 c2 R hB
      by_cases e : kd = 3
      · have e2 : (kd == 3) = true := by simp; omega
        go_wp2
        go_roundw
        case measure => simp [intOf]; omega
        case rel => exact ⟨k + 1, _, by go_num, rfl, by omega, Lib.hid (by rw [← HF.out, HX.out, if_pos e]), HB2.out⟩
      · have e2 : (kd == 3) = false := by simp; omega
        go_wp2
        go_roundw
        case measure => simp [intOf]; omega
        case rel => exact ⟨k + 1, _, by go_num, rfl, by omega, Lib.hid (by rw [← HF.out, HX.out, if_neg e]), HB2.out⟩
    · have hlt2 : decide ((k : Int) < (N : Int)) = false := by simp; omega
      have hlt3 : decide (k < N) = false := by simp; omega
      obtain rfl : N = k := by omega
      have hz : z = stepsK l := by have := HZ.out; rwa [← HN.out, List.take_length] at this
      have HZ2 := Lib.hid hz
      clear hz hlt hlt2 hlt3
      go_wp2
      go_ret
      exact ⟨by rw [HZ2.out]; rfl, hB⟩
set_option maxRecDepth 100000 in
set_option maxHeartbeats 8000000 in
theorem rsteps_any (v : Value) (l : List PlD) (w : World) (h : Pls w v l) (hn : l.length ≤ 100000000) :
    Calls Tryd.prog 21 #[v] w fun e w' => e = .returned (.int .i64 (stepsK l)) ∧ Below w.heap.size w w' := by
  obtain ⟨a, ca, rfl, ha⟩ := h
  obtain ⟨N, hN⟩ : ∃ N, l.length = N := ⟨_, rfl⟩
  have HN := Lib.hid hN
  rw [hN] at hn ⊢
  have Ha := Lib.hid ha
  clear ha hN
  go_enter Tryd.func21, Tryd.ntmps21
  go_wp2
  go_loopw [3, 4] (fun s i wr => ∃ (k : Nat) (z : Int), i = .int .i64 k ∧ s = .int .i64 z ∧ k ≤ N ∧ Hid (z = (l.take k).foldl stepF 0) ∧ Below w.heap.size w wr) (fun s i _ => N - (intOf i).toNat)
  case atStart => exact ⟨0, 0, rfl, rfl, Nat.zero_le _, Lib.hid rfl, Below.refl _ _⟩
  case round =>
    obtain ⟨k, z, rfl, rfl, hk, HZ, hB⟩ := hrel
    by_cases hlt : k < N
    · have hlt2 : decide ((k : Int) < (N : Int)) = true := by simp; omega
      have hlt3 : decide (k < N) = true := by simp; omega
      have hi0 : (0 : Int) ≤ (k : Int) := by omega
      have hkt : k < l.length := by rw [HN.out]; exact hlt
      obtain ⟨p, o, rfl, hp, hat⟩ := Ha.out (by omega)
      obtain ⟨x, hx⟩ : ∃ x, l[k]? = some x := ⟨_, List.getElem?_eq_getElem hkt⟩
      obtain ⟨vs, hcs, ⟨ab, cb, rfl, -⟩⟩ := hat k x hx
      obtain ⟨m, hm⟩ : ∃ m, x.bytes.length = m := ⟨_, rfl⟩
      obtain ⟨kd, hkd⟩ : ∃ m, x.kind = m := ⟨_, rfl⟩
      obtain ⟨nn, hnn⟩ : ∃ m, x.n = m := ⟨_, rfl⟩
      rw [hm, hkd, hnn] at hcs
      have c0 := (hB.cell (p := ⟨p, o + k * 3 + 0, none⟩) hp).trans (hcs 0 _ rfl)
      have c1 := (hB.cell (p := ⟨p, o + k * 3 + 1, none⟩) hp).trans (hcs 1 _ rfl)
      have c2 := (hB.cell (p := ⟨p, o + k * 3 + 2, none⟩) hp).trans (hcs 2 _ rfl)
      rw [Nat.add_zero] at c0
      have HX := Lib.hid (show stepF z x = if kd = 3 then wrap64 (z + nn) else z by unfold stepF; rw [hkd, hnn])
      have HF := Lib.hid (show stepF z x = (l.take (k + 1)).foldl stepF 0 by rw [fold_next stepF 0 hx, HZ.out])
      clear hat hx hcs hm hkd hnn
      by_cases e : kd = 3
      · have e2 : (kd == 3) = true := by simp; omega
        go_wp2
        go_roundw
        case measure => simp [intOf]; omega
        case rel => exact ⟨k + 1, _, by go_num, rfl, by omega, Lib.hid (by rw [← HF.out, HX.out, if_pos e]), hB⟩
      · have e2 : (kd == 3) = false := by simp; omega
        go_wp2
        go_roundw
        case measure => simp [intOf]; omega
        case rel => exact ⟨k + 1, _, by go_num, rfl, by omega, Lib.hid (by rw [← HF.out, HX.out, if_neg e]), hB⟩
    · have hlt2 : decide ((k : Int) < (N : Int)) = false := by simp; omega
      have hlt3 : decide (k < N) = false := by simp; omega
      obtain rfl : N = k := by omega
      have hz : z = stepsK l := by have := HZ.out; rwa [← HN.out, List.take_length] at this
      have HZ2 := Lib.hid hz
      clear hz hlt hlt2 hlt3
      go_wp2
      go_ret
      exact ⟨by rw [HZ2.out]; rfl, hB⟩
/-- Scripts that are gone through. -/
def smallK (l : List PlD) : Prop := l.length ≤ 5000 ∧ (l.map fun x => x.bytes.length).sum ≤ 20000
def capK (x : PlD) : Nat := if 20001 < x.bytes.length then 20001 else x.bytes.length
theorem cap_is (x : PlD) : capK x ≤ 20001 ∧ (capK x ≤ 20000 → capK x = x.bytes.length) := by unfold capK; split <;> omega
theorem cap_sum : ∀ (l : List PlD), (l.map capK).sum ≤ 20000 → (l.map fun x => x.bytes.length).sum ≤ 20000 ∧ (l.map fun x => x.bytes.length).sum = (l.map capK).sum
  | [], _ => by simp
  | x :: l, h => by
    simp only [List.map_cons, List.sum_cons] at h ⊢
    have h2 := cap_sum l (by omega)
    have h3 := cap_is x
    omega
theorem cap_le (l : List PlD) : (l.map capK).sum ≤ 20001 * l.length := by
  induction l with
  | nil => simp
  | cons x l ih => simp only [List.map_cons, List.sum_cons, List.length_cons]; have h3 := cap_is x; omega
set_option maxRecDepth 100000 in
set_option maxHeartbeats 8000000 in
theorem small_any (v : Value) (l : List PlD) (w : World) (h : Pls w v l) (hn : l.length ≤ 10000000000000) :
    Calls Tryd.prog 13 #[v, .int .i64 5000] w fun e w' => ∃ b, e = .returned (.bool b) ∧ (b = true → smallK l) ∧ Below w.heap.size w w' := by
  obtain ⟨a, ca, rfl, ha⟩ := h
  obtain ⟨N, hN⟩ : ∃ N, l.length = N := ⟨_, rfl⟩
  have HN := Lib.hid hN
  rw [hN] at hn ⊢
  have Ha := Lib.hid ha
  clear ha hN
  go_enter Tryd.func13, Tryd.ntmps13
  go_wp2
  go_loopw [5, 6] (fun s i wr => ∃ (k z : Nat), i = .int .i64 k ∧ s = .int .i64 z ∧ k ≤ N ∧ k ≤ 5001 ∧ Hid (z = ((l.take k).map capK).sum) ∧ Below w.heap.size w wr) (fun _ i _ => N - (intOf i).toNat)
  case atStart => exact ⟨0, 0, rfl, rfl, Nat.zero_le _, Nat.zero_le _, Lib.hid rfl, Below.refl _ _⟩
  case round =>
    obtain ⟨k, z, rfl, rfl, hk, hk2, HZ, hB⟩ := hrel
    have hz1 : z ≤ 20001 * k := by have := cap_le (l.take k); rw [HZ.out]; rw [List.length_take] at this; omega
    by_cases hlt : k < N
    · have hlt2 : decide ((k : Int) < (N : Int)) = true := by simp; omega
      have hlt3 : decide (k < N) = true := by simp; omega
      have hi0 : (0 : Int) ≤ (k : Int) := by omega
      by_cases h5 : k ≤ 5000
      · have h6 : decide ((k : Int) ≤ 5000) = true := by simp; omega
        have hkt : k < l.length := by rw [HN.out]; exact hlt
        obtain ⟨p, o, rfl, hp, hat⟩ := Ha.out (by omega)
        obtain ⟨x, hx⟩ : ∃ x, l[k]? = some x := ⟨_, List.getElem?_eq_getElem hkt⟩
        obtain ⟨vs, hcs, ⟨ab, cb, rfl, -⟩⟩ := hat k x hx
        obtain ⟨m, hm⟩ : ∃ m, x.bytes.length = m := ⟨_, rfl⟩
        obtain ⟨kd, hkd⟩ : ∃ m, x.kind = m := ⟨_, rfl⟩
        obtain ⟨nn, hnn⟩ : ∃ m, x.n = m := ⟨_, rfl⟩
        rw [hm, hkd, hnn] at hcs
        have c0 := (hB.cell (p := ⟨p, o + k * 3 + 0, none⟩) hp).trans (hcs 0 _ rfl)
        have c1 := (hB.cell (p := ⟨p, o + k * 3 + 1, none⟩) hp).trans (hcs 1 _ rfl)
        have c2 := (hB.cell (p := ⟨p, o + k * 3 + 2, none⟩) hp).trans (hcs 2 _ rfl)
        rw [Nat.add_zero] at c0
        obtain ⟨q, hq⟩ : ∃ q, q = capK x := ⟨_, rfl⟩
        have hqz : (if (20001 : Int) < (m : Int) then (20001 : Int) else (m : Int)) = (q : Int) := by rw [hq]; unfold capK; rw [hm]; split <;> split <;> omega
        have hq2 : q ≤ 20001 := by rw [hq]; unfold capK; split <;> omega
        have HF := Lib.hid (show z + q = ((l.take (k + 1)).map capK).sum by rw [List.take_add_one, hx, List.map_append, List.sum_append, ← HZ.out, hq]; simp)
        have hwr : IntKind.i64.wrap ((z : Int) + (q : Int)) = (z : Int) + (q : Int) := IntWalk.i64_in _ (by omega)
        clear hat hx hcs hm hkd hnn hq
        go_wp2
        go_roundw
        case measure => simp [intOf]; omega
        case rel => exact ⟨k + 1, z + q, by go_num, by go_num, by omega, by omega, HF, hB⟩
      · have h6 : decide ((k : Int) ≤ 5000) = false := by simp; omega
        have h7 : decide ((N : Int) ≤ 5000) = false := by simp; omega
        go_wp2
        go_ret
        exact ⟨false, rfl, (fun e => by cases e), hB⟩
    · have hlt2 : decide ((k : Int) < (N : Int)) = false := by simp; omega
      have hlt3 : decide (k < N) = false := by simp; omega
      obtain rfl : N = k := by omega
      have hz : z = (l.map capK).sum := by have := HZ.out; rwa [← HN.out, List.take_length] at this
      have HZ2 := Lib.hid hz
      by_cases h7 : (N : Int) ≤ 5000
      · have h8 : decide ((N : Int) ≤ 5000) = true := by simp; omega
        have h9 : decide (N ≤ 5000) = true := by simp; omega
        clear hz hlt hlt2 hlt3
        go_wp2
        go_ret
        refine ⟨_, rfl, fun e => ?_, hB⟩
        have hzz : z ≤ 20000 := by simp at e; omega
        exact ⟨by rw [HN.out]; omega, (cap_sum l (by rw [← HZ2.out]; exact hzz)).1⟩
      · have h8 : decide ((N : Int) ≤ 5000) = false := by simp; omega
        have h9 : decide (N ≤ 5000) = false := by simp; omega
        clear hz hlt hlt2 hlt3
        go_wp2
        go_ret
        exact .inl ⟨rfl, hB⟩
end Go.Proofs.YtbjlnllbcgghlaaDoor
