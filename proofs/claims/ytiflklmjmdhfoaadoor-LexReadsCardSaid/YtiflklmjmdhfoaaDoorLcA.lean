/- Tokens of any kind in memory; an argument that is a list of them, opened. Tokens that are the same (kit). -/
import Derived.Test.YtiflklmjmdhfoaaDoorLxU
import Derived.Deep.Slices
import Derived.Deep.Fields
import Derived.ChangeArms
import Derived.SizedLaws
import Derived.Deep.Strs
import Derived.BigQuiet
namespace Go.Proofs.YtiflklmjmdhfoaaDoor
open Go.RowKit Go.Shelf Go.Deep Go.ChangeShapes
set_option linter.unusedSimpArgs false

structure GT where
  kind : Int
  text : ByteArray
  num : Int
  at_ : Int
  line : Int
  col : Int
  first : Bool
instance : Inhabited GT := ⟨⟨0, ⟨#[]⟩, 0, 0, 0, 0, false⟩⟩
def GT.cells (x : GT) : List Value := [.int .i64 x.kind, .string x.text, .int .i64 x.num, .int .i64 x.at_, .int .i64 x.line, .int .i64 x.col, .bool x.first]
def GT.ok (x : GT) : Prop := x.num ≤ 9223372036854775807 ∧ x.text.size ≤ 140737488355328
/-- A slice that reads as these tokens. -/
def GRd (W : World) (v : Value) (gs : List GT) : Prop :=
  ∃ (a : Option Addr) (cap : Nat), v = .slice a gs.length cap ∧ (0 < gs.length → ∃ b o, a = some ⟨b, o, none⟩ ∧ b < W.heap.size ∧ ∀ k x, gs[k]? = some x → ∀ j c, x.cells[j]? = some c → W.cell? ⟨b, o + k * 7 + j, none⟩ = some c)
theorem GRd.below {W W' : World} {v : Value} {gs : List GT} (h : GRd W v gs) (hb : Below W.heap.size W W') : GRd W' v gs := by
  obtain ⟨a, cap, hv, hc⟩ := h
  refine ⟨a, cap, hv, fun hl => ?_⟩
  obtain ⟨b, o, h1, h2, h3⟩ := hc hl
  exact ⟨b, o, h1, Nat.lt_of_lt_of_le h2 hb.size, fun k x hx j c hj => (hb.cell (p := ⟨b, o + k * 7 + j, none⟩) h2).trans (h3 k x hx j c hj)⟩

section
variable {H : Type} {enc : TypeId × Value → H} {W : World} {sp : Nat → Bool} {hd : Bool}

theorem add_eq (b o j : Nat) : (⟨b, o, none⟩ : Addr).add j = ⟨b, o + j, none⟩ := by
  unfold Addr.add
  split
  · next h => subst h; rfl
  · rfl
theorem addr_at {a : Addr} {v : Value} (h : W.cell? (a.add 0) = some v) : ∃ b o, a = ⟨b, o, none⟩ ∧ b < W.heap.size := by
  have h0 : W.cell? a = some v := by simpa [Addr.add] using h
  have h1 := World.cell?_spot h0
  obtain ⟨b, o, s⟩ := a
  simp only at h1
  subst h1
  exact ⟨b, o, rfl, World.block_lt_of_cell? W ⟨b, o, none⟩ h0⟩
theorem bytesTok : Tryd.prog.bytesOf 30 = 64 := by kernel_rfl
theorem weights_mem_all {P : Program} {e : TypeId} : ∀ {l : List (DataW H)} {d : DataW H} {n : Nat}, d ∈ l → n ∈ d.weights P e → n ∈ DataW.weightsAll P e l
  | d0 :: l, d, n, hd, hn => by
    simp only [DataW.weightsAll, List.mem_append]
    rcases List.mem_cons.1 hd with rfl | hd
    · exact .inl hn
    · exact .inr (weights_mem_all hd hn)
theorem fld {fs : Array Field} {cs : List Value} {xs : List (DataW H × List MemPlace)} {m : Nat} (hf : ∀ (i : Nat) (f : Field), fs[i]? = some f → DataW.trod enc Tryd.prog W 0 sp hd m f.type ((cs.drop f.offset).take (Tryd.prog.cellsOf f.type)) = xs[i]?)
    (i : Nat) (t : TypeId) (o : Nat) (h : (fs[i]?).map (fun f => (f.type, f.offset)) = some (t, o)) : DataW.trod enc Tryd.prog W 0 sp hd m t ((cs.drop o).take (Tryd.prog.cellsOf t)) = xs[i]? := by
  rcases hi : fs[i]? with _ | f
  · rw [hi] at h; simp at h
  · rw [hi] at h
    simp only [Option.map_some, Option.some.injEq, Prod.mk.injEq] at h
    obtain ⟨rfl, rfl⟩ := h
    exact hf i f hi

set_option maxRecDepth 100000 in
theorem tok_of_trod {fuel : Nat} {cs : List Value} {x : DataW H × List MemPlace} (h : DataW.trod enc Tryd.prog W 0 sp hd fuel 30 cs = some x) (hw : ∀ n ∈ x.1.weights Tryd.prog 30, n ≤ reachBytes) : ∃ y : GT, cs = y.cells ∧ y.ok := by
  obtain ⟨zs, m, _, hz, hl, hzl, hf⟩ := DataW.trod_struct Tryd.underlying30 h
  have hl7 : cs.length = 7 := hl.trans (by kernel_rfl)
  have k3 : Tryd.prog.cellsOf 3 = 1 := by kernel_rfl
  have k4 : Tryd.prog.cellsOf 2 = 1 := by kernel_rfl
  have k9 : Tryd.prog.cellsOf 9 = 1 := by kernel_rfl
  have k1 : Tryd.prog.cellsOf 4 = 1 := by kernel_rfl
  match cs, hl7 with
  | [c0, c1, c2, c3, c4, c5, c6], _ =>
    match zs, hzl with
    | [z0, z1, z2, z3, z4, z5, z6], _ =>
      have wf := fun (j : Nat) (t : TypeId) (d : DataW H) (h1 : [3, 9, 2, 3, 3, 3, 4][j]? = some t) (h2 : [z0.1, z1.1, z2.1, z3.1, z4.1, z5.1, z6.1][j]? = some d) => fun k hk => hw k (by rw [hz]; simp only [DataW.weights, Tryd.underlying30]; exact DataW.weights_mem_each (j := j) (t := t) (d := d) h1 h2 k hk)
      have f0 := fld hf 0 3 0 rfl
      have f1 := fld hf 1 9 1 rfl
      have f2 := fld hf 2 2 2 rfl
      have f3 := fld hf 3 3 3 rfl
      have f4 := fld hf 4 3 4 rfl
      have f5 := fld hf 5 3 5 rfl
      have f6 := fld hf 6 4 6 rfl
      simp only [k3] at f0 f3 f4 f5
      simp only [k9] at f1
      simp only [k4] at f2
      simp only [k1] at f6
      obtain ⟨m0, q0, _⟩ := DataW.trod_int Tryd.underlying3 f0
      obtain ⟨s1, q1, hx1, _⟩ := DataW.trod_string Tryd.underlying9 f1
      obtain ⟨m2, q2, _, wf2⟩ := DataW.trod_int Tryd.underlying2 f2
      obtain ⟨m3, q3, _⟩ := DataW.trod_int Tryd.underlying3 f3
      obtain ⟨m4, q4, _⟩ := DataW.trod_int Tryd.underlying3 f4
      obtain ⟨m5, q5, _⟩ := DataW.trod_int Tryd.underlying3 f5
      obtain ⟨m6, q6, _⟩ := DataW.trod_bool Tryd.underlying4 f6
      obtain rfl : c0 = .int .i64 m0 := by simpa using q0
      obtain rfl : c1 = .string s1 := by simpa using q1
      obtain rfl : c2 = .int .i64 m2 := by simpa using q2
      obtain rfl : c3 = .int .i64 m3 := by simpa using q3
      obtain rfl : c4 = .int .i64 m4 := by simpa using q4
      obtain rfl : c5 = .int .i64 m5 := by simpa using q5
      obtain rfl : c6 = .bool m6 := by simpa using q6
      refine ⟨⟨m0, s1, m2, m3, m4, m5, m6⟩, rfl, ?_, ?_⟩
      · have : -9223372036854775808 ≤ m2 ∧ m2 ≤ 9223372036854775807 := by simpa [Lit.wf, IntKind.min, IntKind.max, IntKind.signed, IntKind.bits] using wf2
        show m2 ≤ _
        omega
      · have := wf 1 _ _ rfl rfl s1.data.toList.length (by rw [hx1]; simp [DataW.weights])
        have h2 : reachBytes = 140737488351232 := by decide
        rw [h2] at this
        have h3 : s1.data.toList.length = s1.size := rfl
        show s1.size ≤ _
        omega

theorem toks_of_trod {fuel : Nat} {v : Value} {x : DataW H × List MemPlace} (h : DataW.trod enc Tryd.prog W 0 sp hd fuel 23 [v] = some x) (hw : ∀ n ∈ x.1.weights Tryd.prog 23, n ≤ reachBytes) :
    ∃ gs, GRd W v gs ∧ gs.length ≤ 10000000000000 ∧ (∀ x ∈ gs, x.ok) ∧ (v = .slice none 0 0 ∨ ∃ p n c, v = .slice (some p) n c) := by
  rcases open_slice Tryd.underlying23 h with ⟨h0, _⟩ | ⟨a, len, cap, m, n, D, Pl, h0, _, hlc, hcm, hm, hxx, hx⟩
  · cases h0
    exact ⟨[], ⟨none, 0, rfl, fun h => by simp at h⟩, by simp, fun x hx => by simp at hx, .inl rfl⟩
  · cases h0
    have hlm : len ≤ m := by rw [hm]; split <;> omega
    have k7 : Tryd.prog.cellsOf 30 = 7 := by kernel_rfl
    rw [hxx] at hw
    have hle : len * 64 ≤ 140737488351232 := by
      have h1 := hw _ (by simp only [DataW.weights, Tryd.underlying23]; exact List.mem_cons_self ..)
      rw [bytesTok, List.length_map, List.length_map, List.length_range, List.length_range] at h1
      have h2 : reachBytes = 140737488351232 := by decide
      rw [h2] at h1
      exact Nat.le_trans (Nat.mul_le_mul_right _ (Nat.le_add_right _ _)) h1
    have hacts : ∀ i, i < len → ∃ y : GT, W.cells? 0 (a.add (i * 7)) 7 = some y.cells ∧ y.ok := by
      intro i hi
      obtain ⟨cs', h1, h2⟩ := hx i (by omega)
      rw [k7] at h1
      obtain ⟨y, rfl, hy⟩ := tok_of_trod h2 (fun k hk => hw k (by
        simp only [DataW.weights, Tryd.underlying23]
        refine List.mem_cons_of_mem _ (List.mem_append_left _ ?_)
        exact weights_mem_all (List.mem_map.2 ⟨i, List.mem_range.2 hi, rfl⟩) hk))
      exact ⟨y, h1, hy⟩
    obtain ⟨q, hq⟩ := choose_lt (α := GT) hacts
    refine ⟨(List.range len).map q, ⟨some a, cap, by simp, fun hl => ?_⟩, by simp; omega, fun x hx => ?_, .inr ⟨_, _, _, rfl⟩⟩
    · have hl0 : 0 < len := by simpa using hl
      have h00 := (World.cells?_some (hq 0 hl0).1).2.2 0 (by omega)
      rw [Nat.zero_mul] at h00
      have h01 : W.cell? (a.add 0) = some (.int .i64 (q 0).kind) := by simpa [Addr.add, GT.cells] using h00
      obtain ⟨b, o, rfl, hb⟩ := addr_at h01
      refine ⟨b, o, rfl, hb, fun i x hx j c hc => ?_⟩
      obtain ⟨hi, rfl⟩ : i < len ∧ q i = x := by
        rw [List.getElem?_map] at hx
        rcases Nat.lt_or_ge i len with hi | hi
        · rw [List.getElem?_range hi] at hx
          exact ⟨hi, by simpa using hx⟩
        · rw [List.getElem?_eq_none (by simpa using hi)] at hx
          simp at hx
      have hj : j < 7 := by
        have := (List.getElem?_eq_some_iff.1 hc).1
        simpa [GT.cells] using this
      have := (World.cells?_some (hq i hi).1).2.2 j hj
      rw [hc, add_eq, add_eq] at this
      exact this
    · obtain ⟨i, hi, rfl⟩ := List.mem_map.1 hx
      exact (hq i (List.mem_range.1 hi)).2
end
end Go.Proofs.YtiflklmjmdhfoaaDoor

namespace Go.Proofs.YtiflklmjmdhfoaaDoor
open Go.RowKit Go.Shelf
set_option linter.unusedSimpArgs false

set_option maxRecDepth 100000 in
set_option maxHeartbeats 8000000 in
theorem same_toks (a b : Value) (gs : List GT) (w : World) (ha : GRd w a gs) (hb : GRd w b gs) (hn : gs.length ≤ 100000) :
    Calls Tryd.prog 15 #[a, b] w fun e w' => e = .returned (.bool true) ∧ Below w.heap.size w w' := by
  obtain ⟨a, ca, rfl, ha⟩ := ha
  obtain ⟨b, cb, rfl, hb⟩ := hb
  obtain ⟨N, hN⟩ : ∃ N, gs.length = N := ⟨_, rfl⟩
  have HN := Lib.hid hN
  rw [hN] at hn ⊢
  have Ha := Lib.hid ha
  have Hb := Lib.hid hb
  have z1 : ((N : Int) != (N : Int)) = false := by simp
  clear ha hb hN
  go_enter Tryd.func15, Tryd.ntmps15
  go_wp2
  go_loopw [5] (fun i wr => ∃ k : Nat, i = .int .i64 k ∧ k ≤ N ∧ Below w.heap.size w wr) (fun i _ => N - (intOf i).toNat)
  case atStart => exact ⟨0, rfl, Nat.zero_le _, Below.refl _ _⟩
  case round =>
    obtain ⟨k, rfl, hk, hB⟩ := hrel
    by_cases hlt : k < N
    · have hlt2 : decide ((k : Int) < (N : Int)) = true := by simp; omega
      have hlt3 : decide (k < N) = true := by simp; omega
      have hkt : k < gs.length := by rw [HN.out]; exact hlt
      obtain ⟨p, o, rfl, hp, hat⟩ := Ha.out (by omega)
      obtain ⟨p', o', rfl, hp', hat'⟩ := Hb.out (by omega)
      obtain ⟨x, hx⟩ : ∃ x, gs[k]? = some x := ⟨_, List.getElem?_eq_getElem hkt⟩
      have ha := fun j c hc => (hB.cell (p := ⟨p, o + k * 7 + j, none⟩) hp).trans (hat k x hx j c hc)
      have hb := fun j c hc => (hB.cell (p := ⟨p', o' + k * 7 + j, none⟩) hp').trans (hat' k x hx j c hc)
      have c0 := ha 0 _ rfl
      have c1 := ha 1 _ rfl
      have c2 := ha 2 _ rfl
      have c3 := ha 3 _ rfl
      have c4 := ha 4 _ rfl
      have c5 := ha 5 _ rfl
      have c6 := ha 6 _ rfl
      have g0 := hb 0 _ rfl
      have g1 := hb 1 _ rfl
      have g2 := hb 2 _ rfl
      have g3 := hb 3 _ rfl
      have g4 := hb 4 _ rfl
      have g5 := hb 5 _ rfl
      have g6 := hb 6 _ rfl
      rw [Nat.add_zero] at c0 g0
      clear ha hb hat hat' hx
      go_wp2
      go_quiet (fail)
      go_wp2
      go_roundw
      case rel => exact ⟨k + 1, by go_num, by omega, below_drewN hB _⟩
      case measure => simp [intOf]; omega
    · have hlt2 : decide ((k : Int) < (N : Int)) = false := by simp; omega
      have hlt3 : decide (k < N) = false := by simp; omega
      go_wp2
      go_ret
      exact ⟨rfl, hB⟩
end Go.Proofs.YtiflklmjmdhfoaaDoor
