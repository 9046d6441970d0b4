/- The argument that is a list of a heap's acts, opened. -/
import Derived.Test.YtlmljommgmbckaaHpK
import Derived.Deep.Slices
import Derived.Deep.SlicePairs
import Derived.Deep.Fields
import Derived.ChangeArms
import Derived.SizedLaws
import Derived.Deep.Strs
namespace Go.Proofs.Ytlmljommgmbckaa
open Go.RowKit Go.Deep Go.ChangeShapes

instance : Inhabited ActH := ⟨⟨0, 0, 0, 0, 0, 0, .slice none 0 0, [], false⟩⟩
theorem wf64 {n : Int} (h : (Lit.int .i64 n).wf = true) : -9223372036854775808 ≤ n ∧ n ≤ 9223372036854775807 := by
  simp [Lit.wf, IntKind.min, IntKind.max, IntKind.bits, IntKind.signed] at h
  omega

section
variable {H : Type} {enc : TypeId × Value → H} {W : World} {sp : Nat → Bool} {hd : Bool}

theorem add_eq (b o j : Nat) : (⟨b, o, none⟩ : Addr).add j = ⟨b, o + j, none⟩ := by
  unfold Addr.add
  split
  · next h => subst h; rfl
  · rfl

theorem addr_at {a : Addr} {v : Value} (h : W.cell? (a.add 0) = some v) : ∃ b o, a = ⟨b, o, none⟩ ∧ b < W.heap.size := by
  have h0 : W.cell? a = some v := by simpa [Addr.add] using h
  have h1 := World.cell?_spot h0
  obtain ⟨b, o, s⟩ := a
  simp only at h1
  subst h1
  exact ⟨b, o, rfl, World.block_lt_of_cell? W ⟨b, o, none⟩ h0⟩

theorem flat_at (A B : Nat → Int) (n j : Nat) (c : Value) (h : (flat ((List.range n).map fun i => (A i, B i)))[j]? = some c) : ∃ i, i < n ∧ ((j = i * 2 ∧ c = .int .i64 (A i)) ∨ (j = i * 2 + 1 ∧ c = .int .i64 (B i))) := by
  have hl : j < n * 2 := by
    have := (List.getElem?_eq_some_iff.1 h).1
    rw [flat_len] at this
    simpa using this
  have hi : j / 2 < n := by omega
  have hg := flat_get ((List.range n).map fun i => (A i, B i)) (j / 2) (by simpa using hi)
  simp only [List.getElem_map, List.getElem_range] at hg
  rcases Nat.mod_two_eq_zero_or_one j with h0 | h0
  · have e : j = 2 * (j / 2) := by omega
    rw [e, hg.1] at h
    exact ⟨j / 2, hi, .inl ⟨by omega, by simpa using h.symm⟩⟩
  · have e : j = 2 * (j / 2) + 1 := by omega
    rw [e, hg.2] at h
    exact ⟨j / 2, hi, .inr ⟨by omega, by simpa using h.symm⟩⟩

theorem bytesWord : Try.prog.bytesOf 32 = 16 := by kernel_rfl
theorem bytesAct : Try.prog.bytesOf 35 = 80 := by kernel_rfl

theorem wat_of_trod {fuel : Nat} {v : Value} {x : DataW H × List MemPlace} (h : DataW.trod enc Try.prog W 0 sp hd fuel 33 [v] = some x) (hw : ∀ n ∈ x.1.weights Try.prog 33, n ≤ reachBytes) :
    ∃ ws, WAt W v ws ∧ ws.length ≤ 140737488355328 ∧ Ranged ws := by
  rcases open_slice_pairs Try.underlying33 Try.underlying32 (by kernel_rfl) rfl rfl (by kernel_rfl) (by kernel_rfl) h with ⟨h0, _⟩ | ⟨a, len, cap, m, n, V0, V1, D0, D1, P0, P1, h0, _, hlc, hcm, hm, hxx, hx⟩
  · cases h0
    exact ⟨[], ⟨none, 0, rfl, fun h => by simp at h⟩, by simp, fun x hx => by simp at hx⟩
  · cases h0
    have hle : len * 16 ≤ 140737488351232 := by
      rw [hxx] at hw
      have h1 := hw _ (by simp only [DataW.weights, Try.underlying33]; exact List.mem_cons_self ..)
      rw [bytesWord, List.length_map, List.length_map, List.length_range, List.length_range] at h1
      have h2 : reachBytes = 140737488351232 := by decide
      rw [h2] at h1
      exact Nat.le_trans (Nat.mul_le_mul_right _ (Nat.le_add_right _ _)) h1
    have hlm : len ≤ m := by rw [hm]; split <;> omega
    have hints : ∀ i, i < len → ∃ q : Int × Int, W.cell? (a.add (i * 2)) = some (.int .i64 q.1) ∧ W.cell? (a.add (i * 2 + 1)) = some (.int .i64 q.2) ∧ -9223372036854775808 ≤ q.2 ∧ q.2 ≤ 9223372036854775807 := by
      intro i hi
      obtain ⟨h1, h2, h3, h4⟩ := hx i (by omega)
      obtain ⟨n1, e1, _⟩ := DataW.trod_int Try.underlying3 h3
      obtain ⟨n2, e2, _, w2⟩ := DataW.trod_int Try.underlying2 h4
      simp only [List.cons.injEq, and_true] at e1 e2
      exact ⟨(n1, n2), by rw [h1, e1], by rw [h2, e2], wf64 w2⟩
    obtain ⟨q, hq⟩ := choose_lt hints
    refine ⟨(List.range len).map fun i => ((q i).1, (q i).2), ⟨some a, cap, by simp, fun hl => ?_⟩, by simp; omega, fun x hx => by
      obtain ⟨i, hi, rfl⟩ := List.mem_map.1 hx
      exact (hq i (List.mem_range.1 hi)).2.2⟩
    have hl0 : 0 < len := by simpa using hl
    have h00 := (hq 0 hl0).1
    rw [Nat.zero_mul] at h00
    obtain ⟨b, o, rfl, hb⟩ := addr_at h00
    refine ⟨b, o, rfl, hb, fun j c hc => ?_⟩
    obtain ⟨i, hi, ⟨rfl, rfl⟩ | ⟨rfl, rfl⟩⟩ := flat_at _ _ _ _ _ hc
    · have := (hq i hi).1; rwa [add_eq] at this
    · have := (hq i hi).2.1; rwa [add_eq] at this

theorem weights_mem_all {P : Program} {e : TypeId} : ∀ {l : List (DataW H)} {d : DataW H} {n : Nat}, d ∈ l → n ∈ d.weights P e → n ∈ DataW.weightsAll P e l
  | d0 :: l, d, n, hd, hn => by
    simp only [DataW.weightsAll, List.mem_append]
    rcases List.mem_cons.1 hd with rfl | hd
    · exact .inl hn
    · exact .inr (weights_mem_all hd hn)

theorem fld {fs : Array Field} {cs : List Value} {xs : List (DataW H × List MemPlace)} {m : Nat} (hf : ∀ (i : Nat) (f : Field), fs[i]? = some f → DataW.trod enc Try.prog W 0 sp hd m f.type ((cs.drop f.offset).take (Try.prog.cellsOf f.type)) = xs[i]?)
    (i : Nat) (t : TypeId) (o : Nat) (h : (fs[i]?).map (fun f => (f.type, f.offset)) = some (t, o)) : DataW.trod enc Try.prog W 0 sp hd m t ((cs.drop o).take (Try.prog.cellsOf t)) = xs[i]? := by
  rcases hi : fs[i]? with _ | f
  · rw [hi] at h; simp at h
  · rw [hi] at h
    simp only [Option.map_some, Option.some.injEq, Prod.mk.injEq] at h
    obtain ⟨rfl, rfl⟩ := h
    exact hf i f hi

theorem act_of_trod {fuel : Nat} {cs : List Value} {x : DataW H × List MemPlace} (h : DataW.trod enc Try.prog W 0 sp hd fuel 35 cs = some x) (hw : ∀ n ∈ x.1.weights Try.prog 35, n ≤ reachBytes) : ∃ y : ActH, cs = y.cells ∧ ActHOk W y := by
  have k3 : Try.prog.cellsOf 3 = 1 := by kernel_rfl
  have k2 : Try.prog.cellsOf 2 = 1 := by kernel_rfl
  have k4 : Try.prog.cellsOf 4 = 1 := by kernel_rfl
  have k32 : Try.prog.cellsOf 32 = 2 := by kernel_rfl
  have k33 : Try.prog.cellsOf 33 = 1 := by kernel_rfl
  obtain ⟨zs, m, _, hz, hcl, hzl, hf⟩ := DataW.trod_struct Try.underlying35 h
  have hl8 : cs.length = 8 := hcl.trans (by kernel_rfl)
  match cs, hl8, zs, hzl with
  | [c0, c1, c2, c3, c4, c5, c6, c7], _, [z0, z1, z2, z3, z4, z5, z6], _ =>
    have wf := fun (j : Nat) (t : TypeId) (d : DataW H) (h1 : [3, 3, 3, 2, 32, 33, 4][j]? = some t) (h2 : [z0.1, z1.1, z2.1, z3.1, z4.1, z5.1, z6.1][j]? = some d) => fun k hk => hw k (by rw [hz]; simp only [DataW.weights, Try.underlying35]; exact DataW.weights_mem_each (j := j) (t := t) (d := d) h1 h2 k hk)
    have f0 := fld hf 0 3 0 rfl
    have f1 := fld hf 1 3 1 rfl
    have f2 := fld hf 2 3 2 rfl
    have f3 := fld hf 3 2 3 rfl
    have f4 := fld hf 4 32 4 rfl
    have f5 := fld hf 5 33 6 rfl
    have f6 := fld hf 6 4 7 rfl
    simp only [k3] at f0 f1 f2
    simp only [k2] at f3
    simp only [k32] at f4
    simp only [k33] at f5
    simp only [k4] at f6
    obtain ⟨n0, q0, _⟩ := DataW.trod_int Try.underlying3 f0
    obtain ⟨n1, q1, _⟩ := DataW.trod_int Try.underlying3 f1
    obtain ⟨n2, q2, _⟩ := DataW.trod_int Try.underlying3 f2
    obtain ⟨n3, q3, _, w3⟩ := DataW.trod_int Try.underlying2 f3
    obtain ⟨ys, m2, _, hy, _, hyl, hg⟩ := DataW.trod_struct Try.underlying32 f4
    match ys, hyl with
    | [y0, y1], _ =>
      have g0 := fld hg 0 3 0 rfl
      have g1 := fld hg 1 2 1 rfl
      simp only [k3] at g0
      simp only [k2] at g1
      obtain ⟨n4, q4, _⟩ := DataW.trod_int Try.underlying3 g0
      obtain ⟨n5, q5, _, w5⟩ := DataW.trod_int Try.underlying2 g1
      obtain ⟨r, q7, _⟩ := DataW.trod_bool Try.underlying4 f6
      obtain rfl : c0 = .int .i64 n0 := by simpa using q0
      obtain rfl : c1 = .int .i64 n1 := by simpa using q1
      obtain rfl : c2 = .int .i64 n2 := by simpa using q2
      obtain rfl : c3 = .int .i64 n3 := by simpa using q3
      obtain rfl : c4 = .int .i64 n4 := by simpa using q4
      obtain rfl : c5 = .int .i64 n5 := by simpa using q5
      obtain rfl : c7 = .bool r := by simpa using q7
      obtain ⟨us, au, lu, ru⟩ := wat_of_trod (v := c6) (by simpa using f5) (wf 5 _ _ rfl rfl)
      exact ⟨⟨n0, n1, n2, n3, n4, n5, c6, us, r⟩, rfl, au, ru, wf64 w3, wf64 w5, lu⟩

theorem acts_of_trod {fuel : Nat} {v : Value} {x : DataW H × List MemPlace} (h : DataW.trod enc Try.prog W 0 sp hd fuel 25 [v] = some x) (hw : ∀ n ∈ x.1.weights Try.prog 25, n ≤ reachBytes) :
    ∃ xs, ActsH W v xs ∧ xs.length ≤ 1000000000000000 := by
  rcases open_slice Try.underlying25 h with ⟨h0, _⟩ | ⟨a, len, cap, m, n, D, Pl, h0, _, hlc, hcm, hm, hxx, hx⟩
  · cases h0
    exact ⟨[], ⟨none, 0, rfl, fun h => by simp at h, fun x hx => by simp at hx⟩, by simp⟩
  · cases h0
    have hlm : len ≤ m := by rw [hm]; split <;> omega
    have k8 : Try.prog.cellsOf 35 = 8 := by kernel_rfl
    rw [hxx] at hw
    have hle : len * 80 ≤ 140737488351232 := by
      have h1 := hw _ (by simp only [DataW.weights, Try.underlying25]; exact List.mem_cons_self ..)
      rw [bytesAct, List.length_map, List.length_map, List.length_range, List.length_range] at h1
      have h2 : reachBytes = 140737488351232 := by decide
      rw [h2] at h1
      exact Nat.le_trans (Nat.mul_le_mul_right _ (Nat.le_add_right _ _)) h1
    have hacts : ∀ i, i < len → ∃ y : ActH, W.cells? 0 (a.add (i * 8)) 8 = some y.cells ∧ ActHOk W y := by
      intro i hi
      obtain ⟨cs', h1, h2⟩ := hx i (by omega)
      rw [k8] at h1
      obtain ⟨y, rfl, hy⟩ := act_of_trod h2 (fun k hk => hw k (by
        simp only [DataW.weights, Try.underlying25]
        refine List.mem_cons_of_mem _ (List.mem_append_left _ ?_)
        exact weights_mem_all (List.mem_map.2 ⟨i, List.mem_range.2 hi, rfl⟩) hk))
      exact ⟨y, h1, hy⟩
    obtain ⟨q, hq⟩ := choose_lt (α := ActH) hacts
    refine ⟨(List.range len).map q, ⟨some a, cap, by simp, fun hl => ?_, fun x hx => ?_⟩, by simp; omega⟩
    · have hl0 : 0 < len := by simpa using hl
      have h00 := (World.cells?_some (hq 0 hl0).1).2.2 0 (by omega)
      rw [Nat.zero_mul] at h00
      have h01 : W.cell? (a.add 0) = some (.int .i64 (q 0).k) := by simpa [Addr.add, ActH.cells] using h00
      obtain ⟨b, o, rfl, hb⟩ := addr_at h01
      refine ⟨b, o, rfl, hb, fun i x hx j c hc => ?_⟩
      obtain ⟨hi, rfl⟩ : i < len ∧ q i = x := by
        rw [List.getElem?_map] at hx
        rcases Nat.lt_or_ge i len with hi | hi
        · rw [List.getElem?_range hi] at hx
          exact ⟨hi, by simpa using hx⟩
        · rw [List.getElem?_eq_none (by simpa using hi)] at hx
          simp at hx
      have hj : j < 8 := by
        have := (List.getElem?_eq_some_iff.1 hc).1
        simpa [ActH.cells] using this
      have := (World.cells?_some (hq i hi).1).2.2 j hj
      rw [hc, add_add, add_eq] at this
      rw [Nat.add_assoc]
      exact this
    · obtain ⟨i, hi, rfl⟩ := List.mem_map.1 hx
      exact (hq i (List.mem_range.1 hi)).2

end
end Go.Proofs.Ytlmljommgmbckaa
