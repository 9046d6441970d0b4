/- What a law gets as an expression is one: opened by induction on the fuel. -/
import Derived.Test.YtkcgchpflppmnaaOcA
import Derived.Test.YtkcgchpflppmnaaProg
import Derived.Deep.Slices
import Derived.Deep.Fields
import Derived.ChangeArms
import Derived.SizedLaws
import Derived.Deep.Strs
import Derived.ChangeShapes
namespace Go.Proofs.Ytkcgchpflppmnaa
open Go.RowKit Go.Deep Go.ChangeShapes
set_option linter.unusedSimpArgs false
set_option linter.unusedVariables false

theorem list_of {β : Type} : ∀ (n : Nat) {p : Nat → β → Prop}, (∀ i, i < n → ∃ x, p i x) → ∃ l : List β, l.length = n ∧ ∀ i x, l[i]? = some x → p i x
  | 0, _, _ => ⟨[], rfl, fun i x h => by simp at h⟩
  | n + 1, p, h => by
    obtain ⟨l, hl, hp⟩ := list_of n (fun i hi => h i (by omega))
    obtain ⟨x, hx⟩ := h n (by omega)
    refine ⟨l ++ [x], by simp [hl], fun i y hy => ?_⟩
    rcases Nat.lt_or_ge i n with hi | hi
    · rw [List.getElem?_append_left (by omega)] at hy
      exact hp i y hy
    · rw [List.getElem?_append_right (by omega)] at hy
      have : i - l.length < 1 := by
        have := (List.getElem?_eq_some_iff.1 hy).1
        simpa using this
      obtain rfl : i = n := by omega
      rw [hl, Nat.sub_self] at hy
      cases hy
      exact hx

section
variable {H : Type} {enc : TypeId × Value → H} {W : World} {sp : Nat → Bool} {hd : Bool}

theorem add_eq (b o j : Nat) : (⟨b, o, none⟩ : Addr).add j = ⟨b, o + j, none⟩ := by
  unfold Addr.add
  split
  · next h => subst h; rfl
  · rfl
theorem addr_at {a : Addr} {v : Value} (h : W.cell? (a.add 0) = some v) : ∃ b o, a = ⟨b, o, none⟩ ∧ b < W.heap.size := by
  have h0 : W.cell? a = some v := by simpa [Addr.add] using h
  have h1 := World.cell?_spot h0
  obtain ⟨b, o, s⟩ := a
  simp only at h1
  subst h1
  exact ⟨b, o, rfl, World.block_lt_of_cell? W ⟨b, o, none⟩ h0⟩
theorem weights_mem_all {P : Program} {e : TypeId} : ∀ {l : List (DataW H)} {d : DataW H} {n : Nat}, d ∈ l → n ∈ d.weights P e → n ∈ DataW.weightsAll P e l
  | d0 :: l, d, n, hd, hn => by
    simp only [DataW.weightsAll, List.mem_append]
    rcases List.mem_cons.1 hd with rfl | hd
    · exact .inl hn
    · exact .inr (weights_mem_all hd hn)
abbrev Fits (P : Program) (t : TypeId) (d : DataW H) : Prop := ∀ k ∈ d.weights P t, k ≤ reachBytes
/-- A slice's elements, one by one. -/
theorem sl_of_trod {β : Type} {P : Program} {t e : TypeId} {sz fuel : Nat} {cs : List Value} {x : DataW H × List MemPlace} {R : Nat → Nat → β → Prop} {Q : β → Prop} (ht : P.underlying t = some (.slice e)) (hz : P.cellsOf e = sz) (hp : 0 < sz)
    (h : DataW.trod enc P W 0 sp hd fuel t cs = some x) (hw : Fits P t x.1)
    (hel : ∀ n cs y, n + 1 = fuel → cs.length = sz → DataW.trod enc P W 0 sp hd n e cs = some y → Fits P e y.1 → ∃ z, Q z ∧ ∀ b o, CellsAt W b o cs → R b o z) :
    ∃ v l, cs = [v] ∧ SlAt W sz R v l ∧ l.length * P.bytesOf e ≤ reachBytes ∧ ∀ z ∈ l, Q z := by
  rcases DataW.trod_slice ht h with ⟨h0, _⟩ | ⟨a, len, cap, elems, rest, n, hn, h0, hxx, _, hlc, hcm, hlen, hx, _, _⟩
  · exact ⟨_, [], h0, ⟨none, 0, rfl, fun h => by simp at h⟩, by simp, fun z hz => by cases hz⟩
  · have hwx : ∀ k ∈ (elems.length + rest.length) * P.bytesOf e :: (DataW.weightsAll P e (elems.map (·.1)) ++ DataW.weightsAll P e (rest.map (·.1))), k ≤ reachBytes := by
      intro k hk
      refine hw k ?_
      rw [hxx]
      simp only [DataW.weights, ht, List.length_map]
      exact hk
    have hone : ∀ i, i < len → ∃ z : β, ∃ cs', W.cells? 0 (a.add (i * sz)) sz = some cs' ∧ Q z ∧ ∀ b o, CellsAt W b o cs' → R b o z := by
      intro i hi
      have hi' := hx i hi
      rw [hz, List.getElem?_eq_getElem (by omega), Option.bind_eq_some_iff] at hi'
      obtain ⟨cs', h1, h2⟩ := hi'
      obtain ⟨z, hq, hr⟩ := hel n cs' _ hn.symm (World.cells?_some h1).2.1 h2 (fun k hk => hwx k (List.mem_cons_of_mem _ (List.mem_append_left _ (weights_mem_all (List.mem_map_of_mem (List.getElem_mem (by omega))) hk))))
      exact ⟨z, cs', h1, hq, hr⟩
    obtain ⟨l, hl, hp'⟩ := list_of len hone
    refine ⟨_, l, h0, ⟨some a, cap, by rw [hl], fun h0 => ?_⟩, ?_, fun z hz => ?_⟩
    · have hl0 : 0 < l.length := h0
      obtain ⟨cs', h1, _, _⟩ := hp' 0 l[0] (List.getElem?_eq_getElem hl0)
      have h00 := (World.cells?_some h1).2.2 0 hp
      have hcl := (World.cells?_some h1).2.1
      rw [Nat.zero_mul, List.getElem?_eq_getElem (by omega)] at h00
      have h01 : W.cell? (a.add 0) = some cs'[0] := by simpa [Addr.add] using h00
      obtain ⟨b, o, rfl, hb⟩ := addr_at h01
      refine ⟨b, o, rfl, hb, fun i x hx => ?_⟩
      obtain ⟨cs2, k1, _, k3⟩ := hp' i x hx
      refine k3 b _ fun j c hj => ?_
      have hjl : j < sz := by
        have := (List.getElem?_eq_some_iff.1 hj).1
        have := (World.cells?_some k1).2.1
        omega
      have := (World.cells?_some k1).2.2 j hjl
      rw [add_eq, add_eq, hj] at this
      exact this
    · have := hwx _ (List.mem_cons_self ..)
      exact Nat.le_trans (Nat.mul_le_mul_right _ (by omega)) this
    · obtain ⟨i, hi⟩ := List.mem_iff_getElem?.1 hz
      obtain ⟨_, _, hq, _⟩ := hp' i z hi
      exact hq
theorem fldP {P : Program} {fs : Array Field} {cs : List Value} {xs : List (DataW H × List MemPlace)} {m : Nat} (hf : ∀ (i : Nat) (f : Field), fs[i]? = some f → DataW.trod enc P W 0 sp hd m f.type ((cs.drop f.offset).take (P.cellsOf f.type)) = xs[i]?)
    (i : Nat) (t : TypeId) (o : Nat) (h : (fs[i]?).map (fun f => (f.type, f.offset)) = some (t, o)) : DataW.trod enc P W 0 sp hd m t ((cs.drop o).take (P.cellsOf t)) = xs[i]? := by
  rcases hi : fs[i]? with _ | f
  · rw [hi] at h; simp at h
  · rw [hi] at h
    simp only [Option.map_some, Option.some.injEq, Prod.mk.injEq] at h
    obtain ⟨rfl, rfl⟩ := h
    exact hf i f hi
theorem fldW {P : Program} {t : TypeId} {fs : Array Field} {xs : List (DataW H × List MemPlace)} {x : DataW H × List MemPlace} (ht : P.underlying t = some (.struct fs)) (hx : x = (.agg (xs.map (·.1)), xs.flatMap (·.2))) (hw : Fits P t x.1)
    (i : Nat) (u : TypeId) (h : (fs.toList.map (·.type))[i]? = some u) (y : DataW H × List MemPlace) (hy : xs[i]? = some y) : Fits P u y.1 := by
  intro k hk
  refine hw k ?_
  rw [hx]
  simp only [DataW.weights, ht]
  exact DataW.weights_mem_each (j := i) h (by rw [List.getElem?_map, hy]; rfl) k hk

/-- What is bounded by what memory can hold. -/
def TxB (l : List ByteArray) : Prop := l.length ≤ 10000000000000 ∧ ∀ s ∈ l, s.size ≤ reachBytes
def Bd : (d : Nat) → Ex d → Prop
  | 0, e => nomatch (e : Empty)
  | d + 1, (e : ExN (Ex d)) => e.name.size ≤ reachBytes ∧ TxB e.params ∧ (e.binds.length ≤ 10000000000000 ∧ ∀ x ∈ e.binds, x.1.size ≤ reachBytes ∧ Bd d x.2) ∧ (e.args.length ≤ 10000000000000 ∧ ∀ x ∈ e.args, Bd d x) ∧
      (e.alts.length ≤ 10000000000000 ∧ ∀ x ∈ e.alts, x.name.size ≤ reachBytes ∧ TxB x.vars ∧ Bd d x.e)
theorem cellsEx : Try.prog.cellsOf 29 = 7 := by kernel_rfl
theorem cellsBind : Try.prog.cellsOf 56 = 8 := by kernel_rfl
theorem cellsAlt : Try.prog.cellsOf 52 = 11 := by kernel_rfl
theorem cellsInt : Try.prog.cellsOf 3 = 1 := by kernel_rfl
theorem cellsI64 : Try.prog.cellsOf 2 = 1 := by kernel_rfl
theorem cellsStr : Try.prog.cellsOf 9 = 1 := by kernel_rfl
theorem cellsTxs : Try.prog.cellsOf 24 = 1 := by kernel_rfl
theorem cellsBs : Try.prog.cellsOf 25 = 1 := by kernel_rfl
theorem cellsEs : Try.prog.cellsOf 26 = 1 := by kernel_rfl
theorem cellsAs : Try.prog.cellsOf 27 = 1 := by kernel_rfl
theorem bytesStr : Try.prog.bytesOf 9 = 16 := by kernel_rfl
theorem bytesEx : 16 ≤ Try.prog.bytesOf 29 := of_decide_eq_true (by kernel_rfl)
theorem bytesBind : 16 ≤ Try.prog.bytesOf 56 := of_decide_eq_true (by kernel_rfl)
theorem bytesAlt : 16 ≤ Try.prog.bytesOf 52 := of_decide_eq_true (by kernel_rfl)
theorem len_of {n k : Nat} (hk : 16 ≤ k) (h : n * k ≤ reachBytes) : n ≤ 10000000000000 := by
  have h1 : n * 16 ≤ reachBytes := Nat.le_trans (Nat.mul_le_mul_left _ hk) h
  have h2 : reachBytes = 140737488351232 := by decide
  rw [h2] at h1
  omega
theorem str_of_trod {fuel : Nat} {cs : List Value} {x : DataW H × List MemPlace} (h : DataW.trod enc Try.prog W 0 sp hd fuel 9 cs = some x) (hw : Fits Try.prog 9 x.1) : ∃ s : ByteArray, cs = [.string s] ∧ s.size ≤ reachBytes := by
  obtain ⟨s, q, hx, _⟩ := DataW.trod_string Try.underlying9 h
  refine ⟨s, q, ?_⟩
  have := hw s.data.toList.length (by rw [hx]; simp [DataW.weights])
  simpa using this
theorem txs_of_trod {fuel : Nat} {cs : List Value} {x : DataW H × List MemPlace} (h : DataW.trod enc Try.prog W 0 sp hd fuel 24 cs = some x) (hw : Fits Try.prog 24 x.1) : ∃ v l, cs = [v] ∧ Txs W v l ∧ TxB l := by
  obtain ⟨v, l, h1, h2, h3, h4⟩ := sl_of_trod (β := ByteArray) (R := fun b o s => W.cell? ⟨b, o, none⟩ = some (.string s)) (Q := fun s => s.size ≤ reachBytes) Try.underlying24 cellsStr (by omega) h hw (fun n cs y _ _ hy hwy => by
    obtain ⟨s, rfl, hs⟩ := str_of_trod hy hwy
    exact ⟨s, hs, fun b o hc => by simpa using hc 0 _ rfl⟩)
  exact ⟨v, l, h1, h2, len_of (Nat.le_of_eq bytesStr.symm) h3, h4⟩
end
end Go.Proofs.Ytkcgchpflppmnaa
