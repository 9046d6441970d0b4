/- The numbering of objects in memory: a map from places to numbers, a queue of places; laws on both. -/
import Derived.Test.YtlmljommgmbckaaHsF
import Derived.Test.YtlmljommgmbckaaHsD
import Derived.ArgAppend
namespace Go.Proofs.Ytlmljommgmbckaa
open Go.RowKit

def numE (l : List Int) : List (Value × Value) := (l.zipIdx 1).map fun p => (Value.int .i64 p.1, Value.int .i64 (p.2 : Int))
theorem numE_snoc (l : List Int) (a : Int) : numE (l ++ [a]) = numE l ++ [(Value.int .i64 a, Value.int .i64 ((l.length : Int) + 1))] := by
  unfold numE
  rw [List.zipIdx_append, List.map_append]
  simp
  omega
theorem numE_len (l : List Int) : (numE l).length = l.length := by simp [numE]
theorem numE_get (l : List Int) (i : Nat) (h : i < l.length) : (numE l)[i]? = some (.int .i64 l[i], .int .i64 ((i : Int) + 1)) := by
  unfold numE
  rw [List.getElem?_map, List.getElem?_zipIdx, List.getElem?_eq_getElem h]
  simp
  omega
/-- A map from places to their numbers, from 1 on. -/
def NumsAt (W : World) (m : Nat) (l : List Int) : Prop :=
  ∃ ms ck, W.heap[m]? = some (.map ms ck) ∧ ms.toList.map (fun e => (e.key, e.val)) = numE l
theorem NumsAt.of_same {W W' : World} {m : Nat} {l : List Int} (h : NumsAt W m l) (he : W'.heap[m]? = W.heap[m]?) : NumsAt W' m l := by
  obtain ⟨ms, ck, h1, h2⟩ := h
  exact ⟨ms, ck, he.trans h1, h2⟩
theorem NumsAt.lt {W : World} {m : Nat} {l : List Int} (h : NumsAt W m l) : m < W.heap.size := by
  obtain ⟨ms, ck, h1, _⟩ := h
  exact (Array.getElem?_eq_some_iff.1 h1).1
theorem NumsAt.size {W : World} {m : Nat} {l : List Int} (h : NumsAt W m l) : ∃ ms ck, W.heap[m]? = some (.map ms ck) ∧ ms.size = l.length := by
  obtain ⟨ms, ck, h1, h2⟩ := h
  refine ⟨ms, ck, h1, ?_⟩
  have := congrArg List.length h2
  rw [List.length_map, numE_len] at this
  simpa using this
theorem nums_mem {ms : List MapEntry} {l : List Int} (h : ms.map (fun e => (e.key, e.val)) = numE l) {m : MapEntry} (hm : m ∈ ms) : ∃ i, ∃ hi : i < l.length, m.key = .int .i64 l[i] ∧ m.val = .int .i64 ((i : Int) + 1) := by
  obtain ⟨i, hi, rfl⟩ := List.getElem_of_mem hm
  have hl : i < l.length := by
    have := congrArg List.length h
    rw [List.length_map, numE_len] at this
    omega
  refine ⟨i, hl, ?_⟩
  have e := numE_get l i hl
  rw [← h, List.getElem?_map, List.getElem?_eq_getElem hi] at e
  simpa using e
theorem nums_none {ms : List MapEntry} {l : List Int} (h : ms.map (fun e => (e.key, e.val)) = numE l) {a : Int} (ha : a ∉ l) : Instr.findNow (.int .i64) (.int .i64 a) ms 0 = some none := by
  refine Ev.findNow_none fun m hm => ?_
  obtain ⟨i, hi, e, _⟩ := nums_mem h hm
  rw [e, same_int]
  have : a ≠ l[i] := fun q => ha (q ▸ List.getElem_mem _)
  simp [this]
theorem nums_some {ms : List MapEntry} {l : List Int} (h : ms.map (fun e => (e.key, e.val)) = numE l) (hn : l.Nodup) {a : Int} (ha : a ∈ l) : ∃ j, Instr.findNow (.int .i64) (.int .i64 a) ms 0 = some (some (j, .int .i64 ((l.idxOf a : Int) + 1))) := by
  have hs := Ev.findNow_some (d := .int .i64) (x := .int .i64 a) (R := fun v => v = .int .i64 ((l.idxOf a : Int) + 1)) (ms := ms) (i := 0) (fun m hm => by
    obtain ⟨i, hi, e, e2⟩ := nums_mem h hm
    rw [e, e2, same_int]
    by_cases q : a = l[i]
    · refine .inr ⟨by simp [q], ?_⟩
      rw [q, hn.idxOf_getElem]
    · exact .inl (by simp [q])) (by
    obtain ⟨i, hi, rfl⟩ := List.getElem_of_mem ha
    have hl : i < ms.length := by
      have := congrArg List.length h
      rw [List.length_map, numE_len] at this
      omega
    refine ⟨ms[i], List.getElem_mem _, ?_⟩
    have e := numE_get l i hi
    rw [← h, List.getElem?_map, List.getElem?_eq_getElem hl] at e
    have e1 : ms[i].key = .int .i64 l[i] := by simpa using congrArg (fun o => o.map Prod.fst) e
    rw [e1, same_int]
    simp)
  obtain ⟨j, y, k1, rfl⟩ := hs
  exact ⟨j, k1⟩
theorem nums_lookup {w : World} {m : Nat} {l : List Int} (h : NumsAt w m l) (hn : l.Nodup) (a : Int) : (Instr.lookup 84 (.map (some m)) (.int .i64 a) true).run Try.prog w = .ok (.tuple #[.int .i64 (if a ∈ l then (l.idxOf a : Int) + 1 else 0), .bool (decide (a ∈ l))]) w := by
  obtain ⟨ms, ck, h1, h2⟩ := h
  by_cases ha : a ∈ l
  · obtain ⟨j, k1⟩ := nums_some h2 hn ha
    simp only [Instr.lookup, Sem.run_bind, run_underlying Try.underlying84, Result.andThen_ok, Ev.run_getMap h1, Sem.run_pure, Ev.run_checkKey keyD]
    simp [Ev.run_findKey keyD k1, ha]
  · simp only [Instr.lookup, Sem.run_bind, run_underlying Try.underlying84, Result.andThen_ok, Ev.run_getMap h1, Sem.run_pure, Ev.run_checkKey keyD]
    simp [Ev.run_findKey keyD (nums_none h2 ha), ha, Try.zeroValue3]
theorem nums_put {w : World} {m : Nat} {l : List Int} (h : NumsAt w m l) {k : Int} (hn : k ∉ l) : ∃ w', (Instr.mapUpdate 84 (.map (some m)) (.int .i64 k) (.int .i64 ((l.length : Int) + 1))).run Try.prog w = .ok () w' ∧ Only m w w' ∧ NumsAt w' m (l ++ [k]) := by
  obtain ⟨ms, ck, h1, h2⟩ := h
  have hlt := (Array.getElem?_eq_some_iff.1 h1).1
  refine ⟨{ w with heap := w.heap.setIfInBounds m (.map (ms.push { key := .int .i64 k, val := .int .i64 ((l.length : Int) + 1), born := ck }) (ck + 1)) }, ?_, ⟨rfl, rfl, rfl, by simp, fun j hj => ?_⟩, ⟨_, _, Array.getElem?_setIfInBounds_self_of_lt hlt, ?_⟩⟩
  · simp [Instr.mapUpdate, run_underlying Try.underlying84, Ev.run_getMap h1, Ev.run_checkKey keyD, Ev.run_findKey keyD (nums_none h2 hn), Ev.run_setMap h1]
  · exact Array.getElem?_setIfInBounds_ne (fun e => hj e.symm)
  · rw [Array.toList_push, List.map_append, h2, numE_snoc]; rfl

/-- A queue of places: a slice, wherever it begins in its block. -/
def QAt (W : World) (v : Value) (xs : List Int) : Prop :=
  (v = .slice none 0 0 ∧ xs = []) ∨ ∃ q off c arr, v = .slice (some ⟨q, off, none⟩) xs.length c ∧ xs.length ≤ c ∧ off + c ≤ arr.size ∧ W.heap[q]? = some (.cells arr 2 (0, 0)) ∧ ∀ j x, xs[j]? = some x → arr[off + j]? = some (.int .i64 x)
theorem QAt.on {W W' : World} {v : Value} {xs : List Int} (h : QAt W v xs) (he : ∀ k, v.ownBlock = some k → W'.heap[k]? = W.heap[k]?) : QAt W' v xs := by
  rcases h with h | ⟨q, off, c, arr, rfl, h1, h2, h3, h4⟩
  · exact .inl h
  · exact .inr ⟨q, off, c, arr, rfl, h1, h2, (he q rfl).trans h3, h4⟩
theorem QAt.lt {W : World} {v : Value} {xs : List Int} (h : QAt W v xs) : ∀ k, v.ownBlock = some k → k < W.heap.size := by
  intro k hk
  rcases h with ⟨rfl, _⟩ | ⟨q, off, c, arr, rfl, h1, h2, h3, h4⟩
  · cases hk
  · cases hk
    exact (Array.getElem?_eq_some_iff.1 h3).1
theorem QAt.shape {W : World} {v : Value} {xs : List Int} (h : QAt W v xs) : ∃ p c, v = .slice p xs.length c := by
  rcases h with ⟨rfl, rfl⟩ | ⟨q, off, c, arr, rfl, _⟩
  · exact ⟨none, 0, rfl⟩
  · exact ⟨_, _, rfl⟩
theorem QAt.head {W : World} {v : Value} {x : Int} {xs : List Int} (h : QAt W v (x :: xs)) : ∃ q off c, v = .slice (some ⟨q, off, none⟩) (xs.length + 1) c ∧ W.cell? ⟨q, off, none⟩ = some (.int .i64 x) ∧ xs.length + 1 ≤ c ∧ QAt W (.slice (some ⟨q, off + 1, none⟩) xs.length (c - 1)) xs := by
  rcases h with ⟨_, h⟩ | ⟨q, off, c, arr, rfl, h1, h2, h3, h4⟩
  · cases h
  · rw [List.length_cons] at h1
    refine ⟨q, off, c, rfl, ?_, h1, .inr ⟨q, off + 1, c - 1, arr, rfl, by omega, by omega, h3, fun j y hj => ?_⟩⟩
    · have := h4 0 x rfl
      unfold World.cell?
      rw [h3]
      simpa using this
    · rw [show off + 1 + j = off + (j + 1) by omega]
      exact h4 (j + 1) y hj
theorem infoI : (Try.prog.info? 2).map (fun i => (i.zero, i.size, i.bytes)) = some (some (.int .i64 0), 1, 8) := by kernel_rfl
theorem QAt.push {W : World} {v : Value} {xs : List Int} (h : QAt W v xs) (ty : TypeId) (nb c1 : Nat) (a : Int) (hnb : W.cell? ⟨nb, 0, none⟩ = some (.int .i64 a)) (hl : xs.length ≤ 100000000) :
    ∃ v' w', (Builtin.append_ #[64, 64] ty #[v, .slice (some ⟨nb, 0, none⟩) 1 c1]).run Try.prog W = .ok v' w' ∧ QAt w' v' (xs ++ [a]) ∧ W.grownBy w' v.ownBlock ∧ (v'.ownBlock = v.ownBlock ∨ ∃ g, v'.ownBlock = some g ∧ W.heap.size ≤ g) := by
  obtain ⟨i0, hi, hz0, hz1, hz2⟩ := info_parts infoI
  have hnews : ∀ j u, [Value.int .i64 a][j]? = some u → W.cell? ((⟨nb, 0, none⟩ : Addr).add j) = some u := by
    intro j u hj
    cases j with
    | zero => simp at hj; subst hj; simpa [Addr.add] using hnb
    | succ j => simp at hj
  have hone : ∀ u ∈ [Value.int .i64 a], u.oneCell' = true := by intro u hu; simp at hu; subst hu; rfl
  have tt : Try.prog.underlying 64 = some (.slice 2) := Try.underlying64
  have own_q : ∀ (w' : World) (v' : Value) (n : Nat) (olds : List Value), olds = xs.map (fun x => Value.int .i64 x) → n = xs.length → w'.ownsRow W.heap.size 2 1 v' (n + 1) (olds ++ [Value.int .i64 a]) → QAt w' v' (xs ++ [a]) ∧ ∃ g, v'.ownBlock = some g ∧ W.heap.size ≤ g := by
    intro w' v' n olds ho hn r
    subst hn
    subst ho
    rcases r.2 with ⟨rfl, h0⟩ | ⟨g, cap, cur, rfl, hg, hb, hc, _, hsz, htk⟩
    · omega
    · refine ⟨.inr ⟨g, 0, cap, cur, by simp, by simpa using hc, by omega, hb, fun j x hj => ?_⟩, g, rfl, hg⟩
      rw [Nat.zero_add, ← Array.getElem?_toList]
      have hjl : j < xs.length + 1 := by
        rcases Nat.lt_or_ge j (xs ++ [a]).length with q | q
        · simpa using q
        · rw [List.getElem?_eq_none q] at hj; cases hj
      have e : (cur.toList.take ((xs.length + 1) * 1))[j]? = cur.toList[j]? := by rw [List.getElem?_take, if_pos (by omega)]
      rw [← e, htk, show xs.map (fun x => Value.int .i64 x) ++ [Value.int .i64 a] = (xs ++ [a]).map (fun x => Value.int .i64 x) by simp, List.getElem?_map, hj]
      rfl
  rcases h with ⟨rfl, rfl⟩ | ⟨q, off, c, arr, rfl, h1, h2, h3, h4⟩
  · obtain ⟨v', w', hrun, r1, r2, _⟩ := run_append_own (P := Try.prog) W W.heap.size 64 ty 2 i0 (.int .i64 0) 1 8 tt hi hz0 hz1 hz2 rfl (by decide) (.slice none 0 0) 0 [] (World.ownsRow_nil W _ _ _) ⟨nb, 0, none⟩ 1 c1 [.int .i64 a] rfl hnews hone (by unfold maxLen; omega) (by omega) (Nat.le_refl _)
    obtain ⟨k1, g, k2, k3⟩ := own_q w' v' 0 [] rfl rfl r1
    exact ⟨v', w', hrun, k1, r2, .inr ⟨g, k2, k3⟩⟩
  · have hcell : ∀ j, W.cell? ⟨q, j, none⟩ = arr[j]? := fun j => by unfold World.cell?; rw [h3]; rfl
    have hfree : ∀ j, W.frozen? ⟨q, j, none⟩ = false := fun j => by unfold World.frozen?; rw [h3]; simp
    have hqs := (Array.getElem?_eq_some_iff.1 h3).1
    by_cases hr : xs.length + 1 ≤ c
    · have hrun := run_append_room_cells (P := Try.prog) W 64 ty 2 i0 tt hi q off xs.length c ⟨nb, 0, none⟩ 1 c1 [.int .i64 a] (by rw [hz1]; rfl) hnews hone hr (fun j hj => by
        rw [hcell, hz1]
        simp at hj
        subst hj
        rw [Array.getElem?_eq_getElem (by omega)]
        rfl) (fun j hj => hfree _)
      rw [hz1] at hrun
      refine ⟨_, _, hrun, .inr ⟨q, off, c, arr.setIfInBounds (off + xs.length * 1) (.int .i64 a), by simp, by simpa using hr, by simpa using h2, heap_setAt h3 _, fun j x hj => ?_⟩, ?_, .inl rfl⟩
      · rcases Nat.lt_or_ge j xs.length with hjl | hjl
        · rw [Array.getElem?_setIfInBounds_ne (by omega)]
          rw [List.getElem?_append_left hjl] at hj
          exact h4 j x hj
        · have e : j = xs.length := by
            rcases Nat.lt_or_ge j (xs ++ [a]).length with q | q
            · simp at q; omega
            · rw [List.getElem?_eq_none q] at hj; cases hj
          subst e
          rw [List.getElem?_append_right (Nat.le_refl _)] at hj
          simp at hj
          subst hj
          rw [Nat.mul_one, Array.getElem?_setIfInBounds_self_of_lt (by omega)]
      · exact ⟨rfl, rfl, rfl, by simp [World.setCells, World.setCell], fun k hk hne => Below.heap_setCell _ _ _ _ (fun e => hne (by rw [e]; rfl))⟩
    · obtain ⟨v', w', hrun, r1, r2⟩ := run_append_arg_grows (P := Try.prog) W 64 ty 2 i0 (.int .i64 0) 1 8 tt hi hz0 hz1 hz2 rfl (by decide) ⟨q, off, none⟩ xs.length c (xs.map fun x => .int .i64 x) (by simp) (fun j u hj => by
        rw [Addr.add_lit, hcell]
        rw [List.getElem?_map] at hj
        cases hx : xs[j]? with
        | none => rw [hx] at hj; cases hj
        | some x => rw [hx] at hj; simp at hj; subst hj; exact h4 j x hx) ⟨nb, 0, none⟩ 1 c1 [.int .i64 a] rfl hnews (by omega) (by unfold maxLen; omega) (by omega)
      obtain ⟨k1, g, k2, k3⟩ := own_q w' v' xs.length _ rfl rfl r1
      exact ⟨v', w', hrun, k1, ⟨r2.os, r2.tape, r2.output, r2.size, fun k hk _ => r2.block k hk (by simp)⟩, .inr ⟨g, k2, k3⟩⟩

end Go.Proofs.Ytlmljommgmbckaa
