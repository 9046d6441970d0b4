/- A set of texts: a map from texts to true. core: names that may be. core: which fault counts; noting one. Maps from texts, weakly: all keys are texts, all values are as they must be. core: whether a letter stands among the fields' letters. -/
import Derived.Test.YtkcgchpflppmnaaOcK
import Derived.Test.YtkcgchpflppmnaaEvS
import Derived.Test.YtkcgchpflppmnaaShelfC
namespace Go.Proofs.Ytkcgchpflppmnaa
open Go.RowKit
set_option linter.unusedSimpArgs false
set_option linter.unusedVariables false

theorem keyS : Ev.keyDesc Try.prog 9 = some .string := by kernel_rfl
theorem same_str (a b : ByteArray) : Instr.sameNow .string (.string a) (.string b) = some (a == b) := by simp [Instr.sameNow]
def setE (l : List ByteArray) : List (Value × Value) := l.map fun s => (Value.string s, Value.bool true)
def SSet (W : World) (m : Nat) (l : List ByteArray) : Prop := ∃ ms ck, W.heap[m]? = some (.map ms ck) ∧ ms.toList.map (fun e => (e.key, e.val)) = setE l
theorem SSet.lt {W : World} {m : Nat} {l : List ByteArray} (h : SSet W m l) : m < W.heap.size := by
  obtain ⟨ms, ck, h1, -⟩ := h; exact (Array.getElem?_eq_some_iff.1 h1).1
theorem SSet.of_same {W W' : World} {m : Nat} {l : List ByteArray} (h : SSet W m l) (he : W'.heap[m]? = W.heap[m]?) : SSet W' m l := by
  obtain ⟨ms, ck, h1, h2⟩ := h; exact ⟨ms, ck, he.trans h1, h2⟩
theorem set_mem {ms : List MapEntry} {l : List ByteArray} (h : ms.map (fun e => (e.key, e.val)) = setE l) {m : MapEntry} (hm : m ∈ ms) : ∃ s ∈ l, m.key = .string s ∧ m.val = .bool true := by
  have : (m.key, m.val) ∈ ms.map (fun e => (e.key, e.val)) := List.mem_map_of_mem (f := fun e : MapEntry => (e.key, e.val)) hm
  rw [h] at this
  obtain ⟨s, hs, e⟩ := List.mem_map.1 this
  simp only [Prod.mk.injEq] at e
  exact ⟨s, hs, e.1.symm, e.2.symm⟩
theorem set_none {ms : List MapEntry} {l : List ByteArray} (h : ms.map (fun e => (e.key, e.val)) = setE l) {a : ByteArray} (ha : a ∉ l) : Instr.findNow .string (.string a) ms 0 = some none := by
  refine Ev.findNow_none fun m hm => ?_
  obtain ⟨s, hs, e, -⟩ := set_mem h hm
  have hb : (a == s) = false := beq_eq_false_iff_ne.2 (fun q => ha (by rw [q]; exact hs))
  rw [e, same_str, hb]
theorem set_some {ms : List MapEntry} {l : List ByteArray} (h : ms.map (fun e => (e.key, e.val)) = setE l) {a : ByteArray} (ha : a ∈ l) : ∃ j, Instr.findNow .string (.string a) ms 0 = some (some (j, .bool true)) := by
  have hs := Ev.findNow_some (d := .string) (x := .string a) (R := fun v => v = .bool true) (ms := ms) (i := 0) (fun m hm => by
    obtain ⟨s, hs, e, e2⟩ := set_mem h hm
    rw [e, e2, same_str]
    by_cases q : a = s
    · subst q; exact .inr ⟨by simp, rfl⟩
    · have hb : (a == s) = false := beq_eq_false_iff_ne.2 q
      exact .inl (by rw [hb])) (by
    have : (Value.string a, Value.bool true) ∈ ms.map (fun e => (e.key, e.val)) := by rw [h]; exact List.mem_map_of_mem (f := fun s => (Value.string s, Value.bool true)) ha
    obtain ⟨m, hm, e⟩ := List.mem_map.1 this
    simp only [Prod.mk.injEq] at e
    refine ⟨m, hm, ?_⟩
    rw [e.1, same_str]; simp)
  obtain ⟨j, y, k1, rfl⟩ := hs
  exact ⟨j, k1⟩
theorem set_lookup {w : World} {m : Nat} {l : List ByteArray} (h : SSet w m l) (a : ByteArray) : (Instr.lookup 76 (.map (some m)) (.string a) false).run Try.prog w = .ok (.bool (decide (a ∈ l))) w := by
  obtain ⟨ms, ck, h1, h2⟩ := h
  by_cases ha : a ∈ l
  · obtain ⟨j, k1⟩ := set_some h2 ha
    simp only [Instr.lookup, Sem.run_bind, run_underlying Try.underlying76, Result.andThen_ok, Ev.run_getMap h1, Sem.run_pure, Ev.run_checkKey keyS]
    simp [Ev.run_findKey keyS k1, ha]
  · simp only [Instr.lookup, Sem.run_bind, run_underlying Try.underlying76, Result.andThen_ok, Ev.run_getMap h1, Sem.run_pure, Ev.run_checkKey keyS]
    simp [Ev.run_findKey keyS (set_none h2 ha), ha, Try.zeroValue4]
theorem same_bits (a : ByteArray) (n : Nat) : Instr.sameBits (n + 1) (.string a) (.string a) = true := by simp [Instr.sameBits]
theorem find_key {d : TypeDesc} {x y : Value} : ∀ {ms : List MapEntry} {i j : Nat}, Instr.findNow d x ms i = some (some (j, y)) → ∃ e, i ≤ j ∧ ms[j - i]? = some e ∧ Instr.sameNow d x e.key = some true
  | [], i, j, h => by simp [Instr.findNow] at h
  | m :: ms, i, j, h => by
    unfold Instr.findNow at h
    split at h
    · next h1 =>
      simp only [Option.some.injEq, Prod.mk.injEq] at h
      obtain ⟨rfl, -⟩ := h
      exact ⟨m, Nat.le_refl _, by simp, h1⟩
    · obtain ⟨e, h1, h2, h3⟩ := find_key h
      exact ⟨e, by omega, by rw [show j - i = (j - (i + 1)) + 1 by omega]; simpa using h2, h3⟩
    · cases h
/-- A text is put into the set. -/
theorem set_put {w : World} {m : Nat} {l : List ByteArray} (h : SSet w m l) (a : ByteArray) : ∃ w' l', (Instr.mapUpdate 76 (.map (some m)) (.string a) (.bool true)).run Try.prog w = .ok () w' ∧ w.grownBy w' (some m) ∧ SSet w' m l' ∧ (∀ x, x ∈ l' ↔ x = a ∨ x ∈ l) ∧ (l.Nodup → l'.Nodup) := by
  obtain ⟨ms, ck, h1, h2⟩ := h
  have hlt := (Array.getElem?_eq_some_iff.1 h1).1
  by_cases ha : a ∈ l
  · obtain ⟨j, k1⟩ := set_some h2 ha
    obtain ⟨e, -, he, hk⟩ := find_key k1
    obtain ⟨s, hs, e1, e2⟩ := set_mem h2 (List.mem_of_getElem? he)
    rw [e1, same_str] at hk
    have hsa : a = s := by simpa using hk
    subst hsa
    rw [Nat.sub_zero, Array.getElem?_toList] at he
    refine ⟨{ w with heap := w.heap.setIfInBounds m (.map (ms.modify j fun e => { e with key := .string a, val := .bool true }) ck) }, l, ?_, ⟨rfl, rfl, rfl, by simp, fun k hk hne => Array.getElem?_setIfInBounds_ne (fun e => hne (by rw [e]))⟩, ⟨_, _, Array.getElem?_setIfInBounds_self_of_lt hlt, ?_⟩, fun x => ⟨.inr, fun hx => hx.elim (fun e => e ▸ ha) id⟩, id⟩
    · simp [Instr.mapUpdate, run_underlying Try.underlying76, Ev.run_getMap h1, Ev.run_checkKey keyS, Ev.run_findKey keyS k1, Ev.run_setMap h1, Instr.keyThatStays, he, e1, same_bits]
    · rw [← h2]
      apply List.ext_getElem?
      intro i
      rw [List.getElem?_map, List.getElem?_map, Array.getElem?_toList, Array.getElem?_toList, Array.getElem?_modify]
      split
      · next hi =>
        subst hi
        rw [he]
        simp [e1, e2]
      · rfl
  · refine ⟨{ w with heap := w.heap.setIfInBounds m (.map (ms.push { key := .string a, val := .bool true, born := ck }) (ck + 1)) }, l ++ [a], ?_, ⟨rfl, rfl, rfl, by simp, fun k hk hne => Array.getElem?_setIfInBounds_ne (fun e => hne (by rw [e]))⟩, ⟨_, _, Array.getElem?_setIfInBounds_self_of_lt hlt, ?_⟩, fun x => by simp [or_comm], fun hn => ?_⟩
    · simp [Instr.mapUpdate, run_underlying Try.underlying76, Ev.run_getMap h1, Ev.run_checkKey keyS, Ev.run_findKey keyS (set_none h2 ha), Ev.run_setMap h1]
    · rw [Array.toList_push, List.map_append, h2]
      unfold setE
      rw [List.map_append]; rfl
    · rw [List.nodup_append]
      refine ⟨hn, by simp, ?_⟩
      intro x hx y hy
      simp at hy
      subst hy
      exact fun e => ha (e ▸ hx)
end Go.Proofs.Ytkcgchpflppmnaa

namespace Go.Proofs.Ytkcgchpflppmnaa
open Go.RowKit
set_option linter.unusedSimpArgs false
set_option linter.unusedVariables false

/-- Some truth value, and nothing below is changed. -/
def SomeBool (w : World) (e : Ending) (w' : World) : Prop := ∃ b, e = .returned (.bool b) ∧ Below w.heap.size w w'
theorem SomeBool.mk {w w' : World} {e : Ending} {b : Bool} (h : e = .returned (.bool b)) (hb : Below w.heap.size w w') : SomeBool w e w' := ⟨b, h, hb⟩
set_option maxRecDepth 100000 in
set_option maxHeartbeats 8000000 in
theorem named_any (s : ByteArray) (w : World) (hs : s.size ≤ 1000000000000000) :
    Calls Try.prog 54 #[.string s] w fun e w' => SomeBool w e w' := by
  by_cases h1 : s.size < 1
  · have d1 : decide ((s.size : Int) < 1) = true := by simp; omega
    go_enter Try.func54, Try.ntmps54
    go_wp2
    go_ret
    exact SomeBool.mk (b := false) rfl (Below.refl _ _)
  have d1 : decide ((s.size : Int) < 1) = false := by simp; omega
  by_cases h2 : 65536 < s.size
  · have d2 : decide ((65536 : Int) < (s.size : Int)) = true := by simp; omega
    go_enter Try.func54, Try.ntmps54
    go_wp2
    go_ret
    exact SomeBool.mk (b := false) rfl (Below.refl _ _)
  have d2 : decide ((65536 : Int) < (s.size : Int)) = false := by simp; omega
  go_enter Try.func54, Try.ntmps54
  go_wp2
  go_loopw [14] (fun i wr => ∃ k : Nat, i = .int .i64 k ∧ k ≤ s.size ∧ Below w.heap.size w wr) (fun i _ => s.size - (intOf i).toNat)
  case atStart => exact ⟨0, rfl, Nat.zero_le _, Below.refl _ _⟩
  case round =>
    obtain ⟨k, rfl, hk, hB⟩ := hrel
    by_cases hlt : k < s.size
    · have hlt2 : decide ((k : Int) < (s.size : Int)) = true := by simp; omega
      have hlt3 : decide (k < s.size) = true := by simp; omega
      have hi0 : (0 : Int) ≤ (k : Int) := by omega
      obtain ⟨c, hc⟩ : ∃ c, s[k] = c := ⟨_, rfl⟩
      by_cases c1 : c.toNat < 33
      · have e1 : decide ((c.toNat : Int) < 33) = true := by simp; omega
        go_wp2
        go_ret
        exact SomeBool.mk (b := false) rfl hB
      have e1 : decide ((c.toNat : Int) < 33) = false := by simp; omega
      by_cases c2 : 126 < c.toNat
      · have e2 : decide ((126 : Int) < (c.toNat : Int)) = true := by simp; omega
        go_wp2
        go_ret
        exact SomeBool.mk (b := false) rfl hB
      have e2 : decide ((126 : Int) < (c.toNat : Int)) = false := by simp; omega
      go_wp2
      go_roundw
      case rel => exact ⟨k + 1, by go_num, by omega, hB⟩
      case measure => simp [intOf]; omega
    · have hlt2 : decide ((k : Int) < (s.size : Int)) = false := by simp; omega
      have hlt3 : decide (k < s.size) = false := by simp; omega
      go_wp2
      go_ret
      exact SomeBool.mk (b := true) rfl hB
theorem below_gnew {w a b : World} {g : Nat} (h : Below w.heap.size w a) (k : a.grownBy b (some g)) (hg : w.heap.size ≤ g) : Below w.heap.size w b := h.grown k h.size (fun i e => by simp at e; omega)
theorem SSet.new (w : World) : SSet (w.alloc (.map #[] 0)) w.heap.size [] := ⟨#[], 0, heap_alloc_new w _, rfl⟩
set_option maxRecDepth 100000 in
set_option maxHeartbeats 8000000 in
theorem coreNames_any (v : Value) (l : List ByteArray) (w : World) (h : Txs w v l) (hn : l.length ≤ 10000000) (hz : ∀ s ∈ l, s.size ≤ 1000000000000000) :
    Calls Try.prog 57 #[v] w fun e w' => SomeBool w e w' := by
  obtain ⟨a, ca, rfl, ha⟩ := h
  obtain ⟨N, hN⟩ : ∃ N, l.length = N := ⟨_, rfl⟩
  have HN := Lib.hid hN
  rw [hN] at hn ⊢
  have Ha := Lib.hid ha
  have HZ := Lib.hid hz
  clear ha hN hz
  have hmm : ∀ W, (Instr.makeMap 76 none).run Try.prog W = .ok (.map (some W.heap.size)) (W.alloc (.map #[] 0)) := fun W => by simp [Instr.makeMap]
  have S1 := Lib.hid (SSet.new w)
  have B1 := Lib.hid (show Below w.heap.size w (w.alloc (.map #[] 0)) from (Below.refl _ w).alloc (Nat.le_refl _) _)
  go_enter Try.func57, Try.ntmps57
  go_upto_region 2 with fail
  clear hmm
  generalize w.alloc (.map #[] 0) = W1 at S1 B1 ⊢
  obtain ⟨m, hm⟩ : ∃ m, w.heap.size = m := ⟨_, rfl⟩
  have HM := Lib.hid hm
  rw [hm] at S1 ⊢
  clear hm
  go_wp2
  go_loopw [9] (fun i wr => ∃ (k : Nat) (ls : List ByteArray), i = .int .i64 k ∧ k ≤ N ∧ Hid (SSet wr m ls) ∧ Hid (Below w.heap.size w wr)) (fun i _ => N - (intOf i).toNat)
  case atStart => exact ⟨0, [], rfl, Nat.zero_le _, S1, B1⟩
  case round =>
    obtain ⟨k, ls, rfl, hk, HS, HB⟩ := hrel
    by_cases hlt : k < N
    · have hlt2 : decide ((k : Int) < (N : Int)) = true := by simp; omega
      have hlt3 : decide (k < N) = true := by simp; omega
      have hi0 : (0 : Int) ≤ (k : Int) := by omega
      have hkt : k < l.length := by rw [HN.out]; exact hlt
      obtain ⟨p, o, rfl, hp, hat⟩ := Ha.out (by omega)
      obtain ⟨x, hx⟩ : ∃ x, l[k]? = some x := ⟨_, List.getElem?_eq_getElem hkt⟩
      have c0 := (HB.out.cell (p := ⟨p, o + k * 1, none⟩) hp).trans (hat k x hx)
      rw [Nat.mul_one] at c0
      have KN := named_any x wr (HZ.out x (List.mem_of_getElem? hx))
      clear hat hx
      go_upto_region 5 with fail
      cases hd : decide (x ∈ ls) with
      | true =>
        go_wp2_with (go_at_call 54; refine KN.mono ?_; rintro r1 w1 ⟨b, rfl, b1⟩; have HS1 := Lib.hid (HS.out.of_same (b1.block m HS.out.lt)); have HB1 := Lib.hid (chain HB.out b1); have hlk := set_lookup HS1.out x; rw [hd] at hlk; obtain ⟨w3, ls3, hput, hg, hS3, -, -⟩ := set_put HS1.out x; have HS3 := Lib.hid hS3; have HB3 := Lib.hid (below_gnew HB1.out hg (by rw [HM.out]; exact Nat.le_refl _)); clear b1 hg hS3; rcases b with _ | _)
        all_goals
          go_ret
          exact SomeBool.mk (b := false) rfl HB1.out
      | false =>
        go_wp2_with (go_at_call 54; refine KN.mono ?_; rintro r1 w1 ⟨b, rfl, b1⟩; have HS1 := Lib.hid (HS.out.of_same (b1.block m HS.out.lt)); have HB1 := Lib.hid (chain HB.out b1); have hlk := set_lookup HS1.out x; rw [hd] at hlk; obtain ⟨w3, ls3, hput, hg, hS3, -, -⟩ := set_put HS1.out x; have HS3 := Lib.hid hS3; have HB3 := Lib.hid (below_gnew HB1.out hg (by rw [HM.out]; exact Nat.le_refl _)); clear b1 hg hS3; rcases b with _ | _)
        · go_ret
          exact SomeBool.mk (b := false) rfl HB1.out
        · go_roundw
          case rel => exact ⟨k + 1, ls3, by go_num, by omega, HS3, HB3⟩
          case measure => simp [intOf]; omega
    · have hlt2 : decide ((k : Int) < (N : Int)) = false := by simp; omega
      have hlt3 : decide (k < N) = false := by simp; omega
      go_wp2
      go_ret
      exact SomeBool.mk (b := true) rfl HB.out
end Go.Proofs.Ytkcgchpflppmnaa

namespace Go.Proofs.Ytkcgchpflppmnaa
open Go.RowKit
set_option linter.unusedSimpArgs false
set_option linter.unusedVariables false

/-- Some number, and nothing below is changed. -/
def SomeInt (w : World) (e : Ending) (w' : World) : Prop := ∃ n : Int, e = .returned (.int .i64 n) ∧ Below w.heap.size w w'
theorem SomeInt.mk {w w' : World} {e : Ending} {n : Int} (h : e = .returned (.int .i64 n)) (hb : Below w.heap.size w w') : SomeInt w e w' := ⟨n, h, hb⟩
set_option maxRecDepth 100000 in
set_option maxHeartbeats 8000000 in
theorem errIndex_any (b : Nat) (e : Int) (w : World) (R : Blk w b #[.int .i64 0, .int .i64 8, .int .i64 9, .int .i64 2]) :
    Calls Try.prog 87 #[.slice (some ⟨b, 0, none⟩) 4 4, .int .i64 e] w fun r w' => SomeInt w r w' := by
  have HR := Lib.hid R
  clear R
  go_enter Try.func87, Try.ntmps87
  go_wp2
  go_loopw [8] (fun i wr => ∃ k : Nat, i = .int .i64 k ∧ k ≤ 4 ∧ Below w.heap.size w wr) (fun i _ => 4 - (intOf i).toNat)
  case atStart => exact ⟨0, rfl, by decide, Below.refl _ _⟩
  case round =>
    obtain ⟨k, rfl, hk, hB⟩ := hrel
    have R := HR.out.below hB HR.out.lt
    have c0 : wr.cell? ⟨b, 0, none⟩ = _ := R.cell 0
    have c1 : wr.cell? ⟨b, 1, none⟩ = _ := R.cell 1
    have c2 : wr.cell? ⟨b, 2, none⟩ = _ := R.cell 2
    have c3 : wr.cell? ⟨b, 3, none⟩ = _ := R.cell 3
    simp only [List.getElem?_toArray, List.getElem?_cons_zero, List.getElem?_cons_succ] at c0 c1 c2 c3
    clear R
    have fin : ∀ z : Int, (e == z) = true ∨ (e == z) = false := fun z => by cases (e == z) <;> simp
    rcases k with _ | _ | _ | _ | k
    · rcases fin 0 with q | q
      · go_wp2
        go_ret
        exact SomeInt.mk (n := 0) rfl hB
      · go_wp2
        go_roundw
        case rel => exact ⟨1, rfl, by decide, hB⟩
        case measure => simp [intOf]
    · rcases fin 8 with q | q
      · go_wp2
        go_ret
        exact SomeInt.mk (n := 1) rfl hB
      · go_wp2
        go_roundw
        case rel => exact ⟨2, rfl, by decide, hB⟩
        case measure => simp [intOf]
    · rcases fin 9 with q | q
      · go_wp2
        go_ret
        exact SomeInt.mk (n := 2) rfl hB
      · go_wp2
        go_roundw
        case rel => exact ⟨3, rfl, by decide, hB⟩
        case measure => simp [intOf]
    · rcases fin 2 with q | q
      · go_wp2
        go_ret
        exact SomeInt.mk (n := 3) rfl hB
      · go_wp2
        go_roundw
        case rel => exact ⟨4, rfl, by decide, hB⟩
        case measure => simp [intOf]
    · obtain rfl : k = 0 := by omega
      go_wp2
      go_ret
      exact SomeInt.mk (n := -1) rfl hB
set_option maxRecDepth 100000 in
set_option maxHeartbeats 8000000 in
theorem rank_any (e : Int) (w : World) : Calls Try.prog 72 #[.int .i64 e] w fun r w' => SomeInt w r w' := by
  have B0 := Lib.hid (show Below w.heap.size w (w.alloc (.cells #[.int .i64 0, .int .i64 8, .int .i64 9, .int .i64 2] 35)) from (Below.refl _ w).alloc (Nat.le_refl _) _)
  have K := errIndex_any w.heap.size e (w.alloc (.cells #[.int .i64 0, .int .i64 8, .int .i64 9, .int .i64 2] 35)) (Blk.new _ _ _)
  go_enter Try.func72, Try.ntmps72
  go_wp2_with (go_at_call 87; refine K.mono ?_; rintro r1 w1 ⟨n, rfl, b1⟩; have B1 := Lib.hid (chain B0.out b1); clear b1)
  go_ret
  exact SomeInt.mk rfl B1.out
/-- A checker in memory: its table, the fault that counts so far. -/
def NotePost (w : World) (cb : Nat) (mv : Value) (r : Ending) (w' : World) : Prop := ∃ k : Int, r = .returned (.tuple #[]) ∧ Blk w' cb #[mv, .int .i64 k] ∧ w.grownBy w' (some cb)
theorem NotePost.mk {w : World} {cb : Nat} {mv : Value} {r : Ending} {w' : World} {k : Int} (h : r = .returned (.tuple #[])) (hb : Blk w' cb #[mv, .int .i64 k]) (hg : w.grownBy w' (some cb)) : NotePost w cb mv r w' := ⟨k, h, hb, hg⟩
theorem grown_belowE {a b : World} (row : Option Nat) (h : Below a.heap.size a b) : a.grownBy b row := ⟨h.os, h.tape, h.output, h.size, fun i hi _ => h.block i hi⟩
theorem grown_setE (a : World) (bn o : Nat) (v : Value) : a.grownBy (a.setCell ⟨bn, o, none⟩ v) (some bn) :=
  ⟨rfl, rfl, rfl, by simp [World.setCell], fun i hi hne => Below.heap_setCell _ _ _ _ (fun e => hne (by rw [e]))⟩
theorem grown_transE {a b c : World} {row : Option Nat} (h : a.grownBy b row) (k : b.grownBy c row) : a.grownBy c row :=
  ⟨k.os.trans h.os, k.tape.trans h.tape, k.output.trans h.output, Nat.le_trans h.size k.size, fun i hi hne => (k.block i (Nat.lt_of_lt_of_le hi h.size) hne).trans (h.block i hi hne)⟩
set_option maxRecDepth 100000 in
set_option maxHeartbeats 8000000 in
theorem note_no (cb : Nat) (mv : Value) (k e : Int) (w : World) (R : Blk w cb #[mv, .int .i64 k]) :
    Calls Try.prog 55 #[.pointer (some ⟨cb, 0, none⟩), .bool false, .int .i64 e] w fun r w' => NotePost w cb mv r w' := by
  have HR := Lib.hid R
  clear R
  go_enter Try.func55, Try.ntmps55
  go_wp2
  go_quiet (fail)
  go_wp2
  go_end0
  exact NotePost.mk rfl (HR.out.drewN _) (grown_belowE _ (below_drewN (Below.refl _ _) _))
theorem Blk.on2 {w w1 : World} (b1 : Below w.heap.size w w1) {cb : Nat} {c : Array Value} (R : Blk w cb c) : Blk w1 cb c := R.below b1 R.lt
theorem below_on3 {w0 w w1 : World} (b1 : Below w.heap.size w w1) (h : Below w0.heap.size w0 w) : Below w0.heap.size w0 w1 := chain h b1
set_option maxRecDepth 100000 in
set_option maxHeartbeats 8000000 in
theorem note_yes (cb : Nat) (mv : Value) (k e : Int) (w : World) (R : Blk w cb #[mv, .int .i64 k]) :
    Calls Try.prog 55 #[.pointer (some ⟨cb, 0, none⟩), .bool true, .int .i64 e] w fun r w' => NotePost w cb mv r w' := by
  have Rd := R.drew
  have Bd : Below w.heap.size w w.drew := (Below.refl _ w).drew
  have hS0 : w.drew.cell? ⟨cb, 1, none⟩ = some (.int .i64 k) := Rd.cell 1
  go_enter Try.func55, Try.ntmps55
  go_wp2
  go_region_held3 (fun wx => wx.cell? ⟨cb, 1, none⟩ = some (.int .i64 k)) (assumption) ((go_at_call 72; refine (rank_any _ _).mono ?_; rintro r1 w1 ⟨n1, rfl, b1⟩; have R1 := Blk.on2 b1 (cb := cb) (c := #[mv, .int .i64 k]) (by assumption); have B1 := below_on3 b1 (w0 := w) (by assumption); have hS1 : w1.cell? ⟨cb, 1, none⟩ = some (.int .i64 k) := R1.cell 1))
  all_goals
    generalize decide ((_ : Int) < _) = bq
    have y1 := R1.free 1
    have hR1 := Lib.hid R1
    have hR2 := Lib.hid (R1.set 1 (.int .i64 e) (by simp))
    have hB1 := Lib.hid B1
    clear R1 B1
    cases bq
    · go_wp2
      go_end0
      exact NotePost.mk rfl hR1.out (grown_belowE _ hB1.out)
    · go_wp2
      go_end0
      exact NotePost.mk (k := e) rfl hR2.out (grown_transE (grown_belowE _ hB1.out) (grown_setE _ _ _ _))
end Go.Proofs.Ytkcgchpflppmnaa

namespace Go.Proofs.Ytkcgchpflppmnaa
open Go.RowKit
set_option linter.unusedSimpArgs false
set_option linter.unusedVariables false

def WEnt (Q : Value → Prop) (e : MapEntry) : Prop := (∃ s, e.key = .string s) ∧ Q e.val
def WMap (W : World) (m : Nat) (Q : Value → Prop) : Prop := ∃ ms ck, W.heap[m]? = some (.map ms ck) ∧ ∀ e ∈ ms.toList, WEnt Q e
theorem WMap.lt {W : World} {m : Nat} {Q : Value → Prop} (h : WMap W m Q) : m < W.heap.size := by
  obtain ⟨ms, ck, h1, -⟩ := h; exact (Array.getElem?_eq_some_iff.1 h1).1
theorem WMap.of_same {W W' : World} {m : Nat} {Q : Value → Prop} (h : WMap W m Q) (he : W'.heap[m]? = W.heap[m]?) : WMap W' m Q := by
  obtain ⟨ms, ck, h1, h2⟩ := h; exact ⟨ms, ck, he.trans h1, h2⟩
theorem WMap.new (w : World) (Q : Value → Prop) : WMap (w.alloc (.map #[] 0)) w.heap.size Q := ⟨#[], 0, heap_alloc_new w _, fun e he => by cases he⟩
theorem find_weak {Q : Value → Prop} (a : ByteArray) : ∀ {ms : List MapEntry} {i : Nat}, (∀ e ∈ ms, WEnt Q e) → Instr.findNow .string (.string a) ms i = some none ∨ ∃ j v, Instr.findNow .string (.string a) ms i = some (some (j, v)) ∧ Q v
  | [], i, _ => .inl rfl
  | e :: ms, i, h => by
    obtain ⟨⟨s, hs⟩, hq⟩ := h e (List.mem_cons_self ..)
    have hk : Instr.sameNow .string (.string a) e.key = some (a == s) := by rw [hs, same_str]
    unfold Instr.findNow
    rw [hk]
    cases (a == s) with
    | true => exact .inr ⟨i, e.val, rfl, hq⟩
    | false => exact find_weak a (fun e he => h e (List.mem_cons_of_mem _ he))
/-- Any text looked up, both forms. -/
theorem weak_lookup {w : World} {m : Nat} {Q : Value → Prop} (h : WMap w m Q) (a : ByteArray) {t te : TypeId} (ht : Try.prog.underlying t = some (.map 9 te)) {z : Value} (hz : ∀ w, (zeroValue te).run Try.prog w = .ok z w) (hq : Q z) :
    ∃ v b, Q v ∧ (Instr.lookup t (.map (some m)) (.string a) true).run Try.prog w = .ok (.tuple #[v, .bool b]) w := by
  obtain ⟨ms, ck, h1, h2⟩ := h
  rcases find_weak a (i := 0) h2 with k | ⟨j, v, k, hv⟩
  · refine ⟨z, false, hq, ?_⟩
    simp only [Instr.lookup, Sem.run_bind, run_underlying ht, Result.andThen_ok, Ev.run_getMap h1, Sem.run_pure, Ev.run_checkKey keyS]
    simp [Ev.run_findKey keyS k, hz]
  · refine ⟨v, true, hv, ?_⟩
    simp only [Instr.lookup, Sem.run_bind, run_underlying ht, Result.andThen_ok, Ev.run_getMap h1, Sem.run_pure, Ev.run_checkKey keyS]
    simp [Ev.run_findKey keyS k]
/-- Any text put in. -/
theorem weak_put {w : World} {m : Nat} {Q : Value → Prop} (h : WMap w m Q) (a : ByteArray) {t te : TypeId} (ht : Try.prog.underlying t = some (.map 9 te)) {v : Value} (hv : Q v) :
    ∃ w', (Instr.mapUpdate t (.map (some m)) (.string a) v).run Try.prog w = .ok () w' ∧ w.grownBy w' (some m) ∧ WMap w' m Q := by
  obtain ⟨ms, ck, h1, h2⟩ := h
  have hlt := (Array.getElem?_eq_some_iff.1 h1).1
  rcases find_weak a (i := 0) h2 with k | ⟨j, v0, k, hv0⟩
  · refine ⟨{ w with heap := w.heap.setIfInBounds m (.map (ms.push { key := .string a, val := v, born := ck }) (ck + 1)) }, ?_, ⟨rfl, rfl, rfl, by simp, fun i hi hne => Array.getElem?_setIfInBounds_ne (fun e => hne (by rw [e]))⟩, ⟨_, _, Array.getElem?_setIfInBounds_self_of_lt hlt, ?_⟩⟩
    · simp [Instr.mapUpdate, run_underlying ht, Ev.run_getMap h1, Ev.run_checkKey keyS, Ev.run_findKey keyS k, Ev.run_setMap h1]
    · intro e he
      rw [Array.toList_push] at he
      rcases List.mem_append.1 he with he | he
      · exact h2 e he
      · simp at he; subst he; exact ⟨⟨a, rfl⟩, hv⟩
  · obtain ⟨e, -, he, hk⟩ := find_key k
    obtain ⟨⟨s, e1⟩, -⟩ := h2 e (List.mem_of_getElem? he)
    rw [e1, same_str] at hk
    have hsa : a = s := by simpa using hk
    subst hsa
    rw [Nat.sub_zero, Array.getElem?_toList] at he
    refine ⟨{ w with heap := w.heap.setIfInBounds m (.map (ms.modify j fun e => { e with key := .string a, val := v }) ck) }, ?_, ⟨rfl, rfl, rfl, by simp, fun i hi hne => Array.getElem?_setIfInBounds_ne (fun e => hne (by rw [e]))⟩, ⟨_, _, Array.getElem?_setIfInBounds_self_of_lt hlt, ?_⟩⟩
    · simp [Instr.mapUpdate, run_underlying ht, Ev.run_getMap h1, Ev.run_checkKey keyS, Ev.run_findKey keyS k, Ev.run_setMap h1, Instr.keyThatStays, he, e1, same_bits]
    · intro x hx
      obtain ⟨i, hi, rfl⟩ := List.getElem_of_mem hx
      have hg : (ms.modify j fun e => { e with key := .string a, val := v }).toList[i]? = some ((ms.modify j fun e => { e with key := .string a, val := v }).toList[i]) := List.getElem?_eq_getElem hi
      rw [Array.getElem?_toList, Array.getElem?_modify] at hg
      split at hg
      · obtain ⟨y, hy, e2⟩ := Option.map_eq_some_iff.1 hg
        rw [← e2]
        exact ⟨⟨a, rfl⟩, hv⟩
      · exact h2 _ (by rw [Array.mem_toList_iff]; exact Array.mem_of_getElem? hg)
end Go.Proofs.Ytkcgchpflppmnaa

namespace Go.Proofs.Ytkcgchpflppmnaa
open Go.RowKit
set_option linter.unusedSimpArgs false
set_option linter.unusedVariables false

set_option maxRecDepth 100000 in
set_option maxHeartbeats 1000000 in
theorem hasF_any (s : ByteArray) (c : UInt8) (b : Nat) (w : World) (h : w.cell? ⟨b, 0, none⟩ = some (.string s)) :
    Calls Try.prog 70 #[.string ⟨#[c]⟩, .pointer (some ⟨b, 0, none⟩)] w fun e w' => e = .returned (.bool (decide (0 ≤ Lib.indexByte s.data.toList c))) ∧ w' = w := by
  have K := Try.strings_Contains_one s c w
  generalize decide (0 ≤ Lib.indexByte s.data.toList c) = r at K ⊢
  go_enter Try.func70, Try.ntmps70
  go_wp2_with (go_at_call 71; with_reducible (refine K.mono ?_); rintro r1 w1 ⟨rfl, rfl⟩)
  go_ret
  exact ⟨rfl, rfl⟩
end Go.Proofs.Ytkcgchpflppmnaa
