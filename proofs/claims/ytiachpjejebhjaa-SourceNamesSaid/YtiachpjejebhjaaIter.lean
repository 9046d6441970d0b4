/- Contracts of source.lines and of the iterator that it hands back: for every loop body, the text's lines come in order, each with the place where it begins. Condition: the text has at most 100000 bytes. -/
import Derived.RangeFuncNested
import Derived.RangeFuncBound
import Derived.RangeFuncCalls
import Derived.RangeFuncLeaves
import Derived.Shelf.Abstract
import Derived.Shelf.RegionOpen
import Derived.WalkKit
import Derived.OwnWalkIn
import Derived.TacticsInMore
import Derived.LoopNIn
import Derived.LoopIn
import Derived.Outline
import Derived.Lib.Hide
import Derived.Lib.IndexLaws
import Derived.Lib.IndexBytes
import Derived.Test.YtiachpjejebhjaaPlain
import Derived.Test.YtiachpjejebhjaaShelf
namespace Go.Proofs.Ytiachpjejebhjaa
open Go.RowKit Go.Shelf
attribute [local go_sem] Oper.semAt_some

theorem tail_data (s : ByteArray) (a : Nat) : (s.extract a s.size).data.toList = s.data.toList.drop a := by
  rw [Lib.extract_data]
  rw [List.take_of_length_le]
  simp

theorem run_mid (s : ByteArray) (a m : Nat) (h : a + m ≤ s.size) (w : World) :
    (Instr.slice 9 (.string s) (some (.int .i64 (a : Int))) (some (.int .i64 ((a : Int) + (m : Int)))) none).run Try.prog w = .ok (.string (s.extract a (a + m))) w := by
  rw [run_slice_string w 9 s .i64 .i64 a (a + m) Try.underlying9 (by omega) (by omega) (by omega)]
  congr 3

theorem ix_none (s : ByteArray) (a : Nat) (w : World) (h : Lib.indexByte (s.data.toList.drop a) 10 = -1) :
    Calls Try.prog 23 #[.string (s.extract a s.size), .int .u8 10] w fun e w' => e = .returned (.int .i64 (-1)) ∧ w = w' := by
  refine (Try.strings_IndexByte _ _ _).mono ?_
  rintro e w' ⟨rfl, rfl⟩
  refine ⟨?_, rfl⟩
  rw [tail_data]
  exact congrArg (fun i => Ending.returned (.int .i64 i)) h

theorem ix_some (s : ByteArray) (a n : Nat) (w : World) (h : Lib.indexByte (s.data.toList.drop a) 10 = n) :
    Calls Try.prog 23 #[.string (s.extract a s.size), .int .u8 10] w fun e w' => e = .returned (.int .i64 n) ∧ w = w' := by
  refine (Try.strings_IndexByte _ _ _).mono ?_
  rintro e w' ⟨rfl, rfl⟩
  refine ⟨?_, rfl⟩
  rw [tail_data]
  exact congrArg (fun i => Ending.returned (.int .i64 i)) h

/-- A line of the text. -/
abbrev Seg (s : ByteArray) := { x : Nat × Nat // x ∈ segs s.data.toList }
abbrev encS (s : ByteArray) (x : Seg s) : Array Value := #[.int .i64 (x.1.1 : Nat), .string (s.extract x.1.1 x.1.2)]
/-- What a round must keep: the box in which the text lies. -/
def KeepsBox (b : Nat) (W W' : World) : Prop := ∀ v, W.cell? ⟨b, 0, none⟩ = some v → W'.cell? ⟨b, 0, none⟩ = some v
theorem keepsBox_t {b : Nat} {A B C : World} (h : KeepsBox b A B) (k : KeepsBox b B C) : KeepsBox b A C := fun v hv => k v (h v hv)
theorem keepsBox_b {b : Nat} (W : World) (l : Nat) (o o' : Obj) (h : W.heap[l]? = some o) (ho : o.isCells = false) : KeepsBox b W (W.putObj l o') := by
  intro v hv
  exact cell_kept hv (grownBy_putObj' W l o') (fun r e => by cases e; exact ⟨o, h, ho⟩)

set_option maxRecDepth 100000 in
set_option maxHeartbeats 1000000 in
theorem iter_in (n : Nat) (hn : 1 ≤ n) (l Bn : Nat) (s : ByteArray) (hs : s.size ≤ 100000) (J Jx : List (Seg s) → World → Prop)
    (hY : ∀ pre x W, J pre W → pre.length < (segs s.data.toList).length → YieldAt Fence.wide (n - 1) Try.prog l (encS s x) W fun e W' =>
      (e = .returned (.bool true) ∧ J (pre ++ [x]) W' ∧ KeepsBox Bn W W') ∨ (e = .returned (.bool false) ∧ Jx (pre ++ [x]) W'))
    (W : World) (hBn : W.cell? ⟨Bn, 0, none⟩ = some (.string s)) (h0 : J [] W) :
    CallsIn Fence.wide n Try.prog 22 #[.func (.yield l) #[] #[], .pointer (some ⟨Bn, 0, none⟩)] W fun e W' => (∃ v, e = .returned v) ∧
      ((∃ ys : List (Seg s), ys.map (·.1) = segs s.data.toList ∧ J ys W') ∨ (∃ pre : List (Seg s), pre.map (·.1) <+: segs s.data.toList ∧ Jx pre W')) := by
  refine callsIn_of_wp Try.func22 rfl trivial ?_ rfl
  simp only [Try.ntmps22, List.size_toArray, List.length_cons, List.length_nil, Nat.reduceAdd, Nat.reduceSub, Array.replicate_succ, Array.replicate_zero, List.push_toArray, List.append_toArray, List.nil_append, List.cons_append]
  gi_wp2
  gi_loopw [3] (fun i wr => ∃ (a : Nat) (pre : List (Seg s)), i = .int .i64 a ∧ a ≤ s.size ∧ pre.map (·.1) ++ segsGo a a (s.data.toList.drop a) = segs s.data.toList ∧ J pre wr ∧ wr.cell? ⟨Bn, 0, none⟩ = some (.string s))
    (fun i wr => s.size - (intOf i).toNat)
  case atStart => exact ⟨0, [], rfl, Nat.zero_le _, rfl, h0, hBn⟩
  case round =>
    obtain ⟨a, pre, rfl, ha, hseg, hJ, hB⟩ := hrel
    have Hseg := Lib.hid hseg; clear hseg
    have hlL : s.data.toList.length = s.size := rfl
    by_cases hix : Lib.indexByte (s.data.toList.drop a) 10 = -1
    · have hsg : segsGo a a (s.data.toList.drop a) = [(a, s.size)] := by
        rw [segsGo_none _ _ _ (Lib.indexByte_none hix), List.length_drop, hlL, Nat.add_sub_cancel' ha]
      have hx : (a, s.size) ∈ segs s.data.toList := by rw [← Hseg.out, hsg]; simp
      have hall : (pre ++ [(⟨(a, s.size), hx⟩ : Seg s)]).map (·.1) = segs s.data.toList := by
        have h := Hseg.out; rw [hsg] at h; simpa using h
      have hlen : pre.length < (segs s.data.toList).length := by rw [← hall]; simp
      obtain ⟨fn, tmps, assign, body, hy, hR⟩ := hY pre ⟨(a, s.size), hx⟩ wr hJ hlen
      dsimp only [encS] at hy
      have Hix := Lib.hid hix; have Hall := Lib.hid hall
      clear hix hall hY hlL hsg
      gi_wp2_with (refine ⟨trivial, ?_⟩; gi_at_call 23; refine (callsIn_wide.2 (ix_none s a _ Hix.out)).mono ?_; rintro e w' ⟨rfl, rfl⟩)
      refine hR.mono ?_
      rintro e W' (⟨rfl, hJ', _⟩ | ⟨rfl, hJx'⟩)
      · gi_wp2
        refine bodyPost_ret (results_none rfl _ _ _) rfl ?_
        exact ⟨⟨_, rfl⟩, .inl ⟨_, Hall.out, hJ'⟩⟩
      · gi_wp2
        refine bodyPost_ret (results_none rfl _ _ _) rfl ?_
        exact ⟨⟨_, rfl⟩, .inr ⟨_, by rw [Hall.out]; exact List.prefix_refl _, hJx'⟩⟩
    · obtain ⟨m, hm⟩ : ∃ m : Nat, Lib.indexByte (s.data.toList.drop a) 10 = m := ⟨(Lib.indexByte (s.data.toList.drop a) 10).toNat, by have := Lib.indexByte_ge (s.data.toList.drop a) 10; omega⟩
      obtain ⟨hm1, hm2⟩ := Lib.indexByte_some hm
      have hlt : a + m < s.size := by
        have := List.getElem?_eq_some_iff.1 hm1
        obtain ⟨h, _⟩ := this
        rw [List.length_drop, hlL] at h; omega
      have hsg : segsGo a a (s.data.toList.drop a) = (a, a + m) :: segsGo (a + m + 1) (a + m + 1) (s.data.toList.drop (a + m + 1)) := by
        rw [segsGo_some _ _ _ m hm1 hm2, List.drop_drop]; rfl
      have hx : (a, a + m) ∈ segs s.data.toList := by rw [← Hseg.out, hsg]; simp
      have hall : (pre ++ [(⟨(a, a + m), hx⟩ : Seg s)]).map (·.1) ++ segsGo (a + m + 1) (a + m + 1) (s.data.toList.drop (a + m + 1)) = segs s.data.toList := by
        have h := Hseg.out; rw [hsg] at h; simpa using h
      have hlen : pre.length < (segs s.data.toList).length := by rw [← hall]; simp
      have hsl := run_mid s a m (by omega)
      obtain ⟨fn, tmps, assign, body, hy, hR⟩ := hY pre ⟨(a, a + m), hx⟩ wr hJ hlen
      dsimp only [encS] at hy
      have Hm := Lib.hid hm; have Hall := Lib.hid hall
      clear hix hall hY hlL hsg hm hm1 hm2
      gi_wp2_with (refine ⟨trivial, ?_⟩; gi_at_call 23; refine (callsIn_wide.2 (ix_some s a m _ Hm.out)).mono ?_; rintro e w' ⟨rfl, rfl⟩)
      refine hR.mono ?_
      rintro e W' (⟨rfl, hJ', hk⟩ | ⟨rfl, hJx'⟩)
      · have hB' := hk _ hB
        gi_wp2
        go_roundw
        case rel => exact ⟨a + m + 1, _, by go_num, by omega, Hall.out, hJ', hB'⟩
        case measure => simp [intOf]; omega
      · gi_wp2
        refine bodyPost_ret (results_none rfl _ _ _) rfl ?_
        exact ⟨⟨_, rfl⟩, .inr ⟨_, ⟨_, Hall.out⟩, hJx'⟩⟩

end Go.Proofs.Ytiachpjejebhjaa
