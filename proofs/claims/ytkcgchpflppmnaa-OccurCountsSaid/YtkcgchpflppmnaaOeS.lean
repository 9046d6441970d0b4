/- slices.Backward over constructors: what its iterator does. core.Builtin and the checker of its constructors. -/
import Derived.RangeFuncNested
import Derived.RangeFuncBound
import Derived.RangeFuncCalls
import Derived.RangeFuncLeaves
import Derived.RangeFuncBox
import Derived.Shelf.Abstract
import Derived.Shelf.RegionOpen
import Derived.WalkKit
import Derived.OwnWalkIn
import Derived.TacticsInMore
import Derived.LoopNIn
import Derived.LoopIn
import Derived.Outline
import Derived.Lib.Hide
import Derived.Test.YtkcgchpflppmnaaOeO
namespace Go.Proofs.Ytkcgchpflppmnaa
open Go.RowKit Go.Shelf
set_option linter.unusedSimpArgs false
set_option linter.unusedVariables false
attribute [local go_sem] Oper.semAt_some

/-- A constructor and the place at which it stands. -/
abbrev CoE := Int × (ByteArray × Int × ByteArray × Int)
abbrev conE (x : CoE) : Value := .agg #[.string x.2.1, .int .i64 x.2.2.1, .string x.2.2.2.1, .int .i64 x.2.2.2.2]
abbrev encC (x : CoE) : Array Value := #[.int .i64 x.1, conE x]
def KeepsC (b1 b2 : Nat) (W W' : World) : Prop := ∀ b o v, b = b1 ∨ b = b2 → W.cell? ⟨b, o, none⟩ = some v → W'.cell? ⟨b, o, none⟩ = some v
theorem keepsC_t {b1 b2 : Nat} {A B C : World} (h : KeepsC b1 b2 A B) (k : KeepsC b1 b2 B C) : KeepsC b1 b2 A C := fun b o v hb hv => k b o v hb (h b o v hb hv)
theorem keepsC_b {b1 b2 : Nat} (W : World) (l : Nat) (o o' : Obj) (h : W.heap[l]? = some o) (ho : o.isCells = false) : KeepsC b1 b2 W (W.putObj l o') := by
  intro b ofs v _ hv
  exact cell_kept hv (grownBy_putObj' W l o') (fun r e => by cases e; exact ⟨o, h, ho⟩)
/-- Constructors in memory. -/
def Cons (W : World) (b o N : Nat) : Prop := ∀ k, k < N → ∃ (a : ByteArray) (n : Int) (t : ByteArray) (g : Int), W.cell? ⟨b, o + k * 4, none⟩ = some (.string a) ∧ W.cell? ⟨b, o + k * 4 + 1, none⟩ = some (.int .i64 n) ∧ W.cell? ⟨b, o + k * 4 + 2, none⟩ = some (.string t) ∧ W.cell? ⟨b, o + k * 4 + 3, none⟩ = some (.int .i64 g)
theorem Cons.keep {W W' : World} {b1 b o N : Nat} (h : Cons W b o N) (k : KeepsC b1 b W W') : Cons W' b o N := fun i hi => by
  obtain ⟨a, n, t, g, h0, h1, h2, h3⟩ := h i hi
  exact ⟨a, n, t, g, k _ _ _ (.inr rfl) h0, k _ _ _ (.inr rfl) h1, k _ _ _ (.inr rfl) h2, k _ _ _ (.inr rfl) h3⟩
theorem Cons.below {W W' : World} {b o N : Nat} (h : Cons W b o N) (hb : Below W.heap.size W W') (hl : b < W.heap.size) : Cons W' b o N := fun i hi => by
  obtain ⟨a, n, t, g, h0, h1, h2, h3⟩ := h i hi
  exact ⟨a, n, t, g, (hb.cell (p := ⟨b, _, none⟩) hl).trans h0, (hb.cell (p := ⟨b, _, none⟩) hl).trans h1, (hb.cell (p := ⟨b, _, none⟩) hl).trans h2, (hb.cell (p := ⟨b, _, none⟩) hl).trans h3⟩

set_option maxRecDepth 100000 in
set_option maxHeartbeats 1000000 in
theorem back_in (n : Nat) (hn : 1 ≤ n) (l Bn b o N c : Nat) (hN : N ≤ 1000) (J Jx : List CoE → World → Prop)
    (hY : ∀ pre x W, J pre W → pre.length < N → YieldAt Fence.wide (n - 1) Try.prog l (encC x) W fun e W' =>
      (e = .returned (.bool true) ∧ J (pre ++ [x]) W' ∧ KeepsC Bn b W W') ∨ (e = .returned (.bool false) ∧ Jx (pre ++ [x]) W'))
    (W : World) (hBn : W.cell? ⟨Bn, 0, none⟩ = some (.slice (some ⟨b, o, none⟩) N c)) (hC : Cons W b o N) (h0 : J [] W) :
    CallsIn Fence.wide n Try.prog 69 #[.func (.yield l) #[] #[], .pointer (some ⟨Bn, 0, none⟩)] W fun e W' => (∃ v, e = .returned v) ∧
      ((∃ ys : List CoE, True ∧ J ys W') ∨ (∃ pre : List CoE, True ∧ Jx pre W')) := by
  have hwN : IntKind.i64.wrap ((N : Int) - 1) = (N : Int) - 1 := IntWalk.i64_in _ (by omega)
  have HC := Lib.hid hC
  clear hC
  refine callsIn_of_wp Try.func69 rfl trivial ?_ rfl
  simp only [Try.ntmps69, List.size_toArray, List.length_cons, List.length_nil, Nat.reduceAdd, Nat.reduceSub, Array.replicate_succ, Array.replicate_zero, List.push_toArray, List.append_toArray, List.nil_append, List.cons_append]
  gi_wp2
  gi_loopw [3] (fun i wr => ∃ (z : Int) (pre : List CoE), i = .int .i64 z ∧ -1 ≤ z ∧ z < N ∧ pre.length + (z + 1).toNat ≤ N ∧ J pre wr ∧ wr.cell? ⟨Bn, 0, none⟩ = some (.slice (some ⟨b, o, none⟩) N c) ∧ Hid (Cons wr b o N)) (fun i wr => (intOf i + 1).toNat)
  case atStart => exact ⟨(N : Int) - 1, [], by first | rfl | go_num, by omega, by omega, by simp, h0, hBn, HC⟩
  case round =>
    clear HC hBn
    obtain ⟨z, pre, rfl, hz1, hz2, hl, hJ, hB, HC⟩ := hrel
    by_cases hz : 0 ≤ z
    · obtain ⟨m, rfl⟩ := Int.eq_ofNat_of_zero_le hz
      have hd1 : decide ((0 : Int) ≤ (m : Int)) = true := by simp
      have hm : m < N := by omega
      have hlt3 : decide (m < N) = true := by simp; omega
      obtain ⟨ca, cn, ct, cg, k0, k1, k2, k3⟩ := HC.out m hm
      have hlen : pre.length < N := by omega
      have hwm : IntKind.i64.wrap ((m : Int) - 1) = (m : Int) - 1 := IntWalk.i64_in _ (by omega)
      obtain ⟨fn, tmps, assign, body, hy, hR⟩ := hY pre ((m : Int), ca, cn, ct, cg) wr hJ hlen
      dsimp only [encC, conE] at hy
      clear hY
      gi_wp2
      refine hR.mono ?_
      rintro e W' (⟨rfl, hJ', hk⟩ | ⟨rfl, hJx'⟩)
      · have hB' := hk _ _ _ (.inl rfl) hB
        have HC' := Lib.hid (HC.out.keep hk)
        clear k0 k1 k2 k3 hB HC hk hR
        gi_wp2
        go_roundw
        case rel => exact ⟨(m : Int) - 1, _, by first | rfl | go_num, by omega, by omega, by simp only [List.length_append, List.length_singleton]; omega, hJ', hB', HC'⟩
        case measure => simp [intOf]
      · gi_wp2
        refine bodyPost_ret (results_none rfl _ _ _) rfl ?_
        exact ⟨⟨_, rfl⟩, .inr ⟨_, trivial, hJx'⟩⟩
    · have hd1 : decide ((0 : Int) ≤ z) = false := by simp; omega
      gi_wp2
      go_end0
      refine ⟨⟨_, rfl⟩, .inl ⟨pre, ?_⟩⟩
      first | exact ⟨trivial, hJ⟩ | exact hJ
theorem back_stops (n : Nat) (hn : 1 ≤ n) (Bn b o N c : Nat) (hN : N ≤ 1000) (w : World) (hB : Bn < w.heap.size) (hb : b < w.heap.size) (hc : w.cell? ⟨Bn, 0, none⟩ = some (.slice (some ⟨b, o, none⟩) N c)) (hC : Cons w b o N) :
    SeqStopsK Fence.wide n Try.prog 69 #[.pointer (some ⟨Bn, 0, none⟩)] encC (KeepsC Bn b) (fun _ => True) (fun _ => True) N w :=
  fun l J Jx W hW _ _ hY h0 => back_in n hn l Bn b o N c hN J Jx hY W ((hW.cell (p := ⟨Bn, 0, none⟩) hB).trans hc) (hC.below hW hb) h0
end Go.Proofs.Ytkcgchpflppmnaa

namespace Go.Proofs.Ytkcgchpflppmnaa
open Go.RowKit Go.Shelf
set_option linter.unusedSimpArgs false
set_option linter.unusedVariables false
attribute [local go_sem] Oper.semAt_some

set_option maxRecDepth 100000 in
set_option maxHeartbeats 8000000 in
theorem builtin_any (w : World) : Calls Try.prog 21 #[] w fun e w' => ∃ b, e = .returned (.slice (some ⟨b, 0, none⟩) 5 5) ∧ b < w'.heap.size ∧ Cons w' b 0 5 ∧ Below w.heap.size w w' := by
  go_enter Try.func21, Try.ntmps21
  go_wp2
  go_ret
  refine ⟨w.heap.size, rfl, by simp, fun k hk => ?_, (Below.refl _ w).alloc (Nat.le_refl _) _⟩
  rcases k with _ | _ | _ | _ | _ | k
  · exact ⟨_, _, _, _, (Blk.new w _ _).cell 0, (Blk.new w _ _).cell 1, (Blk.new w _ _).cell 2, (Blk.new w _ _).cell 3⟩
  · exact ⟨_, _, _, _, (Blk.new w _ _).cell 4, (Blk.new w _ _).cell 5, (Blk.new w _ _).cell 6, (Blk.new w _ _).cell 7⟩
  · exact ⟨_, _, _, _, (Blk.new w _ _).cell 8, (Blk.new w _ _).cell 9, (Blk.new w _ _).cell 10, (Blk.new w _ _).cell 11⟩
  · exact ⟨_, _, _, _, (Blk.new w _ _).cell 12, (Blk.new w _ _).cell 13, (Blk.new w _ _).cell 14, (Blk.new w _ _).cell 15⟩
  · exact ⟨_, _, _, _, (Blk.new w _ _).cell 16, (Blk.new w _ _).cell 17, (Blk.new w _ _).cell 18, (Blk.new w _ _).cell 19⟩
  · omega
theorem backward_any (v : Value) (w : World) (hv : ∃ a n c, v = .slice a n c) : Calls Try.prog 52 #[v] w fun e w' => e = .returned (.func (.func 69) #[] #[.pointer (some ⟨w.heap.size, 0, none⟩)]) ∧ w' = w.alloc (.cells #[v] 46) := by
  obtain ⟨a, n, c, rfl⟩ := hv
  go_enter Try.func52, Try.ntmps52
  go_wp2
  go_ret
  exact ⟨rfl, rfl⟩
def OfPost (w : World) (e : Ending) (w' : World) : Prop := ∃ cb m, e = .returned (.pointer (some ⟨cb, 0, none⟩)) ∧ Blk w' cb #[.map (some m), .int .i64 0] ∧ WMap w' m ConV ∧ w.heap.size ≤ cb ∧ Below w.heap.size w w'
theorem WMap.alloc {W : World} {bm : Nat} {Q : Value → Prop} (h : WMap W bm Q) (o : Obj) : WMap (W.alloc o) bm Q := h.below ((Below.refl _ W).alloc (Nat.le_refl _) o)
theorem grown_of_drewS {w w' : World} {row : Option Nat} (h : w.drew.grownBy w' row) : w.grownBy w' row := ⟨h.os, h.tape, h.output, h.size, h.block⟩
set_option maxRecDepth 100000 in
set_option maxHeartbeats 2000000 in
theorem ofc_in (b o N c : Nat) (hN : N ≤ 1000) (w : World) (hb : b < w.heap.size) (hC : Cons w b o N) :
    CallsIn Fence.wide 3 Try.prog 35 #[.agg #[.slice (some ⟨b, o, none⟩) N c, .slice none 0 0]] w fun e w' => OfPost w e w' := by
  have hmm : ∀ W, (Instr.makeMap 71 none).run Try.prog W = .ok (.map (some W.heap.size)) (W.alloc (.map #[] 0)) := fun W => by simp [Instr.makeMap]
  refine callsIn_of_wp_marks Try.func35 rfl trivial ?_ rfl
  simp only [Try.ntmps35, List.size_toArray, List.length_cons, List.length_nil, Nat.reduceAdd, Nat.reduceSub, Array.replicate_succ, Array.replicate_zero, List.push_toArray, List.append_toArray, List.nil_append, List.cons_append]
  gi_wp2_with (refine ⟨trivial, ?_⟩; gi_at_call 52; refine (callsIn_wide.2 (backward_any _ _ ⟨_, _, _, rfl⟩)).mono ?_; rintro e w' ⟨rfl, rfl⟩)
  clear hmm
  obtain ⟨W5, hW5⟩ : ∃ W5, ((((w.alloc (.cells #[.slice (some ⟨b, o, none⟩) N c, .slice none 0 0] 49)).alloc (.map #[] 0)).alloc (.cells #[.map (some (w.heap.size + 1)), .int .i64 0] 73)).alloc (.cells #[.pointer (some ⟨w.heap.size + 1 + 1, 0, none⟩)] 64)).alloc (.cells #[.slice (some ⟨b, o, none⟩) N c] 46) = W5 := ⟨_, rfl⟩
  have hsz : W5.heap.size = w.heap.size + 5 := by rw [← hW5]; simp
  have hbel : Below w.heap.size w W5 := by
    rw [← hW5]
    exact (((((Below.refl _ w).alloc (Nat.le_refl _) _).alloc (by simp) _).alloc (by simp; omega) _).alloc (by simp; omega) _).alloc (by simp; omega) _
  have f3 : W5.cell? ⟨w.heap.size + 1 + 1 + 1, 0, none⟩ = some (.pointer (some ⟨w.heap.size + 1 + 1, 0, none⟩)) := by rw [← hW5]; simp [go_sem]
  have f4 : W5.cell? ⟨w.heap.size + 1 + 1 + 1 + 1, 0, none⟩ = some (.slice (some ⟨b, o, none⟩) N c) := by rw [← hW5]; simp [go_sem]
  have hcb : Blk W5 (w.heap.size + 1 + 1) #[.map (some (w.heap.size + 1)), .int .i64 0] := by
    rw [← hW5]
    refine Blk.alloc (Blk.alloc ?_ _) _
    have := Blk.new ((w.alloc (.cells #[.slice (some ⟨b, o, none⟩) N c, .slice none 0 0] 49)).alloc (.map #[] 0)) #[.map (some (w.heap.size + 1)), .int .i64 0] 73
    rw [World.size_alloc, World.size_alloc] at this
    exact this
  have hmp : WMap W5 (w.heap.size + 1) ConV := by
    rw [← hW5]
    have h1 := WMap.new (w.alloc (.cells #[.slice (some ⟨b, o, none⟩) N c, .slice none 0 0] 49)) ConV
    rw [World.size_alloc] at h1
    exact ((WMap.alloc h1 _).alloc _).alloc _
  have hcs : Cons W5 b o N := hC.below hbel hb
  rw [hW5]
  clear hW5 hC
  apply wpIn_rangeFunc_ownH (F := Fence.wide) rfl (by omega) (gf := 69) (lb := #[.pointer (some ⟨w.heap.size + 1 + 1 + 1 + 1, 0, none⟩)]) rfl trivial (enters_of Try.func69 (by kernel_rfl) rfl)
    (back_stops _ (by omega) (w.heap.size + 1 + 1 + 1 + 1) b o N c hN W5 (by omega) (by omega) f4 hcs) keepsC_t (fun W l o o' _ h ho _ => keepsC_b W l o o' h ho) (Below.refl _ _) (fun _ => rfl)
    (fun (_ : List CoE) W => (W.cell? ⟨w.heap.size + 1 + 1 + 1, 0, none⟩ = some (.pointer (some ⟨w.heap.size + 1 + 1, 0, none⟩)) ∧ Blk W (w.heap.size + 1 + 1) #[.map (some (w.heap.size + 1)), .int .i64 0] ∧ WMap W (w.heap.size + 1) ConV) ∧ Below w.heap.size w W)
    (fun _ _ _ => False)
    (OwnFrom.and (fun s A B row hs hg hr => ⟨cell_kept hs.1 hg (fun r e => (hr r e).2), hs.2.1.of_same (hg.block _ hs.2.1.lt (fun e => by have := (hr _ e.symm).1; omega)) hg.size, hs.2.2.of_same (hg.block _ hs.2.2.lt (fun e => by have := (hr _ e.symm).1; omega))⟩) (ownFrom_below (Nat.le_refl _) (by omega)))
    (fun _ _ _ _ _ hs _ _ => hs)
    ⟨⟨f3, hcb, hmp⟩, hbel⟩
    (fun x a' W => ∃ g, a' = { tmps := #[.agg #[.slice (some ⟨b, o, none⟩) N c, .slice none 0 0], .pointer (some ⟨w.heap.size, 0, none⟩), .pointer none, .pointer (some ⟨w.heap.size + 1 + 1 + 1, 0, none⟩), undef, .pointer (some ⟨g, 0, none⟩), .map (some (w.heap.size + 1)), .agg #[.map (some (w.heap.size + 1)), .int .i64 0], .pointer (some ⟨w.heap.size + 1 + 1, 0, none⟩), .pointer (some ⟨w.heap.size, 0, none⟩), .slice (some ⟨b, o, none⟩) N c, .func (.func 69) #[] #[.pointer (some ⟨w.heap.size + 1 + 1 + 1 + 1, 0, none⟩)], .int .i64 x.1, conE x, undef, undef, undef, undef, undef, undef, undef, undef], defers := [] } ∧ W.cell? ⟨g, 0, none⟩ = some (.string x.2.1) ∧ W.cell? ⟨g, 1, none⟩ = some (.int .i64 x.2.2.1) ∧ W.cell? ⟨g, 2, none⟩ = some (.string x.2.2.2.1) ∧ W.cell? ⟨g, 3, none⟩ = some (.int .i64 x.2.2.2.2))
    (fun x a' s A B row ⟨g, h0, h1, h2, h3, h4⟩ hg hr => ⟨g, h0, cell_kept h1 hg (fun r e => (hr r e).2), cell_kept h2 hg (fun r e => (hr r e).2), cell_kept h3 hg (fun r e => (hr r e).2), cell_kept h4 hg (fun r e => (hr r e).2)⟩)
  case hassign =>
    rintro l pre ⟨i, ca, cn, ct, cg⟩ W K ⟨⟨h1, h2, h3⟩, hB⟩ hK
    gi_wp2
    refine hK _ _ (KeepsFrom.of_grownBy (World.grownBy_alloc W _ none) (fun j e => by cases e)) (fun b1 o1 v _ hv => ?_) ⟨⟨?_, h2.alloc _, h3.below ((Below.refl _ W).alloc (Nat.le_refl _) _)⟩, hB.alloc hB.size _⟩ ⟨_, rfl, (Blk.new W _ _).cell 0, (Blk.new W _ _).cell 1, (Blk.new W _ _).cell 2, (Blk.new W _ _).cell 3⟩
    · exact (((Below.refl _ W).alloc (Nat.le_refl _) _).cell (p := ⟨b1, o1, none⟩) (World.block_lt_of_cell? W ⟨b1, o1, none⟩ hv)).trans hv
    · exact (((Below.refl _ W).alloc (Nat.le_refl _) _).cell (p := ⟨_, _, none⟩) (World.block_lt_of_cell? W ⟨_, _, none⟩ h1)).trans h1
  case hbody =>
    rintro l pre ⟨i, ca, cn, ct, cg⟩ a' W hl _ ⟨⟨h1, h2, h3⟩, hB⟩ ⟨g, rfl, c0, c1, c2, c3⟩ hlen
    simp only at c0 c1 c2 c3
    have h3d := h3.below ((Below.refl _ W).drew)
    obtain ⟨W6, hput, hg6, h6⟩ := weak_put h3d ca Try.underlying71 (v := .agg #[.string ca, .int .i64 cn, .string ct, .int .i64 cg]) ⟨_, _, _, _, rfl⟩
    have x0 := h2.cell 0
    simp only [List.getElem?_toArray, List.getElem?_cons_zero] at x0
    have hg7 := grown_of_drewS hg6
    have hmb := h3.lt
    have hmo : ∃ ob : Obj, W.heap[w.heap.size + 1]? = some ob ∧ ob.isCells = false := by obtain ⟨ms, ck, hh, -⟩ := h3; exact ⟨_, hh, rfl⟩
    have hres : KeepsFrom W5.heap.size W W6 ∧ KeepsC (w.heap.size + 1 + 1 + 1 + 1) b W W6 ∧ (W6.cell? ⟨w.heap.size + 1 + 1 + 1, 0, none⟩ = some (.pointer (some ⟨w.heap.size + 1 + 1, 0, none⟩)) ∧ Blk W6 (w.heap.size + 1 + 1) #[.map (some (w.heap.size + 1)), .int .i64 0] ∧ WMap W6 (w.heap.size + 1) ConV) ∧ Below w.heap.size w W6 := by
      have hrow : ∀ r, (some (w.heap.size + 1) : Option Nat) = some r → ∃ ob : Obj, W.heap[r]? = some ob ∧ ob.isCells = false := fun r e => by cases e; exact hmo
      refine ⟨KeepsFrom.of_grownBy hg7 (fun j e => by cases e; omega), fun b1 o1 v _ hv => cell_kept hv hg7 hrow, ⟨cell_kept h1 hg7 hrow, h2.grown hg7 (by omega), h6⟩, hB.grown hg7 hB.size (fun i e => by cases e; omega)⟩
    have Hres := Lib.hid hres
    have hmix := mixE
    clear hres h2 h3 hB h3d hg6 h6 hg7 hmb hmo hlen f3 f4 hcb hmp hbel hcs
    gi_wp2_with (fail)
    gi_region_o
    all_goals
      gi_wp2
      exact Hres.out
  case hdone =>
    rintro D ys W hD _ ⟨⟨h1, h2, h3⟩, hB⟩ hK
    gi_wp2
    refine ⟨by simp, .inl ⟨_, _, rfl, run_takeDeferred hK, ?_⟩⟩
    refine ⟨_, results_tmp rfl _ _ _, _, _, rfl, h2.of_same (World.putObj_heap_other (by omega)) (by simp), h3.of_same (World.putObj_heap_other (by omega)), by omega, hB.trans (belowK_b (w := w) (Nat.le_refl _) W D _ _ (by omega) hK rfl rfl)⟩
  case hstop =>
    rintro D c pre W _ _ h _
    exact h.elim
end Go.Proofs.Ytkcgchpflppmnaa
