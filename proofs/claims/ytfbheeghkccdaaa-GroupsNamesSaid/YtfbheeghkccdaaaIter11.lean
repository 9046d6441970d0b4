/- slices.Collect(slices.Values(l)) of a slice of whole numbers: a new slice with the same numbers. By the shelf's laws on a range over a function (Derived.Shelf.SlIterI.Collect); the iterator of slices.Values is walked here. (This text has this seat's numbers written in.) -/
import Derived.Test.YtfbheeghkccdaaaEvX
import Derived.Test.YtfbheeghkccdaaaProg
import Derived.Shelf.SlIterI.Collect
import Derived.WalkKit
noncomputable section
namespace Go.Proofs.Ytfbheeghkccdaaa.Iter
open Go.RowKit Go.Maps Go.Sort Go.Shelf
set_option linter.unusedVariables false
set_option linter.unusedSimpArgs false

def ρ : Go.Shelf.Ren := ⟨fun | 11 => 44 | 8 => 41 | n => n, fun | 24 => 30 | 26 => 3 | 28 => 68 | 33 => 79 | n => n, fun n => n⟩
theorem lays : SlLaysZI.n11 Try.prog ρ := {
  mixed := by kernel_rfl
  f11 := ⟨Try.f44.name, by decide, Try.func44.trans (congrArg some (by kernel_rfl))⟩
  t0 := Try.underlying0
  a0 := Try.isAgg0
  z0 := Try.sizeOf0
  v0 := Try.zeroValue0
  t24 := Try.underlying30
  a24 := Try.isAgg30
  z24 := Try.sizeOf30
  v24 := Try.zeroValue30
  t26 := Try.underlying3
  a26 := Try.isAgg3
  z26 := Try.sizeOf3
  v26 := Try.zeroValue3
  t28 := Try.underlying68
  a28 := Try.isAgg68
  z28 := Try.sizeOf68
  v28 := Try.zeroValue68
  i26 := by kernel_rfl }

/-- The numbers of a slice: they lie in old blocks. -/
structure Lies (w : World) (Bm Bo : Nat) (sv : Value) (a : Option Addr) (n cap : Nat) (zs : List Int) : Prop where
  spelt : sv = .slice a n cap
  lt : Bm < w.heap.size
  box : w.cell? ⟨Bm, Bo, none⟩ = some sv
  len : zs.length = n
  big : n ≤ 1099511627776
  cells : ∀ i (h : i < zs.length), ∃ b o, a = some ⟨b, o, none⟩ ∧ b < w.heap.size ∧ w.cell? ⟨b, o + i, none⟩ = some (.int .i64 zs[i])
theorem Lies.later {w W : World} {Bm Bo : Nat} {sv : Value} {a : Option Addr} {n cap : Nat} {zs : List Int} (h : Lies w Bm Bo sv a n cap zs) (hb : Below w.heap.size w W) : Lies W Bm Bo sv a n cap zs :=
  ⟨h.spelt, Nat.lt_of_lt_of_le h.lt hb.size, (hb.cell (p := ⟨Bm, Bo, none⟩) h.lt).trans h.box, h.len, h.big, fun i hi => by
    obtain ⟨b, o, h1, h2, h3⟩ := h.cells i hi
    exact ⟨b, o, h1, Nat.lt_of_lt_of_le h2 hb.size, (hb.cell (p := ⟨b, o + i, none⟩) h2).trans h3⟩⟩

set_option maxRecDepth 100000 in
set_option maxHeartbeats 1000000 in
/-- The iterator of slices.Values: the numbers come, one by one, in their order, as long as nothing that lay before is turned. -/
theorem values_in (n0 : Nat) (hn : 1 ≤ n0) (l : Nat) (w : World) (Bm Bo : Nat) (sv : Value) (a : Option Addr) (n cap : Nat) (zs : List Int) (hL : Lies w Bm Bo sv a n cap zs) (J : List Int → World → Prop)
    (hJb : ∀ pre W, J pre W → Below w.heap.size w W)
    (hY : ∀ pre x W, J pre W → pre.length < n → YieldAt Fence.wide (n0 - 1) Try.prog l #[encZ x] W fun e W' => e = .returned (.bool true) ∧ J (pre ++ [x]) W' ∧ KeepsWalks W W')
    (W : World) (h0 : J [] W) :
    CallsIn Fence.wide n0 Try.prog 43 #[.func (.yield l) #[] #[], .pointer (some ⟨Bm, Bo, none⟩)] W fun e W' => (∃ v, e = .returned v) ∧ J zs W' := by
  have hsp := hL.spelt
  subst hsp
  have hLW := hL.later (hJb [] W h0)
  have hbox := hLW.box
  have hlen := hL.len
  have hbig := hL.big
  refine callsIn_of_wp Try.func43 rfl trivial ?_ rfl
  simp only [Try.ntmps43, List.size_toArray, List.length_cons, List.length_nil, Nat.reduceAdd, Nat.reduceSub, Array.replicate_succ, Array.replicate_zero, List.push_toArray, List.append_toArray, List.nil_append, List.cons_append]
  gi_wp2
  gi_loopw [7] (fun i wr => ∃ k : Nat, k ≤ n ∧ i = .int .i64 k ∧ J (zs.take k) wr)
    (fun i _ => n - (Go.RowKit.intOf i).toNat)
  case atStart =>
    exact ⟨0, Nat.zero_le _, rfl, by simpa using h0⟩
  case round =>
    obtain ⟨k, hk, rfl, hJk⟩ := hrel
    by_cases hlt : k < n
    · obtain ⟨b, o, rfl, hblt, hc⟩ := hL.cells k (by omega)
      have hcell : wr.cell? ⟨b, o + k, none⟩ = some (.int .i64 zs[k]) := ((hJb _ _ hJk).cell (p := ⟨b, o + k, none⟩) hblt).trans hc
      obtain ⟨fn, tmps, assign, body, hy, hR⟩ := hY (zs.take k) zs[k] wr hJk (by rw [List.length_take]; omega)
      have hts : zs.take k ++ [zs[k]] = zs.take (k + 1) := by rw [List.take_succ_eq_append_getElem]
      rw [hts] at hR
      have hd : decide ((k : Int) < (n : Int)) = true := decide_eq_true (by omega)
      clear hts
      gi_wp2
      refine hR.mono ?_
      rintro e W3 ⟨rfl, hJ3, hk3⟩
      gi_wp2
      go_roundw
      case rel => exact ⟨k + 1, by omega, by go_num, hJ3⟩
      case measure => simp [Go.RowKit.intOf]; omega
    · have hd : decide ((k : Int) < (n : Int)) = false := decide_eq_false (by omega)
      obtain rfl : k = n := by omega
      gi_wp2
      go_end0
      exact ⟨⟨_, rfl⟩, by rw [List.take_of_length_le (by omega)] at hJk; exact hJk⟩

set_option maxRecDepth 100000 in
set_option maxHeartbeats 2000000 in
/-- slices.AppendSeq(nil, slices.Values(l)). -/
theorem append_in (n0 : Nat) (hn : 2 ≤ n0) (w : World) (Bm Bo : Nat) (sv : Value) (a : Option Addr) (m cap : Nat) (zs : List Int) (hL : Lies w Bm Bo sv a m cap zs) :
    CallsIn Fence.wide n0 Try.prog 44 #[.slice none 0 0, .func (.func 43) #[] #[.pointer (some ⟨Bm, Bo, none⟩)]] w fun e w' => ∃ (v : Value), e = .returned v ∧ w'.ownsRow w.heap.size 3 1 v zs.length (zs.map encZ) ∧ (v = .slice none 0 0 ↔ zs = []) ∧ Below w.heap.size w w' := by
  have h1 : 1 ≤ n0 := by omega
  have L := lays
  have mixed := L.mixed; have t0 := L.t0; have a0 := L.a0; have z0 := L.z0; have v0 := L.v0; have t24 := L.t24; have a24 := L.a24; have z24 := L.z24; have v24 := L.v24; have t26 := L.t26; have a26 := L.a26; have z26 := L.z26; have v26 := L.v26; have t28 := L.t28; have a28 := L.a28; have z28 := L.z28; have v28 := L.v28
  have hne : ρ.t 24 ≠ ρ.t 26 := by decide
  have u0 := run_underlying L.t0; have u24 := run_underlying L.t24; have u26 := run_underlying L.t26; have u28 := run_underlying L.t28
  have hlen := hL.len
  have hbig := hL.big
  have eg : ∀ args w, (callFunc 43 args).run Try.prog w = .ok (.enter 43 args) w := enters_of Try.func43 (by kernel_rfl) rfl
  obtain ⟨lb, hlb⟩ : ∃ lb : Array Value, lb = #[.pointer (some ⟨Bm, Bo, none⟩)] := ⟨_, rfl⟩
  rw [← hlb]
  obtain ⟨_, _, FG⟩ := L.f11
  refine callsIn_of_wp_marks FG rfl trivial ?_ rfl
  simp only [SlBodyZ.n11_ntmps ρ, List.size_toArray, List.length_cons, List.length_nil, Nat.reduceAdd, Nat.reduceSub, Array.replicate_succ, Array.replicate_zero, List.push_toArray, List.append_toArray, List.nil_append, List.cons_append]
  gi_wp2
  refine wpIn_rangeFunc ?_
  intro fn hfn
  obtain ⟨W0, hW0⟩ : ∃ W0, w.alloc (.cells #[.slice none 0 0] (ρ.t 24)) = W0 := ⟨_, rfl⟩
  have hs0 : W0.heap.size = w.heap.size + 1 := by rw [← hW0]; simp
  have hv0 : W0.heap[w.heap.size]? = some (.cells #[.slice none 0 0] (ρ.t 24) (0, 0)) := by rw [← hW0]; exact World.alloc_heap_new w _
  have hb0 : Below w.heap.size w W0 := by rw [← hW0]; exact (Below.refl _ w).alloc (Nat.le_refl _) _
  rw [hW0]
  obtain ⟨W1, hW1⟩ : ∃ W1, (W0.alloc (.deferred (some []))).alloc (.loop (AnyZI.apRec ρ fn (.func (.func 43) #[] lb) w.heap.size W0.heap.size .ready none)) = W1 := ⟨_, rfl⟩
  have hold : ∀ k, k < W0.heap.size → W1.heap[k]? = W0.heap[k]? := fun k hk => by
    rw [← hW1]; exact (Below.heap_alloc _ _ k (by simp; omega)).trans (Below.heap_alloc _ _ k hk)
  have hb1 : Below w.heap.size w W1 := by rw [← hW1]; exact (hb0.alloc hb0.size _).alloc (by have := hb0.size; simp; omega) _
  have hs1 : W1.heap.size = W0.heap.size + 2 := by rw [← hW1]; simp
  have hM : AnyZI.ApAt ρ w fn (.func (.func 43) #[] lb) w.heap.size (W0.heap.size + 1) W0.heap.size [] W1 :=
    ⟨⟨_, (hold w.heap.size (by omega)).trans hv0, ⟨rfl, .inl ⟨rfl, rfl⟩⟩, by simp⟩,
     by rw [← hW1]; have := World.alloc_heap_new (W0.alloc (.deferred (some []))) (.loop (AnyZI.apRec ρ fn (.func (.func 43) #[] lb) w.heap.size W0.heap.size .ready none)); rwa [World.size_alloc] at this,
     by rw [← hW1]; exact (Below.heap_alloc _ _ _ (by simp)).trans (World.alloc_heap_new W0 _), hb1⟩
  refine ⟨W0.heap.size + 1, [{ target := .collected W0.heap.size, args := #[] }], W1, { target := .fn (.func 43) lb, args := #[.func (.yield (W0.heap.size + 1)) #[] #[]] }, W1, 43,
    #[.func (.yield (W0.heap.size + 1)) #[] #[]] ++ lb, W1, ?_, ?_, ?_, ?_, fun _ => h1, ?_⟩
  · rw [← hW1]; exact run_enterLoop_outer _ _ _ _ _
  · simp [resolve, go_sem]
  · intro f' hf'; trivial
  · simp [invoke, go_sem, eg]
  · have hv := values_in (n0 - 1) (by omega) (W0.heap.size + 1) w Bm Bo sv a m cap zs hL (AnyZI.ApAt ρ w fn (.func (.func 43) #[] lb) w.heap.size (W0.heap.size + 1) W0.heap.size)
      (fun pre W h => h.below)
      (fun pre x W hJ hl => AnyZI.apYield { L with } Fence.wide (n0 - 1 - 1) w fn hfn _ w.heap.size (W0.heap.size + 1) W0.heap.size (by omega) (by omega) (by omega) (Nat.le_refl _) (by omega) m (by unfold maxLen; omega) (by omega) pre x W hJ hl) W1 hM
    rw [show (#[Value.func (.yield (W0.heap.size + 1)) #[] #[]] ++ lb : Array Value) = #[.func (.yield (W0.heap.size + 1)) #[] #[], .pointer (some ⟨Bm, Bo, none⟩)] by rw [hlb]; rfl]
    refine hv.mono ?_
    rintro e W2 ⟨⟨v0, rfl⟩, h2⟩
    obtain ⟨v, hv, hrow, hnil⟩ := h2.box
    have hend := run_endLoop (P := Try.prog) h2.L (by simp [AnyZI.apRec])
    obtain ⟨W3, hW3⟩ : ∃ W3, W2.putObj (W0.heap.size + 1) (.loop { AnyZI.apRec ρ fn (.func (.func 43) #[] lb) w.heap.size W0.heap.size .ready none with state := .exhausted }) = W3 := ⟨_, rfl⟩
    rw [hW3] at hend
    have hg3 : W2.grownBy W3 (some (W0.heap.size + 1)) := by rw [← hW3]; exact grownBy_putObj_a _ _ _
    have hv3 : W3.heap[w.heap.size]? = some (.cells #[v] (ρ.t 24) (0, 0)) := by rw [← hW3]; exact (World.putObj_heap_other (by omega)).trans hv
    have hK3 : W3.heap[W0.heap.size]? = some (.deferred (some [])) := by rw [← hW3]; exact (World.putObj_heap_other (by omega)).trans h2.K
    have hrow3 := hrow.kept hg3 (ownsRow_ne_a hrow h2.L (fun cur e => by first | cases e | exact hne (Obj.cells.inj e).2.1))
    have hb3 : Below w.heap.size w W3 := h2.below.grown hg3 h2.below.size (fun k e => by cases e; omega)
    obtain ⟨hc3, hf3⟩ := cell_of_box_a hv3
    clear hW3
    refine ⟨none, W3, hend, ?_⟩
    gi_wp2
    rw [← hs0]
    refine ⟨by simp, .inl ⟨_, _, rfl, run_takeDeferred hK3, ?_⟩⟩
    exact ⟨_, results_tmp rfl _ _ _, v, rfl, hrow3.kept (grownBy_putObj_a _ _ _) (ownsRow_ne_a hrow3 hK3 (fun cur e => by first | cases e | exact hne (Obj.cells.inj e).2.1)), hnil, hb3.grown (grownBy_putObj_a _ _ _) hb3.size (fun k e => by cases e; omega)⟩

set_option maxRecDepth 100000 in
/-- slices.Collect(slices.Values(l)). -/
theorem collect_any (w : World) (Bm Bo : Nat) (sv : Value) (a : Option Addr) (m cap : Nat) (zs : List Int) (hL : Lies w Bm Bo sv a m cap zs) :
    Calls Try.prog 41 #[.func (.func 43) #[] #[.pointer (some ⟨Bm, Bo, none⟩)]] w fun e w' => ∃ (v : Value), e = .returned v ∧ w'.ownsRow w.heap.size 3 1 v zs.length (zs.map encZ) ∧ (v = .slice none 0 0 ↔ zs = []) ∧ Below w.heap.size w w' := by
  have c := (callsIn_wide (n := 2)).1 (append_in 2 (by omega) w Bm Bo sv a m cap zs hL)
  go_enter Try.func41, Try.ntmps41
  go_wp2_with fail
  refine c.mono ?_
  rintro e w' ⟨v, rfl, hrow, hnil, hb⟩
  go_wp2
  go_ret
  exact ⟨v, rfl, hrow, hnil, hb⟩

open Ev in
/-- The numbers of a row of cells. -/
def ints : List AV → Option (List Int)
  | [] => some []
  | .int .i64 z :: vs => match ints vs with
    | some l => some (z :: l)
    | none => none
  | _ => none
open Ev in
theorem ints_ok {ν : Nat → Value} {E : Env} : ∀ {l : List AV} {zs : List Int} {xs : List Value}, ints l = some zs → VL ν E l xs → xs = zs.map encZ ∧ l = zs.map (fun z => AV.int .i64 z)
  | [], zs, xs, h, hx => by
    simp only [ints, Option.some.injEq] at h; subst h
    simp only [VL] at hx; subst hx
    simp
  | v :: vs, zs, xs, h, hx => by
    simp only [VL] at hx
    obtain ⟨y, ys, rfl, h1, h2⟩ := hx
    unfold ints at h
    split at h
    · rename_i heq; cases heq
    · rename_i z vs' heq
      cases heq
      split at h
      · rename_i l' hl
        simp only [Option.some.injEq] at h; subst h
        obtain ⟨e1, e2⟩ := ints_ok hl h2
        have := h1.int_inv; subst this
        exact ⟨by rw [e1]; rfl, by rw [e2]; rfl⟩
      · cases h
    · cases h
open Ev in
def collectArgs (args : List AV) (M : Mem) : Option (List (AV × Mem)) := match args with
  | [.fn 43 [] [.ptr b o]] => match M.get b with
    | some (.cells K) => match K.get o with
      | some sv => match alen sv, isStr sv with
        | some n, false => match acells M 1 n sv with
          | some l => match ints l, Nat.ble n 1099511627776 with
            | some _, true => match l with
              | [] => some [(.nslice, M)]
              | v :: vs => some [(.slic M.k 0 n 1, (M.new (.cells (Blk.ofList (v :: vs)))).unset)]
            | _, _ => none
          | none => none
        | _, _ => none
      | none => none
    | _ => none
  | _ => none
open Ev in
def collectT : CF := fun f args M => Bool.rec (motive := fun _ => Option (List (AV × Mem))) none (collectArgs args M) (Nat.beq f 41)
open Ev in
/-- A block that is there and that nothing known names yet. -/
theorem adopt {ν : Nat → Value} {B : Zone} {w0 w : World} {E : Env} {M : Mem} (h : MR ν B w0 E M w) {g : Nat} {cur : Array Value} {t : TypeId} (hg : w.heap[g]? = some (.cells cur t (0, 0))) (hno : ∀ b o p, M.get b = some o → E b = some p → p.1 ≠ g) (hz : B.z g = none) (hB : B.n ≤ g)
    (K : Blk) (hm : K.m ≤ cur.size) (hc : ∀ i v, K.get i = some v → ∃ x, cur[i]? = some x ∧ V ν E v x) : MR ν B w0 (E.put M.k (g, 0, cur.size)) (M.new (.cells K)) w := by
  have hle := h.le_put (g, 0, cur.size)
  have hnext : (E.put M.k (g, 0, cur.size)) M.next = none := by
    unfold Env.put
    rw [if_neg (by have := M.k_lt_next; omega)]
    cases e : E M.next with
    | none => rfl
    | some p => have := h.dom _ p e; have := M.n_le_next; omega
  have hget : ∀ c oc, (M.new (.cells K)).get c = some oc → (c = M.k ∧ oc = .cells K) ∨ (c ≠ M.k ∧ M.get c = some oc) := by
    intro c oc k
    rw [Mem.get_new] at k
    split at k
    · rename_i e; simp at k; exact .inl ⟨e.symm, k.symm⟩
    · rename_i e; exact .inr ⟨fun x => e x.symm, k⟩
  refine ⟨h.low, h.kept, h.big, fun c q e => ?_, hnext, fun c q e => ?_, fun c oc q k e => ?_, fun c oc k => ?_, fun c c' o1 o2 q q' k k' e e' hq => ?_⟩
  · rw [Mem.new_n]
    unfold Env.put at e
    split at e
    · rename_i hb; have := M.k_lt_next; omega
    · have := h.dom c q e; have := M.n_le_next; omega
  · unfold Env.put at e
    split at e
    · simp at e; subst e; exact hB
    · exact h.rng c q e
  · rcases hget c oc k with ⟨rfl, rfl⟩ | ⟨hc', k⟩
    · rw [Env.put_self] at e
      simp at e; subst e
      exact hz
    · unfold Env.put at e
      rw [if_neg (fun x => hc' x.symm)] at e
      exact h.off c oc q k e
  · rcases hget c oc k with ⟨rfl, rfl⟩ | ⟨_, k⟩
    · refine ⟨_, Env.put_self _ _ _, cur, t, (0, 0), hg, by simp, hm, .inl rfl, fun i v hv => ?_⟩
      obtain ⟨x, h1, h2⟩ := hc i v hv
      exact ⟨x, by simpa using h1, V.mono hle _ _ h2⟩
    · obtain ⟨q, e, r⟩ := h.obj c oc k
      exact ⟨q, hle _ _ e, r.mono hle rfl⟩
  · rcases hget c o1 k with ⟨rfl, rfl⟩ | ⟨hc1, k⟩
    · rcases hget c' o2 k' with ⟨rfl, rfl⟩ | ⟨hc', k'⟩
      · rfl
      · rw [Env.put_self] at e
        simp at e; subst e
        unfold Env.put at e'
        rw [if_neg (fun x => hc' x.symm)] at e'
        exact absurd hq.symm (hno c' o2 q' k' e')
    · unfold Env.put at e
      rw [if_neg (fun x => hc1 x.symm)] at e
      rcases hget c' o2 k' with ⟨rfl, rfl⟩ | ⟨hc', k'⟩
      · rw [Env.put_self] at e'
        simp at e'; subst e'
        exact absurd hq (hno c o1 q k e)
      · unfold Env.put at e'
        rw [if_neg (fun x => hc' x.symm)] at e'
        exact h.inj c c' o1 o2 q q' k k' e e' hq
open Ev in
theorem collectT_ok {ν : Nat → Value} : CFok Try.prog collectT ν := by
  intro B w0 f args M outs ho hk E xs w hx hM
  unfold collectT at ho
  cases e : Nat.beq f 41 with
  | false => rw [e] at ho; have ho : none = some outs := ho; cases ho
  | true =>
    rw [e] at ho
    replace ho : collectArgs args M = some outs := ho
    have e := Nat.eq_of_beq_eq_true e
    subst e
    unfold collectArgs at ho
    split at ho
    case h_2 => cases ho
    rename_i b o
    split at ho
    case h_2 => cases ho
    rename_i K hK
    split at ho
    case h_2 => cases ho
    rename_i sv hsv
    split at ho
    case h_2 => cases ho
    rename_i n hn hst
    split at ho
    case h_2 => cases ho
    rename_i l hl
    split at ho
    case h_2 => cases ho
    rename_i zs hzs hbig
    have hbig := Nat.le_of_ble_eq_true hbig
    simp only [VL, V] at hx
    obtain ⟨x, xs1, e1, ⟨fa, fb, rfl, hfa, hfb⟩, e2⟩ := hx
    subst e2
    have hfa : fa = #[] := by cases fa; simpa using hfa
    obtain ⟨y, ys, hfb1, ⟨p, hp, rfl⟩, hys⟩ := hfb
    subst hys hfa
    have hfb : fb = #[.pointer (some ⟨p.1, p.2.1 + o, none⟩)] := by cases fb; simpa using hfb1
    subst hfb
    have hxs : xs = #[.func (.func 43) #[] #[.pointer (some ⟨p.1, p.2.1 + o, none⟩)]] := by cases xs; simpa using e1
    subst hxs
    obtain ⟨bv, hbox, hbV, _⟩ := hM.cell hK hp hsv
    obtain ⟨q, hq, hor⟩ := hM.obj b _ hK
    rw [hp] at hq
    simp at hq; subst hq
    obtain ⟨a, c, rfl⟩ := alen_slice hbV hn (fun l e => by subst e; simp [isStr] at hst)
    obtain ⟨vs, hvs, hrun, hlen⟩ := acells_ok (P := Try.prog) hM hbV hl (fun m hm => by rw [hn] at hm; simp at hm; omega)
    obtain ⟨ez, el⟩ := ints_ok hzs hvs
    have hzl : zs.length = n := by rw [el, List.length_map] at hlen; omega
    have hcells : ∀ i (h : i < zs.length), ∃ b o, a = some ⟨b, o, none⟩ ∧ b < w.heap.size ∧ w.cell? ⟨b, o + i, none⟩ = some (.int .i64 zs[i]) := by
      intro i hi
      have hli : l[i]? = some (.int .i64 zs[i]) := by rw [el, List.getElem?_map, List.getElem?_eq_getElem hi]; rfl
      unfold acells at hl
      split at hl
      · rename_i b' o' m' c'
        obtain ⟨p', hp', hx'⟩ := hbV.slice_inv
        simp only [Value.slice.injEq] at hx'
        obtain ⟨rfl, rfl, rfl⟩ := hx'
        split at hl
        case h_2 => cases hl
        rename_i K' hK'
        have hg := Blk.getL_get hl i (by omega)
        rw [hli] at hg
        obtain ⟨z, hz1, hz2, _⟩ := hM.cell hK' hp' hg
        have := hz2.int_inv; subst this
        obtain ⟨q', hq', hor'⟩ := hM.obj b' _ hK'
        rw [hp'] at hq'
        simp at hq'; subst hq'
        exact ⟨p'.1, p'.2.1 + o', rfl, hor'.lt, by rw [Nat.add_assoc]; exact hz1⟩
      · rename_i b' o' m' z'
        obtain ⟨p', c', o2, hp', hx', hnc, hcz, hzp, ho2⟩ := hbV.slic_inv
        simp only [Value.slice.injEq] at hx'
        obtain ⟨rfl, rfl, rfl⟩ := hx'
        split at hl
        · simp only [Option.some.injEq] at hl; subst hl; simp at hli
        · split at hl
          case h_2 => cases hl
          rename_i K' hK'
          have hg := Blk.getL_get hl i (by omega)
          rw [hli] at hg
          obtain ⟨z, hz1, hz2, _⟩ := hM.cell hK' hp' hg
          have := hz2.int_inv; subst this
          obtain ⟨q', hq', hor'⟩ := hM.obj b' _ hK'
          rw [hp'] at hq'
          simp at hq'; subst hq'
          exact ⟨p'.1, o2, rfl, hor'.lt, by rw [ho2 (by omega), Nat.add_assoc]; exact hz1⟩
        · cases hl
      · split at hl
        · simp only [Option.some.injEq] at hl; subst hl; simp at hli
        · cases hl
      · split at hl
        · simp only [Option.some.injEq] at hl; subst hl; simp at hli
        · cases hl
      · rename_i s; simp [isStr] at hst
      · cases hl
    refine Calls.mono (collect_any w p.1 (p.2.1 + o) _ a n c zs ⟨rfl, hor.lt, hbox, hzl, hbig, hcells⟩) fun e w' he => ?_
    obtain ⟨v, rfl, hrow, hnil, hb⟩ := he
    have hM' := hM.below hb
    split at ho
    · simp only [Option.some.injEq] at ho; subst ho
      have hz0 : zs = [] := by cases zs with | nil => rfl | cons _ _ => simp at el
      obtain rfl := hnil.2 hz0
      exact ⟨_, List.mem_singleton.2 rfl, E, _, Late.refl _ _, rfl, by simp only [V], hM', hk⟩
    · rename_i u us
      simp only [Option.some.injEq] at ho; subst ho
      rcases hrow.2 with ⟨_, h0⟩ | ⟨g, cap', cur, rfl, hbase, hgb, hr1, hr2, hr3, hr4⟩
      · rw [hzl] at h0
        simp at hlen
        omega
      have hno : ∀ b o p, M.get b = some o → E b = some p → p.1 ≠ g := fun b o p k e => by
        obtain ⟨q, hq, r⟩ := hM.obj b o k
        rw [e] at hq
        simp at hq; subst hq
        have := r.lt
        omega
      have hz : B.z g = none := by
        cases ez : B.z g with
        | none => rfl
        | some O =>
          have := (Array.getElem?_eq_some_iff.1 (hM.kept g O ez)).1
          omega
      have hBg : B.n ≤ g := Nat.le_trans hM.big hbase
      have hA := adopt hM' hgb hno hz hBg (Blk.ofList (u :: us)) (by
          simp only [Blk.ofList]
          rw [hlen, hr3]; omega) (fun i v hv => by
          rw [Blk.get_ofList, el, List.getElem?_map] at hv
          cases ezi : zs[i]? with
          | none => rw [ezi] at hv; cases hv
          | some z =>
            rw [ezi] at hv
            simp only [Option.map_some, Option.some.injEq] at hv; subst hv
            refine ⟨.int .i64 z, ?_, by simp only [V]⟩
            have hi := (List.getElem?_eq_some_iff.1 ezi).1
            have h4 : (cur.toList.take (zs.length * 1))[i]? = (zs.map encZ)[i]? := by rw [hr4]
            rw [List.getElem?_take_of_lt (by omega), List.getElem?_map, ezi] at h4
            simpa using h4)
      refine ⟨_, List.mem_singleton.2 rfl, E.put M.k (g, 0, cur.size), _, ?_, rfl, ?_, hA.unset, rfl⟩
      · refine ⟨?_, hM'.le_put _, fun b hb' => ?_⟩
        · show M.n ≤ ((M.new (.cells (Blk.ofList (u :: us)))).unset).n
          have : ((M.new (.cells (Blk.ofList (u :: us)))).unset).n = M.next := by rw [← Mem.new_n]; cases (M.new (.cells (Blk.ofList (u :: us)))); rfl
          rw [this]; exact M.n_le_next
        · unfold Env.put
          rw [if_neg (by omega)]
      · simp only [V]
        refine ⟨_, cap', 0, Env.put_self _ _ _, by rw [hzl], by omega, ?_, by omega, fun _ => rfl⟩
        simp only; omega
end Go.Proofs.Ytfbheeghkccdaaa.Iter
