/- The contract of shaper.word: a word with its pointer's number. -/
import Derived.Test.YtlmljommgmbckaaHsG
import Derived.Test.YtlmljommgmbckaaHsE
import Derived.StillTailTactics
namespace Go.Proofs.Ytlmljommgmbckaa
open Go.RowKit
set_option linter.unusedSimpArgs false

structure ShI (w : World) (b : Nat) (L : HL) (gb : Nat) (H : HS) (gl : List Wd) (sb mb : Nat) (qv : Value) (l pend : List Int) (base : Nat) : Prop where
  G : GHeap w b L gb H gl
  blk : Blk w sb #[.pointer (some ⟨b, 0, none⟩), .map (some mb), qv]
  nums : NumsAt w mb l
  fine : FineL H l
  q : QAt w qv pend
  sm : sb ≠ mb
  qs : qv.ownBlock ≠ some sb
  qm : qv.ownBlock ≠ some mb
  foot : ∀ k, GFoot b L gb k → k < base
  bs : base ≤ sb
  bm : base ≤ mb
  bq : ∀ k, qv.ownBlock = some k → base ≤ k
theorem ShI.below {w w' : World} {b : Nat} {L : HL} {gb : Nat} {H : HS} {gl : List Wd} {sb mb : Nat} {qv : Value} {l pend : List Int} {base : Nat} (h : ShI w b L gb H gl sb mb qv l pend base) (hb : Below w.heap.size w w') : ShI w' b L gb H gl sb mb qv l pend base :=
  { h with G := h.G.below hb, blk := h.blk.below hb h.blk.lt, nums := h.nums.of_same (hb.block _ h.nums.lt), q := h.q.on (fun k hk => hb.block _ (h.q.lt k hk)) }
theorem GHeap.off {w w' : World} {b : Nat} {L : HL} {gb : Nat} {H : HS} {gl : List Wd} (h : GHeap w b L gb H gl) (hs : w.heap.size ≤ w'.heap.size) (ho : ∀ k, GFoot b L gb k → w'.heap[k]? = w.heap[k]?) : GHeap w' b L gb H gl :=
  ⟨h.inv.on hs (fun k hk => ho k (.inl hk)), h.ga.on (ho gb (.inr rfl)), h.snd⟩
/-- What the shaper turns. -/
def SFoot (sb mb : Nat) (qv : Value) (k : Nat) : Prop := k = sb ∨ k = mb ∨ qv.ownBlock = some k
theorem ShI.lt {w : World} {b : Nat} {L : HL} {gb : Nat} {H : HS} {gl : List Wd} {sb mb : Nat} {qv : Value} {l pend : List Int} {base : Nat} (h : ShI w b L gb H gl sb mb qv l pend base) (k : Nat) (hk : SFoot sb mb qv k) : k < w.heap.size ∧ base ≤ k := by
  rcases hk with rfl | rfl | hk
  · exact ⟨h.blk.lt, h.bs⟩
  · exact ⟨h.nums.lt, h.bm⟩
  · exact ⟨h.q.lt k hk, h.bq k hk⟩
/-- append, whatever its run is known to be, at a step of a region that draws. -/
theorem step_append_run {w : World} {ops : Array Oper} {o : Oper} {a : Act} {K : Act → World → Prop} {Q : Exit → Act → World → Prop} {E : Prop} (hgd : o.guard = none) (s x : Operand) (t1 t2 : TypeId) (ho : o.op = .call { callee := .builtin .append, args := #[s, x], argTypes := #[t1, t2] })
    (v1 v2 v : Value) (w' : World) (hs : a.eval s = v1) (hx : a.eval x = v2) (hrun : (Builtin.append_ #[t1, t2] o.type #[v1, v2]).run Try.prog w = .ok v w') (h : K (a.put o.dst v) w') :
    if Region.wanted o (yielded ops a.tmps) = true then Oper.wp Try.prog o a w K Q else E := by
  have hw : Region.wanted o (yielded ops a.tmps) = true := by simp [Region.wanted, hgd]
  rw [if_pos hw]
  unfold Oper.wp
  simp only [execOp, ho, resolve, invoke, builtin, Sem.run_bind, Sem.run_pure, Result.andThen_ok, List.map_toArray, List.map_cons, List.map_nil, hs, hx, hrun]
  exact h
theorem nums_len {w : World} {m : Nat} {l : List Int} (h : NumsAt w m l) (ty : TypeId) : (Builtin.len_ #[84] ty #[.map (some m)]).run Try.prog w = .ok (.int .i64 (l.length : Int)) w := by
  obtain ⟨ms, ck, h1, h2⟩ := h.size
  rw [run_len_map (P := Try.prog) w 84 ty m ms ck Try.underlying84 h1, h2]
  rfl

open Classical in
noncomputable def offM (wr : World) (bx : Nat) (z : Wd) : Nat := if wr.cell? ⟨bx, 0, none⟩ = some (.int .i64 z.1) ∧ wr.cell? ⟨bx, 1, none⟩ = some (.int .i64 z.2) then 0 else 1
theorem offM_zero {wr : World} {bx : Nat} {z : Wd} (h0 : wr.cell? ⟨bx, 0, none⟩ = some (.int .i64 z.1)) (h1 : wr.cell? ⟨bx, 1, none⟩ = some (.int .i64 z.2)) : offM wr bx z = 0 := if_pos ⟨h0, h1⟩
theorem offM_one {wr : World} {bx : Nat} {z y : Wd} (h0 : wr.cell? ⟨bx, 0, none⟩ = some (.int .i64 y.1)) (h1 : wr.cell? ⟨bx, 1, none⟩ = some (.int .i64 y.2)) (hne : y ≠ z) : offM wr bx z = 1 := by
  refine if_neg fun ⟨q1, q2⟩ => hne ?_
  rw [h0] at q1
  rw [h1] at q2
  simp at q1 q2
  exact Prod.ext q1 q2

set_option maxRecDepth 100000 in
set_option maxHeartbeats 4000000 in
theorem sword_any {w : World} {b : Nat} {L : HL} {gb : Nat} {H : HS} {gl : List Wd} {sb mb : Nat} {qv : Value} {l pend : List Int} {base : Nat} (h : ShI w b L gb H gl sb mb qv l pend base) (x : Wd) (hx : standsK H x.1 x.2 = true) (h1 : -9223372036854775808 ≤ x.2) (h2 : x.2 ≤ 9223372036854775807) (hp : pend.length ≤ 10000000) (hl : l.length ≤ 10000000) :
    Calls Try.prog 58 #[.pointer (some ⟨sb, 0, none⟩), .agg #[.int .i64 x.1, .int .i64 x.2]] w fun e w' => ∃ qv', e = .returned (.agg #[.int .i64 (wordS H l x).1.1, .int .i64 (wordS H l x).1.2]) ∧
      ShI w' b L gb H gl sb mb qv' (wordS H l x).2 (pend ++ (wordS H l x).2.drop l.length) base ∧ Off (SFoot sb mb qv) w w' ∧ (∀ k, qv'.ownBlock = some k → qv.ownBlock = some k ∨ w.heap.size ≤ k) := by
  obtain ⟨pq, cq, rfl⟩ := h.q.shape
  have hd := deref_fine h.G.snd hx
  have Hh := Lib.hid h
  obtain ⟨z0, hz0⟩ : ∃ z, derefS H x = z := ⟨_, rfl⟩
  have hz0' := hz0
  unfold derefS at hz0'
  rw [hz0] at hd
  have hrz : -9223372036854775808 ≤ z0.2 ∧ z0.2 ≤ 9223372036854775807 := by
    rw [← hz0']
    split
    · rename_i c
      by_cases hin : x.2.toNat + 1 < H.ws.length
      · exact h.G.inv.num _ (by unfold HS.word; rw [List.getD_eq_getElem?_getD, List.getElem?_eq_getElem hin]; exact List.getElem_mem _)
      · unfold HS.word
        rw [List.getD_eq_getElem?_getD, List.getElem?_eq_none (by omega)]
        exact ⟨by decide, by decide⟩
    · exact ⟨h1, h2⟩
  have hWS : wordS H l x = if z0.1 = 5 then if z0.2 ∈ l then ((5, (l.idxOf z0.2 : Int) + 1), l) else ((5, (l.length : Int) + 1), l ++ [z0.2]) else (z0, l) := by unfold wordS; rw [hz0]
  have HD := Lib.hid hd; have HWS := Lib.hid hWS; have HRz := Lib.hid hrz; have HZ := Lib.hid hz0'; have HX := Lib.hid hx
  have hst : (x.1 = 5 ∧ (headOf H x.2).k = 7) ∨ z0 = x := by
    by_cases c : x.1 = 5 ∧ (headOf H x.2).k = 7
    · exact .inl c
    · right; rw [if_neg c] at hz0'; exact hz0'.symm
  have HSt := Lib.hid hst
  clear hz0 hz0' hd hrz hWS hx hst h
  go_enter Try.func58, Try.ntmps58
  go_wp2
  generalize hW0 : (w.alloc (Obj.cells #[.int .i64 x.1, .int .i64 x.2] 32)).alloc (Obj.cells #[.int .i64 0, .int .i64 0] 32) = W0
  have B0 : Blk W0 w.heap.size #[.int .i64 x.1, .int .i64 x.2] := by rw [← hW0]; exact (Blk.new w _ _).alloc _
  have R0 : Blk W0 (w.heap.size + 1) #[.int .i64 0, .int .i64 0] := by
    have := Blk.new (w.alloc (Obj.cells #[.int .i64 x.1, .int .i64 x.2] 32)) #[.int .i64 0, .int .i64 0] 32
    rw [hW0] at this
    simpa using this
  have k0 : Below w.heap.size w W0 := by rw [← hW0]; exact (by ((repeat (first | exact Below.refl _ _ | (refine Below.alloc ?_ (by first | (simp [World.setCell]; done) | (simp [World.setCell]; omega)) _) | (refine Below.setCell ?_ (by first | (simp [World.setCell]; done) | (simp [World.setCell]; omega)) _) | refine Below.drew ?_ | (refine Below.trans ?_ ((below_drewN _ _).mono (by first | (simp [World.setCell]; done) | (simp [World.setCell]; omega))))))))
  have HB0 := Lib.hid B0; have HR0 := Lib.hid R0; have HK0 := Lib.hid k0
  clear hW0 B0 R0 k0
  go_loopw [11] (fun _ wr => ∃ z : Wd, Blk wr w.heap.size #[.int .i64 z.1, .int .i64 z.2] ∧ Off (fun k => k = w.heap.size) W0 wr ∧ (z = z0 ∨ (z = x ∧ x.1 = 5 ∧ (headOf H x.2).k = 7))) (fun _ wr => offM wr w.heap.size z0)
  case atStart =>
    refine ⟨x, HB0.out, Off.of_below (Below.refl _ _), ?_⟩
    rcases HSt.out with q | q
    · exact .inr ⟨rfl, q⟩
    · exact .inl q.symm
  case round =>
    obtain ⟨z, Bz, oz, hz⟩ := hrel
    have kx : Below w.heap.size w wr := HK0.out.trans (oz.below HK0.out.size (fun i hi => by omega))
    have hI := Hh.out.below kx
    have RB := oz.blk HR0.out (fun e => by omega)
    have bz := Bz.cell
    have rb := RB.cell
    have rf := RB.free
    have bf := Bz.free
    have HI := Lib.hid hI; have HBz := Lib.hid Bz; have HRB := Lib.hid RB; have HOz := Lib.hid oz; have HKx := Lib.hid kx
    have sblt := Hh.out.blk.lt
    have mblt := Hh.out.nums.lt
    clear hI Bz RB oz kx
    by_cases hzz : z = z0
    · subst hzz
      clear hz
      by_cases z5 : z.1 = 5
      · obtain ⟨hfin, hk7⟩ := HD.out.2 z5
        rw [z5] at bz
        have kh := fun n => head_at b L H (wr.drewN n) (HI.out.G.inv.drewN n) z.2 HRz.out.1 HRz.out.2
        obtain ⟨P, hP⟩ : ∃ P, headOf H z.2 = P := ⟨_, rfl⟩
        rw [hP] at kh hk7
        have KH := Lib.hid kh
        have c1 := HI.out.blk.cell
        have d7 : (P.k != 7) = true := by simpa using hk7
        clear kh hk7 hP
        go_upto_region 2 with fail
        go_quiet ((go_at_call 48; exact Calls.quiet_of (KH.out _)))
        go_upto_region 7 with fail
        generalize hW2 : wr.drewN nq = W2
        have kd : Below wr.heap.size wr W2 := by rw [← hW2]; exact belowN _ _
        have hI2 := HI.out.below kd
        have bz2 := (HBz.out.below kd HBz.out.lt).cell
        rw [z5] at bz2
        have RB2 := HRB.out.below kd HRB.out.lt
        have rb2 := RB2.cell
        have rf2 := RB2.free
        have c2 := hI2.blk.cell
        have kl := fun n => nums_lookup (w := W2.drewN n) (hI2.nums.of_same rfl) hI2.fine.1 z.2
        have K2 := HKx.out.trans (kd.mono HKx.out.size)
        have HKb2 := Lib.hid kd
        have HI2 := Lib.hid hI2; have HRB2 := Lib.hid RB2; have HK2 := Lib.hid K2
        by_cases hin : z.2 ∈ l
        · have hws : wordS H l x = ((5, (l.idxOf z.2 : Int) + 1), l) := by rw [HWS.out, if_pos z5, if_pos hin]
          rw [if_pos hin, show decide (z.2 ∈ l) = true from by simpa using hin] at kl
          clear hW2 kd hI2 RB2 K2 bz rb rf bf c1
          go_quiet (fail)
          go_wp2
          have RF := ((HRB2.out.drewN nq).set 0 (.int .i64 5) (by simp)).set 1 (.int .i64 ((l.idxOf z.2 : Int) + 1)) (by simp)
          have rff := RF.cell
          refine bodyPost_ret (v := .agg #[.int .i64 5, .int .i64 ((l.idxOf z.2 : Int) + 1)]) (by simp [results, Try.results58, go_sem, rff]) rfl ?_
          have kF : Below w.heap.size w (((W2.drewN nq).setCell ⟨w.heap.size + 1, 0, none⟩ (.int .i64 5)).setCell ⟨w.heap.size + 1, 1, none⟩ (.int .i64 ((l.idxOf z.2 : Int) + 1))) := ((HK2.out.trans (below_drewN' _ nq HK2.out.size)).setCell (by simp) _).setCell (by simp) _
          refine ⟨(.slice pq pend.length cq), by rw [hws], ?_, Off.of_below kF, fun k hk => .inl hk⟩
          rw [hws, List.drop_length, List.append_nil]
          exact Hh.out.below kF
        · have hI2' := hI2
          have hws : wordS H l x = ((5, (l.length : Int) + 1), l ++ [z.2]) := by rw [HWS.out, if_pos z5, if_neg hin]
          rw [if_neg hin, show decide (z.2 ∈ l) = false from by simpa using hin] at kl
          clear hW2 kd hI2 RB2 K2 bz rb rf bf c1
          have klen := fun n ty => nums_len (w := W2.drewN n) (hI2'.nums.of_same rfl) ty
          have hlw : IntKind.i64.wrap ((l.length : Int) + 1) = (l.length : Int) + 1 := IntWalk.i64_in _ (by omega)
          clear hI2'
          go_quiet (fail)
          go_upto_region 10 with fail
          generalize hW3 : W2.drewN nq = W3
          have kd3 : Below W2.heap.size W2 W3 := by rw [← hW3]; exact belowN _ _
          have hI3 := HI2.out.below kd3
          have bz3 : ∀ j, W3.cell? ⟨w.heap.size, j, none⟩ = _ := fun j => (show W3.cell? ⟨w.heap.size, j, none⟩ = W2.cell? ⟨w.heap.size, j, none⟩ from by rw [← hW3]; rfl).trans (bz2 j)
          have c3 := hI3.blk.cell
          have hd3 : NumsAt W3.drew mb l := hI3.nums.of_same rfl
          obtain ⟨W4, hmu, on4, nm4⟩ := nums_put hd3 hin
          have K3 := HK2.out.trans (kd3.mono HK2.out.size)
          have HI3 := Lib.hid hI3; have HK3 := Lib.hid K3; have HO4 := Lib.hid on4; have HN4 := Lib.hid nm4
          have HB3 := Lib.hid (HRB2.out.below kd3 HRB2.out.lt)
          have HZB3 := Lib.hid ((HBz.out.below (HKb2.out) HBz.out.lt).below kd3 (Nat.lt_of_lt_of_le HBz.out.lt HKb2.out.size))
          have HZ3 := Lib.hid bz3
          clear hW3 kd3 hI3 hd3 K3 on4 nm4 bz2 rb2 rf2 c2 kl klen
          go_still_tail 7, (by kernel_rfl)
          change wpList _ _ _ _ _ W3.drew
          go_wp2
          have ssm := HI3.out.sm
          have B4 : Blk W4 sb #[.pointer (some ⟨b, 0, none⟩), .map (some mb), (.slice pq pend.length cq)] := HO4.out.blk HI3.out.blk.drew ssm
          have hbxm : w.heap.size ≠ mb := fun e => by omega
          have Z4 := HO4.out.blk HZB3.out.drew hbxm
          have RB4 := HO4.out.blk HB3.out.drew (fun e => by omega)
          have Q4 : QAt W4 (.slice pq pend.length cq) pend := HI3.out.q.on (fun k hk => HO4.out.block k (fun e => HI3.out.qm (by rw [hk, e])))
          have NB := (Blk.new W4 #[.int .i64 z.2] 2).drew
          have s43 := HO4.out.size
          have s3w := HK3.out.size
          obtain ⟨v5, W5, hrun5, q5, g5, n5⟩ := QAt.push (W := (W4.alloc (.cells #[.int .i64 z.2] 2)).drew) (Q4.on (fun k hk => Below.heap_alloc _ _ _ (Q4.lt k hk))) 64 W4.heap.size 1 z.2 ((NB.cell 0).trans rfl) (by omega)
          obtain ⟨p5, cc5, rfl⟩ := q5.shape
          have b42 : W4.cell? ⟨sb, 2, none⟩ = some (.slice pq pend.length cq) := B4.cell 2
          have b42' : (W4.alloc (.cells #[.int .i64 z.2] 2)).cell? ⟨sb, 2, none⟩ = some (.slice pq pend.length cq) := (B4.alloc _).cell 2
          have z41 : W4.cell? ⟨w.heap.size, 1, none⟩ = some (.int .i64 z.2) := Z4.cell 1
          have z41' : (W4.alloc (.cells #[.int .i64 z.2] 2)).cell? ⟨w.heap.size, 1, none⟩ = some (.int .i64 z.2) := (Z4.alloc _).cell 1
          have sq := HI3.out.qs
          have B5 : Blk W5 sb #[.pointer (some ⟨b, 0, none⟩), .map (some mb), (.slice pq pend.length cq)] := ((B4.alloc _).drew).of_same (g5.block _ ((B4.alloc _).drew).lt (fun e => sq e.symm)) g5.size
          have RB5 : Blk W5 (w.heap.size + 1) #[.int .i64 0, .int .i64 0] := ((RB4.alloc _).drew).of_same (g5.block _ ((RB4.alloc _).drew).lt (fun e => by have := Hh.out.q.lt _ e.symm; omega)) g5.size
          have rb5 := RB5.cell
          have rf5 := RB5.free
          have HRB5 := Lib.hid RB5
          have b5 := B5.cell
          have f5 := B5.free
          have HB4 := Lib.hid B4; have HRB4 := Lib.hid RB4; have HQ5 := Lib.hid q5; have HG5 := Lib.hid g5; have HN5 := Lib.hid n5; have HB5 := Lib.hid B5
          clear B4 Z4 RB4 Q4 NB q5 g5 n5 B5 s43 s3w RB5
          go_region_law (refine step_append_run rfl _ _ _ _ rfl (.slice pq pend.length cq) (.slice (some ⟨W4.heap.size, 0, none⟩) 1 1) (.slice p5 (pend ++ [z.2]).length cc5) W5 rfl rfl hrun5 ?_)
          all_goals go_wp2
          all_goals
            have hrcs : w.heap.size + 1 ≠ sb := by omega
            have hrc5 := HRB5.out.lt
            have BF := (((HB5.out.set 2 (.slice p5 (pend ++ [z.2]).length cc5) (by simp)).other ⟨w.heap.size + 1, 0, none⟩ (.int .i64 5) hrcs.symm).other ⟨w.heap.size + 1, 1, none⟩ (.int .i64 ((l.length : Int) + 1)) hrcs.symm)
            have RF := (((HRB5.out.other ⟨sb, 2, none⟩ (.slice p5 (pend ++ [z.2]).length cc5) hrcs).set 0 (.int .i64 5) (by simp)).set 1 (.int .i64 ((l.length : Int) + 1)) (by simp))
            have hoth : ∀ k, k ≠ sb → k ≠ w.heap.size + 1 → (((W5.setCell ⟨sb, 2, none⟩ (.slice p5 (pend ++ [z.2]).length cc5)).setCell ⟨w.heap.size + 1, 0, none⟩ (.int .i64 5)).setCell ⟨w.heap.size + 1, 1, none⟩ (.int .i64 ((l.length : Int) + 1))).heap[k]? = W5.heap[k]? := fun k h1 h2 =>
              (Below.heap_setCell _ _ _ _ h2).trans ((Below.heap_setCell _ _ _ _ h2).trans (Below.heap_setCell _ _ _ _ h1))
            have hsz : (((W5.setCell ⟨sb, 2, none⟩ (.slice p5 (pend ++ [z.2]).length cc5)).setCell ⟨w.heap.size + 1, 0, none⟩ (.int .i64 5)).setCell ⟨w.heap.size + 1, 1, none⟩ (.int .i64 ((l.length : Int) + 1))).heap.size = W5.heap.size := by simp [World.setCell]
            have hosF : (((W5.setCell ⟨sb, 2, none⟩ (.slice p5 (pend ++ [z.2]).length cc5)).setCell ⟨w.heap.size + 1, 0, none⟩ (.int .i64 5)).setCell ⟨w.heap.size + 1, 1, none⟩ (.int .i64 ((l.length : Int) + 1))).os = W5.os ∧ (((W5.setCell ⟨sb, 2, none⟩ (.slice p5 (pend ++ [z.2]).length cc5)).setCell ⟨w.heap.size + 1, 0, none⟩ (.int .i64 5)).setCell ⟨w.heap.size + 1, 1, none⟩ (.int .i64 ((l.length : Int) + 1))).tape = W5.tape ∧ (((W5.setCell ⟨sb, 2, none⟩ (.slice p5 (pend ++ [z.2]).length cc5)).setCell ⟨w.heap.size + 1, 0, none⟩ (.int .i64 5)).setCell ⟨w.heap.size + 1, 1, none⟩ (.int .i64 ((l.length : Int) + 1))).output = W5.output := ⟨rfl, rfl, rfl⟩
            rw [List.length_append] at BF RF hoth hsz hosF
            simp only [List.length_singleton] at BF RF hoth hsz hosF
            have rff := RF.cell
            refine bodyPost_ret (v := .agg #[.int .i64 5, .int .i64 ((l.length : Int) + 1)]) (by simp [results, Try.results58, go_sem, rff]) rfl ?_
            generalize (((W5.setCell ⟨sb, 2, none⟩ (.slice p5 (pend.length + 1) cc5)).setCell ⟨w.heap.size + 1, 0, none⟩ (.int .i64 5)).setCell ⟨w.heap.size + 1, 1, none⟩ (.int .i64 ((l.length : Int) + 1))) = WF at BF hoth hsz hosF ⊢
            have q5 := HQ5.out
            have n5 := HN5.out
            rw [List.length_append] at q5 n5
            simp only [List.length_singleton] at q5 n5
            generalize Value.slice p5 (pend.length + 1) cc5 = v5 at BF q5 n5
            have g5 := HG5.out
            have on4 := HO4.out
            have k3 := HK3.out
            have h0 := Hh.out
            have hs4 : W4.heap.size = W3.heap.size := on4.size
            have hs5 : W4.heap.size + 1 ≤ W5.heap.size := by have := g5.size; simpa using this
            have hs3 := k3.size
            have hs33 := HB3.out.lt
            have hblk : ∀ k, k < w.heap.size → ¬ SFoot sb mb (.slice pq pend.length cq) k → WF.heap[k]? = w.heap[k]? := by
              intro k hk hn
              rw [hoth k (fun e => hn (.inl e)) (by omega), g5.block k (by show k < (W4.alloc _).heap.size; simp; omega) (fun e => hn (.inr (.inr e.symm)))]
              rw [show (W4.alloc (Obj.cells #[.int .i64 z.2] 2)).drew.heap[k]? = (W4.alloc (Obj.cells #[.int .i64 z.2] 2)).heap[k]? from rfl, Below.heap_alloc _ _ _ (by omega), on4.block k (fun e => hn (.inr (.inl e)))]
              exact k3.block k hk
            have hv5 : ∀ k, v5.ownBlock = some k → (Value.slice pq pend.length cq).ownBlock = some k ∨ W4.heap.size + 1 ≤ k := by
              intro k hk
              rcases n5 with q | ⟨g, q, r⟩
              · exact .inl (by rw [← q]; exact hk)
              · rw [q] at hk
                cases hk
                right
                have : W4.heap.size + 1 ≤ (W4.alloc (Obj.cells #[.int .i64 z.2] 2)).drew.heap.size := by simp
                exact Nat.le_trans this r
            refine ⟨v5, by rw [hws], ?_, ⟨hosF.1.trans (g5.os.trans (on4.os.trans k3.os)), hosF.2.1.trans (g5.tape.trans (on4.tape.trans k3.tape)), hosF.2.2.trans (g5.output.trans (on4.output.trans k3.output)), by omega, hblk⟩, fun k hk => (hv5 k hk).imp_right (fun q => by omega)⟩
            rw [hws]
            dsimp only
            rw [show (l ++ [z.2]).drop l.length = [z.2] by simp]
            refine { G := h0.G.off (by omega) (fun k hk => hblk k (h0.G.lt k hk) (fun q => ?_)), blk := BF, nums := ?_, fine := ?_, q := q5.on (fun k hk => hoth k ?_ ?_), sm := h0.sm, qs := ?_, qm := ?_, foot := h0.foot, bs := h0.bs, bm := h0.bm, bq := ?_ }
            · have h1 := h0.foot k hk
              rcases q with rfl | rfl | q
              · exact absurd h0.bs (by omega)
              · exact absurd h0.bm (by omega)
              · have := h0.bq k q; omega
            · refine HN4.out.of_same ?_
              rw [hoth mb (fun e => h0.sm e.symm) (by omega), g5.block mb (by show mb < (W4.alloc _).heap.size; simp; omega) (fun e => h0.qm e.symm)]
              exact Below.heap_alloc _ _ _ (by omega)
            · have := wordS_fine h0.G.snd HX.out h0.fine
              rw [hws] at this
              exact this
            · rintro rfl
              rcases hv5 k hk with q | q
              · exact h0.qs q
              · omega
            · rintro rfl
              rcases hv5 _ hk with q | q
              · have := h0.q.lt _ q; omega
              · omega
            · intro e
              rcases hv5 sb e with q | q
              · exact h0.qs q
              · omega
            · intro e
              rcases hv5 mb e with q | q
              · exact h0.qm q
              · omega
            · intro k hk
              rcases hv5 k hk with q | q
              · exact h0.bq k q
              · have := h0.bs; omega
      · have hws : wordS H l x = (z, l) := by rw [HWS.out, if_neg z5]
        have d5 : decide (z.1 = 5) = false := by simpa using z5
        have d5' : (z.1 == 5) = false := by simpa using z5
        have d5'' : (z.1 != 5) = true := by simpa using z5
        go_wp2
        have RF := (HRB.out.set 0 (.int .i64 z.1) (by simp)).set 1 (.int .i64 z.2) (by simp)
        have rff := RF.cell
        refine bodyPost_ret (v := .agg #[.int .i64 z.1, .int .i64 z.2]) (by simp [results, Try.results58, go_sem, rff]) rfl ?_
        refine ⟨(.slice pq pend.length cq), by rw [hws], ?_, ?_, fun k hk => .inl hk⟩
        · rw [hws, List.drop_length, List.append_nil]
          exact Hh.out.below (((HKx.out).setCell (by simp) _).setCell (by simp) _)
        · exact Off.of_below (((HKx.out).setCell (by simp) _).setCell (by simp) _)
    · have hz := hz.resolve_left hzz
      obtain ⟨hzx, x5, k7⟩ := hz
      rw [hzx] at bz hzz HBz
      have hxs := HX.out
      rw [x5] at hxs
      have hxm := HI.out.G.snd.mark hxs
      obtain ⟨q1, q2, q3, q4⟩ := HI.out.G.snd.good.at_ x.2 hxm
      obtain ⟨i, hi⟩ := Int.eq_ofNat_of_zero_le q1
      have hz0w : H.word (i + 1) = z0 := by
        have := HZ.out
        rw [if_pos ⟨x5, k7⟩, hi, Int.toNat_natCast] at this
        exact this
      have hlen := HI.out.G.inv.len; have htop := HI.out.G.inv.top; have hnur := HI.out.G.inv.nur; have hold := HI.out.G.inv.old; have hop := HI.out.G.inv.opos
      obtain ⟨N, hN⟩ : ∃ N, H.ws.length = N := ⟨_, rfl⟩
      have hiN : i + 1 < N := by omega
      have kh := fun n => head_at b L H (wr.drewN n) (HI.out.G.inv.drewN n) x.2 h1 h2
      obtain ⟨P, hP⟩ : ∃ P, headOf H x.2 = P := ⟨_, rfl⟩
      rw [hP] at kh k7
      have KH := Lib.hid kh
      have c1 := HI.out.blk.cell
      have d7 : (P.k != 7) = false := by rw [k7]; rfl
      have ch := HI.out.G.inv.blk.cell
      unfold HL.cells at ch
      rw [hN] at ch
      obtain ⟨e1, e2⟩ := HI.out.G.inv.cell (a := i + 1) (by omega)
      rw [hz0w] at e1 e2
      have hm0 := offM_one (bz 0) (bz 1) hzz
      rw [x5, hi] at bz
      have hw1 : IntKind.i64.wrap ((i : Int) + 1) = (i : Int) + 1 := IntWalk.i64_in _ (by omega)
      have hiI : (i : Int) + 1 < (N : Int) := by omega
      have hi0 : (0 : Int) ≤ (i : Int) + 1 := by omega
      rw [hi] at KH
      have HM0 := Lib.hid hm0
      have HHN := Lib.hid hN
      clear kh hP hxs hxm q1 q2 q3 q4 hz0w hlen htop hnur hold hop hN hzz hm0 x5 hi
      go_upto_region 2 with fail
      go_quiet ((go_at_call 48; exact Calls.quiet_of (KH.out _)))
      go_upto_region 4 with fail
      generalize hW2 : wr.drewN nq = W2
      have hc : ∀ a, W2.cell? a = wr.cell? a := fun a => by rw [← hW2]; rfl
      have c2 : ∀ j, W2.cell? ⟨sb, j, none⟩ = _ := fun j => (hc _).trans (c1 j)
      have ch2 : ∀ j, W2.cell? ⟨b, j, none⟩ = _ := fun j => (hc _).trans (ch j)
      have bz2 : ∀ j, W2.cell? ⟨w.heap.size, j, none⟩ = _ := fun j => (hc _).trans (bz j)
      have e12 := (hc _).trans e1
      have e22 := (hc _).trans e2
      have bf2 : ∀ j, W2.frozen? ⟨w.heap.size, j, none⟩ = false := fun j => by rw [← hW2]; exact bf j
      have ZB2 : Blk W2 w.heap.size #[.int .i64 x.1, .int .i64 x.2] := by rw [← hW2]; exact HBz.out.drewN nq
      have OZ2 : Off (fun k => k = w.heap.size) W0 W2 := by rw [← hW2]; exact ⟨HOz.out.os, HOz.out.tape, HOz.out.output, HOz.out.size, HOz.out.block⟩
      have HZB2 := Lib.hid ZB2; have HOZ2 := Lib.hid OZ2
      clear hc c1 ch bz e1 e2 bf hW2 ZB2 OZ2 rb rf
      have ZF := ((HZB2.out.set 0 (.int .i64 z0.1) (by simp)).set 1 (.int .i64 z0.2) (by simp)).drew
      have HZF := Lib.hid ZF
      clear ZF
      go_still_tail 12, (by kernel_rfl)
      change wpList _ _ _ _ _ W2.drew
      go_wp2
      go_roundw
      case rel =>
        refine ⟨z0, HZF.out, ?_, .inl rfl⟩
        have := off_set (off_set HOZ2.out 0 (.int .i64 z0.1)) 1 (.int .i64 z0.2)
        exact ⟨this.os, this.tape, this.output, this.size, this.block⟩
      case measure => rw [HM0.out, offM_zero (HZF.out.cell 0) (HZF.out.cell 1)]; exact Nat.zero_lt_one

end Go.Proofs.Ytlmljommgmbckaa
