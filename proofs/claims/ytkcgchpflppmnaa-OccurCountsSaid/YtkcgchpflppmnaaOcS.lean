/- ref16.all: every binder's occurrence. -/
import Derived.Test.YtkcgchpflppmnaaOcR
import Derived.Deep.RegionHeld3
import Derived.Laws.OwnMore
namespace Go.Proofs.Ytkcgchpflppmnaa
open Go.RowKit
set_option linter.unusedSimpArgs false
set_option linter.unusedVariables false

/-- A whole own slice put behind another. -/
theorem OOwn.cat {W : World} {B B2 : Nat} {v v2 : Value} {l l2 : List (ByteArray × Int)} (h : OOwn W B v l) (h2 : OOwn W B2 v2 l2) (hl : l.length + l2.length ≤ 100000000) (hB : B ≤ W.heap.size) :
    ∃ v' W', (Builtin.append_ #[38, 38] 38 #[v, v2]).run Try.prog W = .ok v' W' ∧ OOwn W' B v' (l ++ l2) ∧ Below B W W' := by
  obtain ⟨i0, hi, hz0, hz1, hz2⟩ := info_parts infoO
  have h2' := h2
  rcases h2'.2 with ⟨rfl, h0⟩ | ⟨g, cap, cur, rfl, _, hh, hc, _, hsz, ht⟩
  · have e0 : l2 = [] := by simpa using h0
    subst e0
    exact ⟨v, W, run_append_owned_none W B 38 38 42 i0 2 Try.underlying38 hi v _ _ h, by rw [List.append_nil]; exact h, Below.refl _ _⟩
  · obtain ⟨v', W', k1, k2, k3, k4, k5⟩ := ROwn.push h 38 (i := i0) (z := .agg #[.string ⟨#[]⟩, .int .i64 0]) Try.underlying38 hi hz0 hz1 hz2 rfl (by decide) g 0 l2.length cap (l2.map occRow) (by simp) (fun r hr => by obtain ⟨x, _, rfl⟩ := List.mem_map.1 hr; rfl) (fun j u hj => by
      rw [Nat.zero_add]
      have hu := World.ownsRow.cells h2 (g := g) rfl j u hj
      have e : (⟨g, 0, none⟩ : Addr).add j = ⟨g, j, none⟩ := by unfold Addr.add; split <;> simp_all
      rwa [e] at hu) (fun r hr u hu => by obtain ⟨x, _, rfl⟩ := List.mem_map.1 hr; simp [occRow] at hu; rcases hu with rfl | rfl <;> rfl) (by rw [List.length_map]; omega) (by rw [List.length_map]; unfold maxLen; omega) hB
    refine ⟨v', W', by simpa using k1, ?_, k4 hB⟩
    unfold OOwn
    rw [List.map_append]
    exact k2

/-- The same, with what else stays. -/
theorem OOwn.one2 {w : World} {B : Nat} {v : Value} {l : List (ByteArray × Int)} (h : OOwn w B v l) (x : ByteArray) (m : Int) (hl : l.length ≤ 100000000) (hB : B ≤ w.heap.size) :
    ∃ v' W', (Builtin.append_ #[38, 38] 38 #[v, .slice (some ⟨w.heap.size, 0, none⟩) 1 1]).run Try.prog (w.alloc (.cells #[.string x, .int .i64 m] 42)) = .ok v' W' ∧ OOwn W' B v' (l ++ [(x, m)]) ∧ Below B w W' ∧ w.heap.size ≤ W'.heap.size ∧
      (∀ k, k < w.heap.size → v.ownBlock ≠ some k → W'.heap[k]? = w.heap[k]? ∧ v'.ownBlock ≠ some k) := by
  have ha : Below w.heap.size w (w.alloc (.cells #[.string x, .int .i64 m] 42)) := (Below.refl _ w).alloc (Nat.le_refl _) _
  have R := Blk.new w #[.string x, .int .i64 m] 42
  obtain ⟨v', W', k1, k2, k3, k4, k5⟩ := OOwn.push (h.below ha) 38 w.heap.size 1 (x, m) (R.cell 0) (R.cell 1) hl (by simp; omega)
  refine ⟨v', W', k1, k2, (ha.mono hB).trans k4, Nat.le_trans ha.size k3.size, fun k hk hne => ⟨?_, ?_⟩⟩
  · rw [k3.block k (Nat.lt_of_lt_of_le hk ha.size) (fun e => hne e.symm)]
    exact Below.heap_alloc _ _ _ hk
  · rcases k5 with k5 | k5
    · rw [k5]; exact hne
    · rw [k5]; simp; omega

theorem OOwn.new {w : World} {B : Nat} {v : Value} {l : List (ByteArray × Int)} (h : OOwn w B v l) : v.ownBlock ≠ some w.heap.size := fun hc => by have := own_lt h _ hc; omega
theorem below_of_drew {W w1 : World} (h : Below W.drew.heap.size W.drew w1) : Below W.heap.size W w1 := ((Below.refl _ W).drew).trans h
set_option maxRecDepth 100000 in
set_option maxHeartbeats 8000000 in
theorem rall_step (d : Nat)
    (hall : ∀ (x : Ex d) (v : Value) (W : World), ExIs W d v x → Sm d x → (allK 1 5 d x).length ≤ 10000000 → Calls Try.prog 32 #[v] W fun r W' => ∃ v', r = .returned v' ∧ OOwn W' W.heap.size v' (allK 1 5 d x) ∧ Below W.heap.size W W')
    (v : Value) (e : ExN (Ex d)) (w : World) (h : ExIs w (d + 1) v e) (hs : Sm (d + 1) e) (hn : (allK 1 5 (d + 1) e).length ≤ 10000000) :
    Calls Try.prog 32 #[v] w fun r W' => ∃ v', r = .returned v' ∧ OOwn W' w.heap.size v' (allK 1 5 (d + 1) e) ∧ Below w.heap.size w W' := by
  have KI := Lib.hid (fun s W (hW : Below w.heap.size w W) => rInLet_any d v e s W (ExIs.below hW (d + 1) v e h) hs (rof_any s d))
  obtain ⟨T, hT⟩ : ∃ T, allK 1 5 (d + 1) e = T := ⟨_, rfl⟩
  rw [hT]
  have HTl := Lib.hid (show T.length ≤ 10000000 by rw [← hT]; exact hn)
  rw [all_eq] at hT
  simp only [List.flatMap_map] at hT
  have HT := Lib.hid (show ([] : List (ByteArray × Int)) ++ _ = T from hT)
  obtain ⟨l0, rfl, hp⟩ := h
  obtain ⟨pa, pb, pc, pd, pa2, pb2, pc2, pd2, rfl⟩ := parts_form hp
  have hbx : ExAt (w.alloc (.cells #[.int .i64 e.kind, .string e.name, .int .i64 e.num, .slice pa e.params.length pa2, .slice pb e.binds.length pb2, .slice pc e.args.length pc2, .slice pd e.alts.length pd2] 29)) (d + 1) w.heap.size 0 e := ExIs.boxed (t := 29) (d := d + 1) (W := w) (x := e) ⟨_, rfl, hp⟩
  have HB0 := Lib.hid (show Below w.heap.size w (w.alloc (.cells #[.int .i64 e.kind, .string e.name, .int .i64 e.num, .slice pa e.params.length pa2, .slice pb e.binds.length pb2, .slice pc e.args.length pc2, .slice pd e.alts.length pd2] 29)) from (Below.refl _ w).alloc (Nat.le_refl _) _)
  have R0 := Blk.new w #[.int .i64 e.kind, .string e.name, .int .i64 e.num, .slice pa e.params.length pa2, .slice pb e.binds.length pb2, .slice pc e.args.length pc2, .slice pd e.alts.length pd2] 29
  have hb := (Blk.new w #[.int .i64 e.kind, .string e.name, .int .i64 e.num, .slice pa e.params.length pa2, .slice pb e.binds.length pb2, .slice pc e.args.length pc2, .slice pd e.alts.length pd2] 29).lt
  clear hp
  unfold exV at KI ⊢
  go_enter Try.func32, Try.ntmps32
  go_upto_region 2 with fail
  generalize w.alloc (.cells #[.int .i64 e.kind, .string e.name, .int .i64 e.num, .slice pa e.params.length pa2, .slice pb e.binds.length pb2, .slice pc e.args.length pc2, .slice pd e.alts.length pd2] 29) = W0 at hbx HB0 hb R0 ⊢
  have HW0 := Lib.hid HB0.out.size
  generalize hbq : w.heap.size = b at hbx hb R0 ⊢
  have Hb := Lib.hid hbq
  obtain ⟨cs, hcs, ps, bs, es, ls, rfl, ⟨q3, r3, rfl, h1⟩, ⟨q4, r4, rfl, h2⟩, ⟨q5, r5, rfl, h3⟩, ⟨q6, r6, rfl, h4⟩⟩ := hbx
  have e3 := (R0.cell 3).symm.trans (hcs 3 _ rfl)
  have e4 := (R0.cell 4).symm.trans (hcs 4 _ rfl)
  have e5 := (R0.cell 5).symm.trans (hcs 5 _ rfl)
  have e6 := (R0.cell 6).symm.trans (hcs 6 _ rfl)
  simp at e3 e4 e5 e6
  obtain ⟨rfl, rfl⟩ := e3
  obtain ⟨rfl, rfl⟩ := e4
  obtain ⟨rfl, rfl⟩ := e5
  obtain ⟨rfl, rfl⟩ := e6
  have hcl := fun j c hj W (hW : Below W0.heap.size W0 W) => (hW.cell (p := ⟨b, j, none⟩) hb).trans (show W0.cell? ⟨b, j, none⟩ = some c by have := hcs j c hj; rwa [Nat.zero_add] at this)
  obtain ⟨N3, hN3⟩ : ∃ N, e.params.length = N := ⟨_, rfl⟩
  obtain ⟨N4, hN4⟩ : ∃ N, e.binds.length = N := ⟨_, rfl⟩
  obtain ⟨N5, hN5⟩ : ∃ N, e.args.length = N := ⟨_, rfl⟩
  obtain ⟨N6, hN6⟩ : ∃ N, e.alts.length = N := ⟨_, rfl⟩
  have m3 : N3 ≤ 10000000 := hN3 ▸ hs.1
  have m4 : N4 ≤ 10000000 := hN4 ▸ hs.2.1.1
  have m5 : N5 ≤ 10000000 := hN5 ▸ hs.2.2.1.1
  have m6 : N6 ≤ 10000000 := hN6 ▸ hs.2.2.2.1
  obtain ⟨kd, hkd⟩ : ∃ kd, e.kind = kd := ⟨_, rfl⟩
  obtain ⟨nm, hnm⟩ : ∃ nm, e.name = nm := ⟨_, rfl⟩
  obtain ⟨nu, hnu⟩ : ∃ nu, e.num = nu := ⟨_, rfl⟩
  have HC := Lib.hid (show ∀ W, Below W0.heap.size W0 W → W.cell? ⟨b, 0, none⟩ = some (.int .i64 kd) ∧ W.cell? ⟨b, 1, none⟩ = some (.string nm) ∧ W.cell? ⟨b, 2, none⟩ = some (.int .i64 nu) ∧ W.cell? ⟨b, 3, none⟩ = some (.slice pa N3 pa2) ∧ W.cell? ⟨b, 4, none⟩ = some (.slice pb N4 pb2) ∧ W.cell? ⟨b, 5, none⟩ = some (.slice pc N5 pc2) ∧ W.cell? ⟨b, 6, none⟩ = some (.slice pd N6 pd2) from fun W hW => by
    rw [← hkd, ← hnm, ← hnu, ← hN3, ← hN4, ← hN5, ← hN6]
    exact ⟨hcl 0 _ rfl W hW, hcl 1 _ rfl W hW, hcl 2 _ rfl W hW, hcl 3 _ rfl W hW, hcl 4 _ rfl W hW, hcl 5 _ rfl W hW, hcl 6 _ rfl W hW⟩)
  rw [hkd, hnm, hnu, hN3, hN4, hN5, hN6] at KI ⊢
  have HN3 := Lib.hid hN3
  have HN4 := Lib.hid hN4
  have HN5 := Lib.hid hN5
  have HN6 := Lib.hid hN6
  have H1 := Lib.hid (show True ∧ _ from ⟨trivial, h1⟩)
  have H2 := Lib.hid (show True ∧ _ from ⟨trivial, h2⟩)
  have H3 := Lib.hid h3
  have H4 := Lib.hid h4
  have HS := Lib.hid hs
  have HAL := Lib.hid hall
  clear hcs hcl h1 h2 h3 h4 hs hN3 hN4 hN5 hN6 hT hn hall hkd hnm hnu R0 hbq
  go_wp2
  go_loopw [3, 4] (fun v i wr => ∃ (k : Nat) (cur : List (ByteArray × Int)), i = .int .i64 k ∧ k ≤ N3 ∧ Hid (OOwn wr W0.heap.size v cur) ∧ Hid (cur ++ ((e.params.drop k).flatMap (fun s => [(s, inLetK (ofK 1 5 s d) 1 e s)]) ++ (e.binds.flatMap (fun x => [(x.1, inLetK (ofK 1 5 x.1 d) 1 e x.1)]) ++ (e.binds.flatMap (fun x => allK 1 5 d x.2) ++ (e.args.flatMap (allK 1 5 d) ++ (e.alts.flatMap (fun x => x.vars.flatMap (fun s => [(s, ofK 1 5 s d x.e)]) ++ allK 1 5 d x.e) ++ []))))) = T) ∧ Below W0.heap.size W0 wr) (fun _ i _ => N3 - (intOf i).toNat)
  case atStart => exact ⟨0, [], rfl, Nat.zero_le _, Lib.hid (ROwn.nil _ _ _ _), HT, Below.refl _ _⟩
  case round =>
    obtain ⟨k, cur, rfl, hk, HO, HF, hB⟩ := hrel
    obtain ⟨x0, x1, x2, x3, x4, x5, x6⟩ := HC.out wr hB
    by_cases hlt : k < N3
    · have hlt2 : decide ((k : Int) < (N3 : Int)) = true := by simp; omega
      have hlt3 : decide (k < N3) = true := by simp; omega
      have hi0 : (0 : Int) ≤ (k : Int) := by omega
      have hkt : k < e.params.length := by rw [HN3.out]; exact hlt
      obtain ⟨p, o', hq, hp, hat⟩ := H1.out.2 (by omega)
      subst hq
      obtain ⟨x, hx⟩ : ∃ x, e.params[k]? = some x := ⟨_, List.getElem?_eq_getElem hkt⟩
      have hcell := hat k x hx
      rw [Nat.mul_one] at hcell
      have HCX := Lib.hid (show ∀ W, Below W0.heap.size W0 W → W.cell? ⟨p, o' + k, none⟩ = some (.string x) from fun W hW => (hW.cell (p := ⟨p, o' + k, none⟩) hp).trans hcell)
      have c0 := HCX.out wr hB
      have hsz := hB.size
      have hlen := Nat.le_trans (step_len _ hx HF.out) HTl.out
      have HF2 := Lib.hid (step_next _ hx HF.out)
      have KX := Lib.hid (fun W hW => KI.out x W hW)
      simp only [List.length_singleton] at hlen
      generalize inLetK (ofK 1 5 x d) 1 e x = m at KX HF2
      have HB := Lib.hid hB
      have hbl := HB0.out.trans (hB.mono HW0.out)
      have HBL := Lib.hid hbl
      clear hat hx HF hcell hbl
      go_upto_region 5 with fail
      have HS8 := Lib.hid (show ∀ W, Below W0.heap.size W0 W → W.cell? ⟨b, 0, none⟩ = some (.int .i64 kd) ∧ W.cell? ⟨b, 1, none⟩ = some (.string nm) ∧ W.cell? ⟨b, 2, none⟩ = some (.int .i64 nu) ∧ W.cell? ⟨b, 3, none⟩ = some (.slice (some ⟨p, o', none⟩) N3 pa2) ∧ W.cell? ⟨b, 4, none⟩ = some (.slice pb N4 pb2) ∧ W.cell? ⟨b, 5, none⟩ = some (.slice pc N5 pc2) ∧ W.cell? ⟨b, 6, none⟩ = some (.slice pd N6 pd2) ∧ W.cell? ⟨p, o' + k, none⟩ = some (.string x) from fun W hW => by obtain ⟨z0, z1, z2, z3, z4, z5, z6⟩ := HC.out W hW; exact ⟨z0, z1, z2, z3, z4, z5, z6, HCX.out W hW⟩)
      have hS0 : wr.drew.cell? ⟨b, 0, none⟩ = some (.int .i64 kd) ∧ wr.drew.cell? ⟨b, 1, none⟩ = some (.string nm) ∧ wr.drew.cell? ⟨b, 2, none⟩ = some (.int .i64 nu) ∧ wr.drew.cell? ⟨b, 3, none⟩ = some (.slice (some ⟨p, o', none⟩) N3 pa2) ∧ wr.drew.cell? ⟨b, 4, none⟩ = some (.slice pb N4 pb2) ∧ wr.drew.cell? ⟨b, 5, none⟩ = some (.slice pc N5 pc2) ∧ wr.drew.cell? ⟨b, 6, none⟩ = some (.slice pd N6 pd2) ∧ wr.drew.cell? ⟨p, o' + k, none⟩ = some (.string x) := HS8.out wr hB
      go_region_held3 (fun wx => wx.cell? ⟨b, 0, none⟩ = some (.int .i64 kd) ∧ wx.cell? ⟨b, 1, none⟩ = some (.string nm) ∧ wx.cell? ⟨b, 2, none⟩ = some (.int .i64 nu) ∧ wx.cell? ⟨b, 3, none⟩ = some (.slice (some ⟨p, o', none⟩) N3 pa2) ∧ wx.cell? ⟨b, 4, none⟩ = some (.slice pb N4 pb2) ∧ wx.cell? ⟨b, 5, none⟩ = some (.slice pc N5 pc2) ∧ wx.cell? ⟨b, 6, none⟩ = some (.slice pd N6 pd2) ∧ wx.cell? ⟨p, o' + k, none⟩ = some (.string x)) (assumption) (first | (go_at_call 46; with_reducible refine (KX.out _ (HBL.out.drew)).mono ?_; rintro r1 w1 ⟨rfl, b1⟩; have q1 := below_of_drew b1; have s1 := q1.size; have B1 := chain HB.out q1; have hS1 := HS8.out w1 B1; have hS2 := HS8.out (w1.alloc (.cells #[.string x, .int .i64 m] 42)) (B1.alloc (by omega) _); obtain ⟨v2, W2, hrun, o2, k2, -⟩ := (HO.out.below q1).one x m (by omega) (by omega); have O2 := Lib.hid o2; have K2 := Lib.hid (B1.trans k2); have hS3 := HS8.out W2 (B1.trans k2); clear o2 k2 B1) | (refine step_append_run (by rfl) _ _ _ _ (by rfl) _ _ _ _ (by rfl) (by rfl) hrun ?_))
      all_goals
        go_wp2
        go_roundw
        case measure => simp [intOf]; omega
        case rel => exact ⟨k + 1, cur ++ [(x, m)], by go_num, by omega, O2, HF2, K2.out⟩
    · have hlt2 : decide ((k : Int) < (N3 : Int)) = false := by simp; omega
      have hlt3 : decide (k < N3) = false := by simp; omega
      obtain rfl : N3 = k := by omega
      have HF1 := Lib.hid (step_end _ HN3.out HF.out)
      clear HF hlt hlt2 hlt3 hk
      go_upto_region 7 with fail
      clear x0 x1 x2 x3 x4 x5 x6
      go_loopw [3, 5] (fun v i wr => ∃ (k : Nat) (cur : List (ByteArray × Int)), i = .int .i64 k ∧ k ≤ N4 ∧ Hid (OOwn wr W0.heap.size v cur) ∧ Hid (cur ++ ((e.binds.drop k).flatMap (fun x => [(x.1, inLetK (ofK 1 5 x.1 d) 1 e x.1)]) ++ (e.binds.flatMap (fun x => allK 1 5 d x.2) ++ (e.args.flatMap (allK 1 5 d) ++ (e.alts.flatMap (fun x => x.vars.flatMap (fun s => [(s, ofK 1 5 s d x.e)]) ++ allK 1 5 d x.e) ++ [])))) = T) ∧ Below W0.heap.size W0 wr) (fun _ i _ => N4 - (intOf i).toNat)
      case atStart => exact ⟨0, _, rfl, Nat.zero_le _, HO, HF1, hB⟩
      case round =>
        clear HO HF1 hB
        obtain ⟨k, cur, rfl, hk, HO, HF, hB⟩ := hrel
        obtain ⟨x0, x1, x2, x3, x4, x5, x6⟩ := HC.out wr hB
        by_cases hlt : k < N4
        · have hlt2 : decide ((k : Int) < (N4 : Int)) = true := by simp; omega
          have hlt3 : decide (k < N4) = true := by simp; omega
          have hi0 : (0 : Int) ≤ (k : Int) := by omega
          have hkt : k < e.binds.length := by rw [HN4.out]; exact hlt
          obtain ⟨p, o', hq, hp, hat⟩ := H2.out.2 (by omega)
          subst hq
          obtain ⟨x, hx⟩ : ∃ x, e.binds[k]? = some x := ⟨_, List.getElem?_eq_getElem hkt⟩
          have hcell := (hat k x hx).1
          have hlen := Nat.le_trans (step_len _ hx HF.out) HTl.out
          have HF2 := Lib.hid (step_next _ hx HF.out)
          obtain ⟨xn, hxn⟩ : ∃ xn, x.1 = xn := ⟨_, rfl⟩
          rw [hxn] at hcell HF2
          have HCX := Lib.hid (show ∀ W, Below W0.heap.size W0 W → W.cell? ⟨p, o' + k * 8, none⟩ = some (.string xn) from fun W hW => (hW.cell (p := ⟨p, o' + k * 8, none⟩) hp).trans hcell)
          have c0 := HCX.out wr hB
          have hsz := hB.size
          have KX := Lib.hid (fun W hW => KI.out xn W hW)
          simp only [List.length_singleton] at hlen
          generalize inLetK (ofK 1 5 xn d) 1 e xn = m at KX HF2
          have HB := Lib.hid hB
          have hbl := HB0.out.trans (hB.mono HW0.out)
          have HBL := Lib.hid hbl
          clear hat hx HF hcell hbl hxn
          go_upto_region 9 with fail
          have HS8 := Lib.hid (show ∀ W, Below W0.heap.size W0 W → W.cell? ⟨b, 0, none⟩ = some (.int .i64 kd) ∧ W.cell? ⟨b, 1, none⟩ = some (.string nm) ∧ W.cell? ⟨b, 2, none⟩ = some (.int .i64 nu) ∧ W.cell? ⟨b, 3, none⟩ = some (.slice pa N3 pa2) ∧ W.cell? ⟨b, 4, none⟩ = some (.slice (some ⟨p, o', none⟩) N4 pb2) ∧ W.cell? ⟨b, 5, none⟩ = some (.slice pc N5 pc2) ∧ W.cell? ⟨b, 6, none⟩ = some (.slice pd N6 pd2) ∧ W.cell? ⟨p, o' + k * 8, none⟩ = some (.string xn) from fun W hW => by obtain ⟨z0, z1, z2, z3, z4, z5, z6⟩ := HC.out W hW; exact ⟨z0, z1, z2, z3, z4, z5, z6, HCX.out W hW⟩)
          have hS0 : wr.drew.cell? ⟨b, 0, none⟩ = some (.int .i64 kd) ∧ wr.drew.cell? ⟨b, 1, none⟩ = some (.string nm) ∧ wr.drew.cell? ⟨b, 2, none⟩ = some (.int .i64 nu) ∧ wr.drew.cell? ⟨b, 3, none⟩ = some (.slice pa N3 pa2) ∧ wr.drew.cell? ⟨b, 4, none⟩ = some (.slice (some ⟨p, o', none⟩) N4 pb2) ∧ wr.drew.cell? ⟨b, 5, none⟩ = some (.slice pc N5 pc2) ∧ wr.drew.cell? ⟨b, 6, none⟩ = some (.slice pd N6 pd2) ∧ wr.drew.cell? ⟨p, o' + k * 8, none⟩ = some (.string xn) := HS8.out wr hB
          go_region_held3 (fun wx => wx.cell? ⟨b, 0, none⟩ = some (.int .i64 kd) ∧ wx.cell? ⟨b, 1, none⟩ = some (.string nm) ∧ wx.cell? ⟨b, 2, none⟩ = some (.int .i64 nu) ∧ wx.cell? ⟨b, 3, none⟩ = some (.slice pa N3 pa2) ∧ wx.cell? ⟨b, 4, none⟩ = some (.slice (some ⟨p, o', none⟩) N4 pb2) ∧ wx.cell? ⟨b, 5, none⟩ = some (.slice pc N5 pc2) ∧ wx.cell? ⟨b, 6, none⟩ = some (.slice pd N6 pd2) ∧ wx.cell? ⟨p, o' + k * 8, none⟩ = some (.string xn)) (assumption) (first | (go_at_call 46; with_reducible refine (KX.out _ (HBL.out.drew)).mono ?_; rintro r1 w1 ⟨rfl, b1⟩; have q1 := below_of_drew b1; have s1 := q1.size; have B1 := chain HB.out q1; have hS1 := HS8.out w1 B1; have hS2 := HS8.out (w1.alloc (.cells #[.string xn, .int .i64 m] 42)) (B1.alloc (by omega) _); obtain ⟨v2, W2, hrun, o2, k2, -⟩ := (HO.out.below q1).one xn m (by omega) (by omega); have O2 := Lib.hid o2; have K2 := Lib.hid (B1.trans k2); have hS3 := HS8.out W2 (B1.trans k2); clear o2 k2 B1) | (refine step_append_run (by rfl) _ _ _ _ (by rfl) _ _ _ _ (by rfl) (by rfl) hrun ?_))
          all_goals
            go_wp2
            go_roundw
            case measure => simp [intOf]; omega
            case rel => exact ⟨k + 1, cur ++ [(xn, m)], by go_num, by omega, O2, HF2, K2.out⟩
        · have hlt2 : decide ((k : Int) < (N4 : Int)) = false := by simp; omega
          have hlt3 : decide (k < N4) = false := by simp; omega
          obtain rfl : N4 = k := by omega
          have HF1 := Lib.hid (step_end _ HN4.out HF.out)
          clear HF hlt hlt2 hlt3 hk
          go_upto_region 11 with fail
          clear x0 x1 x2 x3 x4 x5 x6
          go_loopw [3, 6] (fun v i wr => ∃ (k : Nat) (cur : List (ByteArray × Int)), i = .int .i64 k ∧ k ≤ N4 ∧ Hid (OOwn wr W0.heap.size v cur) ∧ Hid (cur ++ ((e.binds.drop k).flatMap (fun x => allK 1 5 d x.2) ++ (e.args.flatMap (allK 1 5 d) ++ (e.alts.flatMap (fun x => x.vars.flatMap (fun s => [(s, ofK 1 5 s d x.e)]) ++ allK 1 5 d x.e) ++ []))) = T) ∧ Below W0.heap.size W0 wr) (fun _ i _ => N4 - (intOf i).toNat)
          case atStart => exact ⟨0, _, rfl, Nat.zero_le _, HO, HF1, hB⟩
          case round =>
            clear HO HF1 hB
            obtain ⟨k, cur, rfl, hk, HO, HF, hB⟩ := hrel
            obtain ⟨x0, x1, x2, x3, x4, x5, x6⟩ := HC.out wr hB
            by_cases hlt : k < N4
            · have hlt2 : decide ((k : Int) < (N4 : Int)) = true := by simp; omega
              have hlt3 : decide (k < N4) = true := by simp; omega
              have hi0 : (0 : Int) ≤ (k : Int) := by omega
              have hkt : k < e.binds.length := by rw [HN4.out]; exact hlt
              obtain ⟨p, o', hq, hp, hat⟩ := H2.out.2 (by omega)
              subst hq
              obtain ⟨x, hx⟩ : ∃ x, e.binds[k]? = some x := ⟨_, List.getElem?_eq_getElem hkt⟩
              obtain ⟨y0, y1, y2, y3, y4, y5, y6, z3, x3', z4, x4', z5, x5', z6, x6', hyc, hyv⟩ := ex_val (ExAt.below hB d p _ x.2 hp (hat k x hx).2)
              have KO := Lib.hid (HAL.out x.2 _ wr hyv (HS.out.2.1.2 x (List.mem_of_getElem? hx)) (Nat.le_trans (by have := step_len _ hx HF.out; omega) HTl.out))
              have hlen := Nat.le_trans (step_len _ hx HF.out) HTl.out
              have v0 := hyc 0 _ rfl
              have v1 := hyc 1 _ rfl
              have v2' := hyc 2 _ rfl
              have v3 := hyc 3 _ rfl
              have v4 := hyc 4 _ rfl
              have v5 := hyc 5 _ rfl
              have v6 := hyc 6 _ rfl
              rw [Nat.add_zero] at v0
              unfold exV at KO
              have HF2 := Lib.hid (step_next _ hx HF.out)
              have hsz := hB.size
              have HB := Lib.hid hB
              clear hat hx HF hyc hyv
              go_wp2_with (first | (go_at_call 32; refine KO.out.mono ?_; rintro r1 w1 ⟨v2, rfl, o2, b1⟩; have s1 := b1.size; have B1 := chain HB.out b1; obtain ⟨va, W3, hrun, o3, k3⟩ := (HO.out.below b1).cat o2 (by omega) (by omega); have O3 := Lib.hid o3; have K3 := Lib.hid (B1.trans k3); clear o2 o3 k3 B1) | (at_builtin; refine wpList_append_run rfl _ _ _ _ rfl _ _ _ _ rfl rfl hrun ?_))
              go_roundw
              case measure => simp [intOf]; omega
              case rel => exact ⟨k + 1, _, by go_num, by omega, O3, HF2, K3.out⟩
            · have hlt2 : decide ((k : Int) < (N4 : Int)) = false := by simp; omega
              have hlt3 : decide (k < N4) = false := by simp; omega
              obtain rfl : N4 = k := by omega
              have HF1 := Lib.hid (step_end _ HN4.out HF.out)
              clear HF hlt hlt2 hlt3 hk
              go_upto_region 15 with fail
              clear x0 x1 x2 x3 x4 x5 x6
              go_loopw [3, 7] (fun v i wr => ∃ (k : Nat) (cur : List (ByteArray × Int)), i = .int .i64 k ∧ k ≤ N5 ∧ Hid (OOwn wr W0.heap.size v cur) ∧ Hid (cur ++ ((e.args.drop k).flatMap (allK 1 5 d) ++ (e.alts.flatMap (fun x => x.vars.flatMap (fun s => [(s, ofK 1 5 s d x.e)]) ++ allK 1 5 d x.e) ++ [])) = T) ∧ Below W0.heap.size W0 wr) (fun _ i _ => N5 - (intOf i).toNat)
              case atStart => exact ⟨0, _, rfl, Nat.zero_le _, HO, HF1, hB⟩
              case round =>
                clear HO HF1 hB
                obtain ⟨k, cur, rfl, hk, HO, HF, hB⟩ := hrel
                obtain ⟨x0, x1, x2, x3, x4, x5, x6⟩ := HC.out wr hB
                by_cases hlt : k < N5
                · have hlt2 : decide ((k : Int) < (N5 : Int)) = true := by simp; omega
                  have hlt3 : decide (k < N5) = true := by simp; omega
                  have hi0 : (0 : Int) ≤ (k : Int) := by omega
                  have hkt : k < e.args.length := by rw [HN5.out]; exact hlt
                  obtain ⟨p, o', hq, hp, hat⟩ := H3.out (by omega)
                  subst hq
                  obtain ⟨x, hx⟩ : ∃ x, e.args[k]? = some x := ⟨_, List.getElem?_eq_getElem hkt⟩
                  obtain ⟨y0, y1, y2, y3, y4, y5, y6, z3, x3', z4, x4', z5, x5', z6, x6', hyc, hyv⟩ := ex_val (ExAt.below hB d p _ x hp (hat k x hx))
                  have KO := Lib.hid (HAL.out x _ wr hyv (HS.out.2.2.1.2 x (List.mem_of_getElem? hx)) (Nat.le_trans (by have := step_len _ hx HF.out; omega) HTl.out))
                  have hlen := Nat.le_trans (step_len _ hx HF.out) HTl.out
                  have v0 := hyc 0 _ rfl
                  have v1 := hyc 1 _ rfl
                  have v2' := hyc 2 _ rfl
                  have v3 := hyc 3 _ rfl
                  have v4 := hyc 4 _ rfl
                  have v5 := hyc 5 _ rfl
                  have v6 := hyc 6 _ rfl
                  rw [Nat.add_zero] at v0
                  unfold exV at KO
                  have HF2 := Lib.hid (step_next _ hx HF.out)
                  have hsz := hB.size
                  have HB := Lib.hid hB
                  clear hat hx HF hyc hyv
                  go_wp2_with (first | (go_at_call 32; refine KO.out.mono ?_; rintro r1 w1 ⟨v2, rfl, o2, b1⟩; have s1 := b1.size; have B1 := chain HB.out b1; obtain ⟨va, W3, hrun, o3, k3⟩ := (HO.out.below b1).cat o2 (by omega) (by omega); have O3 := Lib.hid o3; have K3 := Lib.hid (B1.trans k3); clear o2 o3 k3 B1) | (at_builtin; refine wpList_append_run rfl _ _ _ _ rfl _ _ _ _ rfl rfl hrun ?_))
                  go_roundw
                  case measure => simp [intOf]; omega
                  case rel => exact ⟨k + 1, _, by go_num, by omega, O3, HF2, K3.out⟩
                · have hlt2 : decide ((k : Int) < (N5 : Int)) = false := by simp; omega
                  have hlt3 : decide (k < N5) = false := by simp; omega
                  obtain rfl : N5 = k := by omega
                  have HF1 := Lib.hid (step_end _ HN5.out HF.out)
                  clear HF hlt hlt2 hlt3 hk
                  go_upto_region 19 with fail
                  clear x0 x1 x2 x3 x4 x5 x6
                  go_loopw [3, 8, 9, 10] (fun v i _ _ wr => ∃ (k : Nat) (cur : List (ByteArray × Int)), i = .int .i64 k ∧ k ≤ N6 ∧ Hid (OOwn wr W0.heap.size v cur) ∧ Hid (cur ++ ((e.alts.drop k).flatMap (fun x => x.vars.flatMap (fun s => [(s, ofK 1 5 s d x.e)]) ++ allK 1 5 d x.e) ++ []) = T) ∧ Below W0.heap.size W0 wr) (fun _ i _ _ _ => N6 - (intOf i).toNat)
                  case atStart => exact ⟨0, _, rfl, Nat.zero_le _, HO, HF1, hB⟩
                  case round =>
                    clear HO HF1 hB
                    obtain ⟨k, cur, rfl, hk, HO, HF, hB⟩ := hrel
                    obtain ⟨x0, x1, x2, x3, x4, x5, x6⟩ := HC.out wr hB
                    by_cases hlt : k < N6
                    · have hlt2 : decide ((k : Int) < (N6 : Int)) = true := by simp; omega
                      have hlt3 : decide (k < N6) = true := by simp; omega
                      have hi0 : (0 : Int) ≤ (k : Int) := by omega
                      have hkt : k < e.alts.length := by rw [HN6.out]; exact hlt
                      obtain ⟨p, o', hq, hp, hat⟩ := H4.out (by omega)
                      subst hq
                      obtain ⟨x, hx⟩ : ∃ x, e.alts[k]? = some x := ⟨_, List.getElem?_eq_getElem hkt⟩
                      obtain ⟨vs, hcs, ⟨aw, cw, rfl, htx⟩, hex⟩ := hat k x hx
                      have hsm := HS.out.2.2.2.2 x (List.mem_of_getElem? hx)
                      have hFx := step_in _ hx HF.out
                      rw [List.append_assoc] at hFx
                      generalize hRR : (e.alts.drop (k + 1)).flatMap (fun x => x.vars.flatMap (fun s => [(s, ofK 1 5 s d x.e)]) ++ allK 1 5 d x.e) ++ [] = RR at hFx
                      have HRR := Lib.hid hRR
                      have hax : (allK 1 5 d x.e).length ≤ 10000000 := Nat.le_trans (by rw [← hFx]; simp only [List.length_append]; omega) HTl.out
                      clear x0 x1 x2 x3 x4 x5 x6
                      obtain ⟨y0, y1, y2, y3, y4, y5, y6, z3, x3, z4, x4, z5, x5, z6, x6, hyc, hyv⟩ := ex_val hex
                      obtain ⟨M, hM⟩ : ∃ M, x.vars.length = M := ⟨_, rfl⟩
                      have hM7 : M ≤ 10000000 := hM ▸ hsm.1
                      rw [hM] at hcs
                      have a0 := (hB.cell (p := ⟨p, o' + k * 11 + 0, none⟩) hp).trans (hcs 0 _ rfl)
                      have a1 := (hB.cell (p := ⟨p, o' + k * 11 + 1, none⟩) hp).trans (hcs 1 _ rfl)
                      have a2 := (hB.cell (p := ⟨p, o' + k * 11 + 2, none⟩) hp).trans (hcs 2 _ rfl)
                      have a3 := (hB.cell (p := ⟨p, o' + k * 11 + 3, none⟩) hp).trans (hcs 3 _ rfl)
                      rw [Nat.add_zero] at a0
                      have vv := hyc.below hB hp
                      have v0 : wr.cell? ⟨p, o' + k * 11 + 4, none⟩ = _ := vv 0 _ rfl
                      have v1 : wr.cell? ⟨p, o' + k * 11 + 5, none⟩ = _ := vv 1 _ rfl
                      have v2 : wr.cell? ⟨p, o' + k * 11 + 6, none⟩ = _ := vv 2 _ rfl
                      have v3 : wr.cell? ⟨p, o' + k * 11 + 7, none⟩ = _ := vv 3 _ rfl
                      have v4 : wr.cell? ⟨p, o' + k * 11 + 8, none⟩ = _ := vv 4 _ rfl
                      have v5 : wr.cell? ⟨p, o' + k * 11 + 9, none⟩ = _ := vv 5 _ rfl
                      have v6 : wr.cell? ⟨p, o' + k * 11 + 10, none⟩ = _ := vv 6 _ rfl
                      have KO := Lib.hid (fun s W (hW : Below W0.heap.size W0 W) => rof_any s d x.e _ W (ExIs.below hW d _ x.e hyv) hsm.2)
                      have KA := Lib.hid (fun W (hW : Below W0.heap.size W0 W) => HAL.out x.e _ W (ExIs.below hW d _ x.e hyv) hsm.2 hax)
                      unfold exV at KO KA
                      have HM := Lib.hid hM
                      have HTX := Lib.hid htx
                      have HFx := Lib.hid hFx
                      have hw1 := (HC.out wr hB).2.2.2.2.2.2
                      clear hat hx hcs htx hex hsm HF hFx hM hyc hyv vv hRR hax
                      go_upto_region 23 with fail
                      have RA := Blk.new wr #[.int .i64 x.kind, .string x.name, .int .i64 x.num, .slice aw M cw, .int .i64 y0, .string y1, .int .i64 y2, .slice y3 z3 x3, .slice y4 z4 x4, .slice y5 z5 x5, .slice y6 z6 x6] 52
                      have BA : Below wr.heap.size wr (wr.alloc (.cells #[.int .i64 x.kind, .string x.name, .int .i64 x.num, .slice aw M cw, .int .i64 y0, .string y1, .int .i64 y2, .slice y3 z3 x3, .slice y4 z4 x4, .slice y5 z5 x5, .slice y6 z6 x6] 52)) := (Below.refl _ wr).alloc (Nat.le_refl _) _
                      have OA := HO.out.below BA
                      have NA := HO.out.new
                      have BA' := chain hB BA
                      generalize wr.alloc (.cells #[.int .i64 x.kind, .string x.name, .int .i64 x.num, .slice aw M cw, .int .i64 y0, .string y1, .int .i64 y2, .slice y3 z3 x3, .slice y4 z4 x4, .slice y5 z5 x5, .slice y6 z6 x6] 52) = Wa at RA OA BA' ⊢
                      generalize wr.heap.size = ba at RA NA ⊢
                      have HRA := Lib.hid RA
                      have HOA := Lib.hid OA
                      have HNA := Lib.hid NA
                      clear a0 a1 a2 a3 v0 v1 v2 v3 v4 v5 v6 RA BA OA NA hw1 HO hB
                      go_loopw [3, 10] (fun v i wr => ∃ (j : Nat) (cur : List (ByteArray × Int)), i = .int .i64 j ∧ j ≤ M ∧ Hid (OOwn wr W0.heap.size v cur) ∧ Hid (cur ++ ((x.vars.drop j).flatMap (fun s => [(s, ofK 1 5 s d x.e)]) ++ (allK 1 5 d x.e ++ RR)) = T) ∧ Below W0.heap.size W0 wr ∧ Hid (Blk wr ba #[.int .i64 x.kind, .string x.name, .int .i64 x.num, .slice aw M cw, .int .i64 y0, .string y1, .int .i64 y2, .slice y3 z3 x3, .slice y4 z4 x4, .slice y5 z5 x5, .slice y6 z6 x6]) ∧ Hid (v.ownBlock ≠ some ba)) (fun _ i _ => M - (intOf i).toNat)
                      case atStart => exact ⟨0, _, rfl, Nat.zero_le _, HOA, HFx, BA', HRA, HNA⟩
                      case round =>
                        clear HOA HFx BA' HRA HNA
                        obtain ⟨j, cur, rfl, hj, HO, HF, hB, HRA, HNA⟩ := hrel
                        have ra := HRA.out
                        have r3 : wr.cell? ⟨ba, 3, none⟩ = _ := ra.cell 3
                        have r4 : wr.cell? ⟨ba, 4, none⟩ = _ := ra.cell 4
                        have r5 : wr.cell? ⟨ba, 5, none⟩ = _ := ra.cell 5
                        have r6 : wr.cell? ⟨ba, 6, none⟩ = _ := ra.cell 6
                        have r7 : wr.cell? ⟨ba, 7, none⟩ = _ := ra.cell 7
                        have r8 : wr.cell? ⟨ba, 8, none⟩ = _ := ra.cell 8
                        have r9 : wr.cell? ⟨ba, 9, none⟩ = _ := ra.cell 9
                        have r10 : wr.cell? ⟨ba, 10, none⟩ = _ := ra.cell 10
                        simp only [List.getElem?_toArray, List.getElem?_cons_zero, List.getElem?_cons_succ] at r3 r4 r5 r6 r7 r8 r9 r10
                        clear ra
                        by_cases hlt' : j < M
                        · have hlt2 : decide ((j : Int) < (M : Int)) = true := by simp; omega
                          have hlt3 : decide (j < M) = true := by simp; omega
                          have hi0 : (0 : Int) ≤ (j : Int) := by omega
                          have hjt : j < x.vars.length := by rw [HM.out]; exact hlt'
                          obtain ⟨p', o2, hq, hp', hat⟩ := HTX.out (by omega)
                          subst hq
                          obtain ⟨y, hy⟩ : ∃ y, x.vars[j]? = some y := ⟨_, List.getElem?_eq_getElem hjt⟩
                          have hcell := hat j y hy
                          rw [Nat.mul_one] at hcell
                          have HCX := Lib.hid (show ∀ W, Below W0.heap.size W0 W → W.cell? ⟨p', o2 + j, none⟩ = some (.string y) from fun W hW => (hW.cell (p := ⟨p', o2 + j, none⟩) hp').trans hcell)
                          have c0 := HCX.out wr hB
                          have hlen := Nat.le_trans (step_len _ hy HF.out) HTl.out
                          have HF2 := Lib.hid (step_next _ hy HF.out)
                          have KX := Lib.hid (fun W hW => KO.out y W hW)
                          simp only [List.length_singleton] at hlen
                          generalize ofK 1 5 y d x.e = m at KX HF2
                          have HB := Lib.hid hB
                          have hsz := hB.size
                          clear hat hy HF hcell
                          go_upto_region 25 with fail
                          have HS8 := Lib.hid (show ∀ W, Blk W ba #[.int .i64 x.kind, .string x.name, .int .i64 x.num, .slice (some ⟨p', o2, none⟩) M cw, .int .i64 y0, .string y1, .int .i64 y2, .slice y3 z3 x3, .slice y4 z4 x4, .slice y5 z5 x5, .slice y6 z6 x6] → Below W0.heap.size W0 W → W.cell? ⟨ba, 3, none⟩ = some (.slice (some ⟨p', o2, none⟩) M cw) ∧ W.cell? ⟨ba, 4, none⟩ = some (.int .i64 y0) ∧ W.cell? ⟨ba, 5, none⟩ = some (.string y1) ∧ W.cell? ⟨ba, 6, none⟩ = some (.int .i64 y2) ∧ W.cell? ⟨ba, 7, none⟩ = some (.slice y3 z3 x3) ∧ W.cell? ⟨ba, 8, none⟩ = some (.slice y4 z4 x4) ∧ W.cell? ⟨ba, 9, none⟩ = some (.slice y5 z5 x5) ∧ W.cell? ⟨ba, 10, none⟩ = some (.slice y6 z6 x6) ∧ W.cell? ⟨p', o2 + j, none⟩ = some (.string y) from fun W hb hW => ⟨hb.cell 3, hb.cell 4, hb.cell 5, hb.cell 6, hb.cell 7, hb.cell 8, hb.cell 9, hb.cell 10, HCX.out W hW⟩)
                          have hS0 : wr.drew.cell? ⟨ba, 3, none⟩ = some (.slice (some ⟨p', o2, none⟩) M cw) ∧ wr.drew.cell? ⟨ba, 4, none⟩ = some (.int .i64 y0) ∧ wr.drew.cell? ⟨ba, 5, none⟩ = some (.string y1) ∧ wr.drew.cell? ⟨ba, 6, none⟩ = some (.int .i64 y2) ∧ wr.drew.cell? ⟨ba, 7, none⟩ = some (.slice y3 z3 x3) ∧ wr.drew.cell? ⟨ba, 8, none⟩ = some (.slice y4 z4 x4) ∧ wr.drew.cell? ⟨ba, 9, none⟩ = some (.slice y5 z5 x5) ∧ wr.drew.cell? ⟨ba, 10, none⟩ = some (.slice y6 z6 x6) ∧ wr.drew.cell? ⟨p', o2 + j, none⟩ = some (.string y) := HS8.out wr HRA.out hB
                          go_region_held3 (fun wx => wx.cell? ⟨ba, 3, none⟩ = some (.slice (some ⟨p', o2, none⟩) M cw) ∧ wx.cell? ⟨ba, 4, none⟩ = some (.int .i64 y0) ∧ wx.cell? ⟨ba, 5, none⟩ = some (.string y1) ∧ wx.cell? ⟨ba, 6, none⟩ = some (.int .i64 y2) ∧ wx.cell? ⟨ba, 7, none⟩ = some (.slice y3 z3 x3) ∧ wx.cell? ⟨ba, 8, none⟩ = some (.slice y4 z4 x4) ∧ wx.cell? ⟨ba, 9, none⟩ = some (.slice y5 z5 x5) ∧ wx.cell? ⟨ba, 10, none⟩ = some (.slice y6 z6 x6) ∧ wx.cell? ⟨p', o2 + j, none⟩ = some (.string y)) (assumption) (first | (go_at_call 28; with_reducible refine (KX.out _ (HB.out.drew)).mono ?_; rintro r1 w1 ⟨rfl, b1⟩; have q1 := below_of_drew b1; have s1 := q1.size; have B1 := chain HB.out q1; have ra1 := HRA.out.below q1 HRA.out.lt; have hS1 := HS8.out w1 ra1 B1; have hS2 := HS8.out (w1.alloc (.cells #[.string y, .int .i64 m] 42)) (ra1.alloc _) (B1.alloc (by omega) _); obtain ⟨v2, W2, hrun, o2', k2, sz2, n2⟩ := (HO.out.below q1).one2 y m (by omega) (by omega); have O2 := Lib.hid o2'; have K2 := Lib.hid (B1.trans k2); have N2 := Lib.hid (n2 ba ra1.lt HNA.out); have RA2 := Lib.hid (ra1.of_same N2.out.1 sz2); have hS3 := HS8.out W2 RA2.out (B1.trans k2); clear o2' k2 B1 ra1 n2 sz2) | (refine step_append_run (by rfl) _ _ _ _ (by rfl) _ _ _ _ (by rfl) (by rfl) hrun ?_))
                          all_goals
                            go_wp2
                            go_roundw
                            case measure => simp [intOf]; omega
                            case rel => exact ⟨j + 1, cur ++ [(y, m)], by go_num, by omega, O2, HF2, K2.out, RA2, Lib.hid N2.out.2⟩
                        · have hlt2 : decide ((j : Int) < (M : Int)) = false := by simp; omega
                          have hlt3 : decide (j < M) = false := by simp; omega
                          obtain rfl : M = j := by omega
                          have HF1 := Lib.hid (step_end _ HM.out HF.out)
                          have KX := Lib.hid (KA.out wr hB)
                          have hlen : cur.length + (allK 1 5 d x.e).length ≤ 10000000 := Nat.le_trans (by rw [← HF1.out]; simp only [List.length_append]; omega) HTl.out
                          have HF2 := Lib.hid (show (cur ++ allK 1 5 d x.e) ++ RR = T by rw [List.append_assoc]; exact HF1.out)
                          have HB := Lib.hid hB
                          have hsz := hB.size
                          clear HF HF1
                          go_wp2_with (first | (go_at_call 32; refine KX.out.mono ?_; rintro r1 w1 ⟨v2, rfl, o2, b1⟩; have s1 := b1.size; have B1 := chain HB.out b1; obtain ⟨va, W3, hrun, o3, k3⟩ := (HO.out.below b1).cat o2 (by omega) (by omega); have O3 := Lib.hid o3; have K3 := Lib.hid (B1.trans k3); clear o2 o3 k3 B1) | (at_builtin; refine wpList_append_run rfl _ _ _ _ rfl _ _ _ _ rfl rfl hrun ?_))
                          go_roundw
                          case measure => simp [intOf]; omega
                          case rel => exact ⟨k + 1, _, by go_num, by omega, O3, Lib.hid (by rw [HRR.out]; exact HF2.out), K3.out⟩
                    · have hlt2 : decide ((k : Int) < (N6 : Int)) = false := by simp; omega
                      have hlt3 : decide (k < N6) = false := by simp; omega
                      obtain rfl : N6 = k := by omega
                      have HF1 := Lib.hid (step_end _ HN6.out HF.out)
                      clear HF hlt2 hlt3
                      go_wp2
                      go_ret
                      exact ⟨_, rfl, by have := HF1.out; rw [List.append_nil] at this; rw [← this]; exact own_low HO.out HW0.out, HB0.out.trans (hB.mono HW0.out)⟩
theorem rall_any : ∀ (d : Nat) (x : Ex d) (v : Value) (W : World), ExIs W d v x → Sm d x → (allK 1 5 d x).length ≤ 10000000 →
      Calls Try.prog 32 #[v] W fun r W' => ∃ v', r = .returned v' ∧ OOwn W' W.heap.size v' (allK 1 5 d x) ∧ Below W.heap.size W W'
  | 0, x, _, _, _, _, _ => nomatch (x : Empty)
  | d + 1, x, v, W, h, hs, hn => rall_step d (rall_any d) v x W h hs hn
end Go.Proofs.Ytkcgchpflppmnaa
