/- The reference's Plain. -/
import Derived.Test.YtbjlnllbcgghlaaDoorPzA
namespace Go.Proofs.YtbjlnllbcgghlaaDoor
open Go.RowKit Go.Shelf
set_option linter.unusedSimpArgs false
set_option linter.unusedVariables false

/-- An empty row, made just now. -/
theorem UOwn.fresh (W : World) : UOwn (W.alloc (.cells #[] 5)) W.heap.size (.slice (some ⟨W.heap.size, 0, none⟩) 0 0) [] :=
  ⟨by simp, .inr ⟨W.heap.size, 0, #[], rfl, Nat.le_refl _, heap_alloc_new W _, Nat.le_refl _, by unfold maxLen; omega, rfl, rfl⟩⟩
/-- The copy that append makes onto an empty row. -/
theorem copy_of {W : World} {v : Value} {l : List UInt8} (h : Bts W v l) (hn : l.length ≤ 10000000) :
    ∃ v' W', (Builtin.append_ #[32, 32] 32 #[.slice (some ⟨W.heap.size, 0, none⟩) 0 0, v]).run Tryd.prog (W.alloc (.cells #[] 5)) = .ok v' W' ∧ UOwn W' W.heap.size v' l ∧ Below W.heap.size W W' := by
  have hb : Below W.heap.size W (W.alloc (.cells #[] 5)) := (Below.refl _ W).alloc (Nat.le_refl _) _
  obtain ⟨v', W', k1, k2, -, k4, -⟩ := (UOwn.fresh W).app (h.below hb) (by simp; omega) (by simp)
  rw [List.nil_append] at k2
  exact ⟨v', W', k1, k2, hb.trans k4⟩
theorem QCut.at2 {W : World} {B c : Nat} {v : Value} {us0 : List (PlD × Value)} {u z : PlD × Value} (h : QCut W B c v (us0 ++ [u] ++ [z])) : ∃ g cap, v = .slice (some ⟨g, 0, none⟩) (us0.length + 2) cap ∧ B ≤ g ∧ g < W.heap.size ∧ CellsAt W g (us0.length * 3) (prow u) ∧ ∀ j, W.frozen? ⟨g, j, none⟩ = false := by
  have h0 : W.ownsRow B 34 3 v ((us0 ++ [u] ++ [z]).map prow).length ((us0 ++ [u] ++ [z]).map prow).flatten := h.row
  rcases h0.2 with ⟨_, h2⟩ | ⟨g, cap, cc, hv2, hg, hh, r⟩
  · simp at h2
  · have hv := hv2
    rw [List.length_map, List.length_append, List.length_append] at hv
    refine ⟨g, cap, hv, hg, (Array.getElem?_eq_some_iff.1 hh).1, fun j c hj => ?_, fun j => frozen_of_row W g j cc _ hh⟩
    have hj3 : j < 3 := by have := (List.getElem?_eq_some_iff.1 hj).1; simpa [prow] using this
    have hfl : ((us0 ++ [u] ++ [z]).map prow).flatten[us0.length * 3 + j]? = some c := by
      rw [List.append_assoc, List.map_append, List.flatten_append, List.getElem?_append_right (by rw [prow_len]; omega), prow_len, Nat.add_sub_cancel_left]
      simp only [List.cons_append, List.nil_append, List.map_cons, List.map_nil, List.flatten_cons, List.flatten_nil, List.append_nil]
      rw [List.getElem?_append_left (by simpa [prow] using hj3)]
      exact hj
    have := World.ownsRow.cells h0 (g := g) (by rw [hv2]; rfl) _ _ hfl
    rwa [show (⟨g, 0, none⟩ : Addr).add (us0.length * 3 + j) = ⟨g, us0.length * 3 + j, none⟩ from by unfold Addr.add; split <;> simp_all] at this
/-- The last but one's number is set. -/
theorem QCut.num2 {W : World} {B c g cap : Nat} {us0 : List (PlD × Value)} {u z : PlD × Value} (h : QCut W B c (.slice (some ⟨g, 0, none⟩) (us0.length + 2) cap) (us0 ++ [u] ++ [z])) (n : Int) :
    QCut (W.setCell ⟨g, us0.length * 3 + 1, none⟩ (.int .i64 n)) B c (.slice (some ⟨g, 0, none⟩) (us0.length + 2) cap) (us0 ++ [(⟨u.1.kind, n, u.1.bytes⟩, u.2)] ++ [z]) := by
  obtain ⟨h2, h4, h5⟩ := h.snoc
  refine ⟨?_, by simpa [World.setCell] using h.cw, .inr ⟨us0 ++ [(⟨u.1.kind, n, u.1.bytes⟩, u.2)], z, rfl, h2, fun x hx => ?_, h5.1.setOther (h5.2 g rfl) _ _, h5.2⟩⟩
  · have h0 : W.ownsRow B 34 3 (.slice (some ⟨g, 0, none⟩) (us0.length + 2) cap) ((us0 ++ [u] ++ [z]).map prow).length ((us0 ++ [u] ++ [z]).map prow).flatten := h.row
    have el : ((us0 ++ [u] ++ [z]).map prow).length = us0.length + 2 := by simp
    have el2 : ((us0 ++ [((⟨u.1.kind, n, u.1.bytes⟩ : PlD), u.2)] ++ [z]).map prow).length = us0.length + 2 := by simp
    rw [el] at h0
    have k := (World.ownsRow.stored h0 (us0.length * 3 + 1) (.int .i64 n)).1
    unfold ROwn
    rw [el2]
    have e : ((us0 ++ [((⟨u.1.kind, n, u.1.bytes⟩ : PlD), u.2)] ++ [z]).map prow).flatten = ((us0 ++ [u] ++ [z]).map prow).flatten.set (us0.length * 3 + 1) (.int .i64 n) := by
      have h1 : ∀ (y : PlD × Value), ((us0 ++ [y] ++ [z]).map prow).flatten = (us0.map prow).flatten ++ (prow y ++ prow z) := fun y => by simp
      rw [h1, h1, List.set_append_right _ _ (by rw [prow_len]; omega), prow_len, Nat.add_sub_cancel_left]
      rfl
    rw [e]
    exact k
  · rcases List.mem_append.1 hx with hx | hx
    · exact (h4 x (by simp [hx])).grown h.cw (grown_set W g _ _) (.inl rfl)
    · simp at hx; subst hx
      exact (h4 u (by simp)).grown h.cw (grown_set W g _ _) (.inl rfl)
/-- A play of no bytes put behind all of them. -/
theorem JR.push0 {w W : World} {r g cap : Nat} {us0 : List (PlD × Value)} {u : PlD × Value} {vc : Value} {bs : List UInt8} (h : JR w W r g cap us0 u vc bs) (hb0 : Below w.heap.size w W) (k n : Int) (hl : us0.length + 1 ≤ 10000000) :
    ∃ v' W', (Builtin.append_ #[24, 24] 24 #[.slice (some ⟨g, 0, none⟩) (us0.length + 1) cap, .slice (some ⟨W.heap.size, 0, none⟩) 1 1]).run Tryd.prog (W.alloc (.cells #[.int .i64 k, .int .i64 n, .slice none 0 0] 34)) = .ok v' W' ∧ QOwn W' w.heap.size v' (us0 ++ [u] ++ [(⟨k, n, []⟩, .slice none 0 0)]) ∧ Below w.heap.size w W' := by
  have hb : Below W.heap.size W (W.alloc (.cells #[.int .i64 k, .int .i64 n, .slice none 0 0] 34)) := (Below.refl _ W).alloc (Nat.le_refl _) _
  have R := Blk.new W #[.int .i64 k, .int .i64 n, .slice none 0 0] 34
  obtain ⟨v', W', k1, k2, k3⟩ := (h.ra.below hb).push ⟨k, n, []⟩ (.slice none 0 0) (UOwn.nil _ _) W.heap.size (fun j q hj => by
    rw [Nat.zero_add]
    refine (R.cell j).trans ?_
    simpa using hj) (by simp; omega)
  exact ⟨v', W', k1, k2, (chain hb0 hb).trans k3⟩
set_option maxRecDepth 100000 in
set_option maxHeartbeats 8000000 in
theorem rplain_any (v : Value) (l : List PlD) (w : World) (h : Pls w v l) (hsm : smallK l) :
    Calls Tryd.prog 17 #[v] w fun e w' => PlainPost l w e w' := by
  have KC := rcheck_any v l w h
  obtain ⟨c, hc⟩ : ∃ c, chkK l = c := ⟨_, rfl⟩
  rw [hc] at KC
  obtain ⟨a, ca, rfl, ha⟩ := h
  obtain ⟨N, hN⟩ : ∃ N, l.length = N := ⟨_, rfl⟩
  have HN := Lib.hid hN
  have Ha := Lib.hid ha
  have hNb : N ≤ 5000 := by rw [← hN]; exact hsm.1
  rw [hN] at KC ⊢
  clear ha hN
  go_enter Tryd.func17, Tryd.ntmps17
  go_upto_region 2 with (go_at_call 20; refine KC.mono ?_; rintro r1 w1 ⟨rfl, b1⟩)
  by_cases h0 : c = 0
  · subst h0
    have HC := Lib.hid hc
    obtain ⟨hlen, hfine⟩ := chk_zero hc
    have HF := Lib.hid hfine
    have B0 := Lib.hid b1
    clear b1 hc hfine hlen
    go_wp2
    go_loopw [5, 6] (fun o i wr => ∃ (k : Nat) (us : List (PlD × Value)), i = .int .i64 k ∧ k ≤ N ∧ Hid (NSt w wr o us (plainK (l.take k)))) (fun _ i _ => N - (intOf i).toNat)
    case atStart => exact ⟨0, [], rfl, Nat.zero_le _, Lib.hid (NSt.mk' B0.out (QOwn.nil _ _) rfl hsm HF.out)⟩
    case round =>
      obtain ⟨k, us, rfl, hk, HS⟩ := hrel
      obtain ⟨ao, co, hvo⟩ := HS.out.own.shape
      subst hvo
      by_cases hlt : k < N
      · have hlt2 : decide ((k : Int) < (N : Int)) = true := by simp; omega
        have hlt3 : decide (k < N) = true := by simp; omega
        have hi0 : (0 : Int) ≤ (k : Int) := by omega
        have hkt : k < l.length := by rw [HN.out]; exact hlt
        have hB := HS.out.bel
        obtain ⟨p, o, rfl, hp, hat⟩ := Ha.out (by omega)
        obtain ⟨x, hx⟩ : ∃ x, l[k]? = some x := ⟨_, List.getElem?_eq_getElem hkt⟩
        obtain ⟨vs, hcs, hbts⟩ := hat k x hx
        have hxm := List.mem_of_getElem? hx
        obtain ⟨ab, cb, e1, -⟩ := id hbts
        have HX := Lib.hid hx
        have HXF := Lib.hid (HF.out x hxm)
        have HXL := Lib.hid (small_bytes hsm hxm)
        obtain ⟨m, hm⟩ : ∃ m, x.bytes.length = m := ⟨_, rfl⟩
        obtain ⟨kd, hkd⟩ : ∃ m, x.kind = m := ⟨_, rfl⟩
        obtain ⟨nn, hnn⟩ : ∃ m, x.n = m := ⟨_, rfl⟩
        rw [hm] at e1
        subst e1
        rw [hkd, hnn] at hcs
        have c0 := (hB.cell (p := ⟨p, o + k * 3 + 0, none⟩) hp).trans (hcs 0 _ rfl)
        have c1 := (hB.cell (p := ⟨p, o + k * 3 + 1, none⟩) hp).trans (hcs 1 _ rfl)
        have c2 := (hB.cell (p := ⟨p, o + k * 3 + 2, none⟩) hp).trans (hcs 2 _ rfl)
        rw [Nat.add_zero] at c0
        have hal : Below wr.heap.size wr (wr.alloc (.cells #[.int .i64 kd, .int .i64 nn, .slice ab m cb] 34)) := (Below.refl _ wr).alloc (Nat.le_refl _) _
        have HAL := Lib.hid hal
        have HBT := Lib.hid ((hbts.below hB).below hal)
        have HK := Lib.hid (And.intro hm (And.intro hkd hnn))
        have hsz2 : (wr.alloc (.cells #[.int .i64 kd, .int .i64 nn, .slice ab m cb] 34)).heap.size = wr.heap.size + 1 := by simp
        have HZ := Lib.hid hsz2
        clear hat hx hcs hm hbts hxm hal hB hsz2
        go_upto_region 9 with fail
        have R := Blk.new wr #[.int .i64 kd, .int .i64 nn, .slice ab m cb] 34
        generalize wr.alloc (.cells #[.int .i64 kd, .int .i64 nn, .slice ab m cb] 34) = W2 at R HAL HBT HZ ⊢
        have HR2 := Lib.hid (show ∃ r2, wr.heap.size = r2 from ⟨_, rfl⟩)
        obtain ⟨r2, hr2⟩ := HR2.out
        rw [hr2] at R ⊢
        have HR := Lib.hid hr2
        clear HR2 hr2
        have d0 : W2.cell? ⟨r2, 0, none⟩ = _ := R.cell 0
        have d1 : W2.cell? ⟨r2, 1, none⟩ = _ := R.cell 1
        have d2 : W2.cell? ⟨r2, 2, none⟩ = _ := R.cell 2
        simp only [List.getElem?_toArray, List.getElem?_cons_zero, List.getElem?_cons_succ] at d0 d1 d2
        have R' := Lib.hid R
        clear c0 c1 c2 R
        obtain ⟨vc, W3, hrun0, hu3, hb3⟩ := copy_of HBT.out (by have := HXL.out; omega)
        obtain ⟨ac, cc, hvc⟩ := hu3.shape
        have R3 := R'.out.below hb3 R'.out.lt
        have f3 := R3.free 2
        have f3b : W3.cell? ⟨r2, 2, none⟩ = _ := R3.cell 2
        simp only [List.getElem?_toArray, List.getElem?_cons_zero, List.getElem?_cons_succ] at f3b
        have PK := Lib.hid (PkS.mk' HS.out.bel HS.out.own HR.out HAL.out (by rw [HZ.out, HR.out]) (by rw [HK.out.2.1, HK.out.2.2]; exact R'.out) hu3 hb3)
        rw [HK.out.1] at hvc
        subst hvc
        clear hu3 hb3 R3
        have d2b : (W2.alloc (.cells #[] 5)).cell? ⟨r2, 2, none⟩ = some (.slice ab m cb) := (R'.out.alloc _).cell 2
        go_upto_region 10 with (refine wpList_append_run (by rfl) _ _ _ _ (by rfl) _ _ _ _ (by rfl) (by rfl) hrun0 ?_)
        generalize W3.setCell ⟨r2, 2, none⟩ (.slice ac m cc) = W4 at PK ⊢
        clear d0 d1 d2 f3 f3b d2b hrun0
        have d0 : W4.cell? ⟨r2, 0, none⟩ = _ := PK.out.blk.cell 0
        have d1 : W4.cell? ⟨r2, 1, none⟩ = _ := PK.out.blk.cell 1
        have d2 : W4.cell? ⟨r2, 2, none⟩ = _ := PK.out.blk.cell 2
        simp only [List.getElem?_toArray, List.getElem?_cons_zero, List.getElem?_cons_succ, HK.out.2.1, HK.out.2.2] at d0 d1 d2
        rcases fine_kind HXF.out with e | e | ⟨e, e0, e1⟩ | e | e
        · obtain rfl : kd = 1 := HK.out.2.1.symm.trans e
          by_cases hm0 : m = 0
          · have hz : ((m : Int) == 0) = true := by simp; omega
            have hz2 : (m == 0) = true := by simp; omega
            have HN2 := Lib.hid (show NSt w W4 (.slice ao us.length co) us (plainK (l.take (k + 1))) from NSt.mk' PK.out.bel (by obtain ⟨cq, -, hq⟩ := PK.out.own; exact ⟨cq, hq⟩) (by rw [plain_next HX.out, step_skip (.inr (.inr (.inl ⟨HK.out.2.1, List.length_eq_zero_iff.1 (HK.out.1.trans hm0)⟩)))]; exact HS.out.is) hsm HF.out)
            go_wp2
            go_roundw
            case measure => simp [intOf]; omega
            case rel => exact ⟨k + 1, us, by go_num, by omega, HN2⟩
          · have hz : ((m : Int) == 0) = false := by simp; omega
            have hz2 : (m == 0) = false := by simp; omega
            have hns := Lib.hid (show ¬ skipK x from by unfold skipK; rw [HK.out.2.1]; rintro (h | h | ⟨-, h⟩ | ⟨h, -⟩) <;> first | (revert h; decide) | (exact hm0 (by rw [← HK.out.1, h]; rfl)))
            rcases last_cases us with rfl | ⟨us0, u, rfl⟩
            · clear hlt2 hlt3
              go_upto_region 12 with fail
              go_quiet (fail)
              have PK5 := Lib.hid (PK.out.below (below_drewN W4 nq))
              generalize W4.drewN nq = W5 at PK5 ⊢
              clear d0 d1 d2
              have d0 : W5.cell? ⟨r2, 0, none⟩ = _ := PK5.out.blk.cell 0
              have d1 : W5.cell? ⟨r2, 1, none⟩ = _ := PK5.out.blk.cell 1
              have d2 : W5.cell? ⟨r2, 2, none⟩ = _ := PK5.out.blk.cell 2
              simp only [List.getElem?_toArray, List.getElem?_cons_zero, List.getElem?_cons_succ, HK.out.2.1, HK.out.2.2] at d0 d1 d2
              obtain ⟨v', W', hrun, hq, hbw⟩ := PK5.out.push (by have := HS.out.len; omega)
              rw [HK.out.2.1, HK.out.2.2] at hrun
              have HN2 := Lib.hid (show NSt w W' v' ([] ++ [(x, _)]) (plainK (l.take (k + 1))) from NSt.mk' hbw hq (by rw [plain_next HX.out, ← HS.out.is]; rw [List.map_nil, step_nil hns.out]; rfl) hsm HF.out)
              clear hq hbw
              go_wp2_with (refine wpList_append_run (by rfl) _ _ _ _ (by rfl) _ _ _ _ (by rfl) (by rfl) hrun ?_)
              go_roundw
              case measure => simp [intOf]; omega
              case rel => exact ⟨k + 1, _, by go_num, by omega, HN2⟩
            · clear hlt2 hlt3
              obtain ⟨cq, -, hq0⟩ := PK.out.own
              obtain ⟨g, cap, hvs, hBg, hgl, hcs, hfz⟩ := hq0.at_
              have hle : (us0 ++ [u]).length = us0.length + 1 := by simp
              have HLE := Lib.hid hle
              simp only [Value.slice.injEq] at hvs
              obtain ⟨rfl, -, rfl⟩ := hvs
              have hlen := HS.out.len
              rw [hle] at PK hlen ⊢
              obtain ⟨au, cu, hush⟩ := hq0.last_shape
              obtain ⟨yk, hyk⟩ : ∃ q, u.1.kind = q := ⟨_, rfl⟩
              obtain ⟨yn, hyn⟩ : ∃ q, u.1.n = q := ⟨_, rfl⟩
              obtain ⟨mu, hmu⟩ : ∃ q, u.1.bytes.length = q := ⟨_, rfl⟩
              rw [hmu] at hush
              have HY := Lib.hid (And.intro hyk (And.intro hyn (And.intro hmu hush)))
              have g0 := hcs 0 _ rfl
              have g1 := hcs 1 _ rfl
              have g2 := hcs 2 _ rfl
              rw [hyk, Nat.add_zero] at g0
              rw [hyn] at g1
              rw [hush] at g2
              have HLN := Lib.hid hlen
              have hge : decide ((us0.length : Int) < (0 : Int)) = false := by simp
              have hL5 : us0.length ≤ 5000 := by omega
              have hwl : IntKind.i64.wrap (us0.length : Int) = (us0.length : Int) := IntWalk.i64_in _ (by omega)
              clear hcs hfz hle hlen hyk hyn hmu hush hq0
              by_cases hyk : yk = 1
              · subst hyk
                go_upto_region 12 with fail
                go_quiet (fail)
                have PK5 := Lib.hid (PK.out.below (below_drewN W4 nq))
                generalize W4.drewN nq = W5 at PK5 ⊢
                clear d0 d1 d2 g0 g1 g2
                have d0 : W5.cell? ⟨r2, 0, none⟩ = _ := PK5.out.blk.cell 0
                have d1 : W5.cell? ⟨r2, 1, none⟩ = _ := PK5.out.blk.cell 1
                have d2 : W5.cell? ⟨r2, 2, none⟩ = _ := PK5.out.blk.cell 2
                simp only [List.getElem?_toArray, List.getElem?_cons_zero, List.getElem?_cons_succ, HK.out.2.1, HK.out.2.2] at d0 d1 d2
                obtain ⟨cq2, -, hq2⟩ := PK5.out.own
                obtain ⟨g', cap', hvs', -, -, hcs2, hfz2⟩ := hq2.at_
                simp only [Value.slice.injEq, Option.some.injEq, Addr.mk.injEq, true_and, and_true] at hvs'
                obtain ⟨rfl, rfl⟩ := hvs'
                have g0 := hcs2 0 _ rfl
                have g1 := hcs2 1 _ rfl
                have g2 := hcs2 2 _ rfl
                rw [HY.out.1, Nat.add_zero] at g0
                rw [HY.out.2.1] at g1
                rw [HY.out.2.2.2] at g2
                have HFZ := Lib.hid hfz2
                clear hcs2 hfz2 hq2
                obtain rfl : nn = 0 := HK.out.2.2.symm.trans ((fine_to HXF.out).2.2.2.2.1 (by rw [HK.out.2.1]; decide))
                obtain rfl : yn = 0 := HY.out.2.1.symm.trans ((fine_to (HS.out.fin u.1 (by rw [← HS.out.is]; simp))).2.2.2.2.1 (by rw [HY.out.1]; decide))
                obtain ⟨v', W', c', hrun, ⟨a', n', cp', rfl⟩, hcs', hfz', hJ⟩ := (PK5.out.below (Below.refl _ W5).drew).join (by have := HXL.out; have h1 := HS.out.sum; rw [← HS.out.is] at h1; have := bsum_mem (l := (us0 ++ [u]).map (·.1)) (x := u.1) (by simp); omega)
                rw [HY.out.2.2.2] at hrun
                have q0 := hcs' 0 _ rfl
                have q1 := hcs' 1 _ rfl
                have q2 := hcs' 2 _ rfl
                have q3 := hfz' (us0.length * 3 + 2)
                rw [HY.out.1, Nat.add_zero] at q0
                rw [HY.out.2.1] at q1
                rw [HY.out.2.2.2] at q2
                have HJ := Lib.hid hJ
                have hi1 : (0 : Int) ≤ (us0.length : Int) := by omega
                have hi2 : (us0.length : Int) < ((us0.length + 1 : Nat) : Int) := by omega
                have hi3 : (us0.length : Int) < (us0.length : Int) + 1 := by omega
                have hi4 : decide ((us0.length : Int) < ((us0.length + 1 : Nat) : Int)) = true := by simp; omega
                clear hcs' hfz' hJ
                go_wp2
                go_region_law (refine step_append_run rfl _ _ _ _ rfl (.slice au mu cu) (.slice ac m cc) (.slice a' n' cp') W' rfl rfl hrun ?_)
                all_goals
                  generalize W'.setCell ⟨g, us0.length * 3 + 2, none⟩ (.slice a' n' cp') = W6 at HJ ⊢
                  have HJ6 := HJ
                  clear HJ
                  obtain ⟨j0, j1, j2, j3, j4, j5, j6, j7, j8⟩ := HJ6.out.cells
                  simp only [HK.out.2.1, HK.out.2.2, HY.out.1, HY.out.2.1] at j0 j1 j2 j5 j6 j7
                  clear g0 g1 g2 d0 d1 d2 q0 q1 q2 q3
                  go_wp2
                  go_region
                  have HJ7 := Lib.hid (HJ6.out.gn 0).drew
                  generalize (W6.setCell ⟨g, us0.length * 3 + 1, none⟩ (.int .i64 0)).drew = W7 at HJ7 ⊢
                  clear j0 j1 j2 j3 j4 j5 j6 j7 j8
                  obtain ⟨j0, j1, j2, j3, j4, j5, j6, j7, j8⟩ := HJ7.out.cells
                  simp only [HK.out.2.1, HK.out.2.2, HY.out.1, HY.out.2.1] at j0 j1 j2 j5 j6 j7
                  have HN2 := Lib.hid (show NSt w W7 (.slice (some ⟨g, 0, none⟩) (us0.length + 1) co) (us0 ++ [((⟨u.1.kind, 0, u.1.bytes ++ x.bytes⟩ : PlD), Value.slice a' n' cp')]) (plainK (l.take (k + 1))) from NSt.mk' HJ7.out.bel ⟨c', HJ7.out.cut⟩ (by rw [plain_next HX.out, ← HS.out.is]; exact is_join hns.out (by rw [HK.out.2.1]; decide) (by rw [HY.out.1, HK.out.2.1]) (by rw [HY.out.2.1, HK.out.2.2]; rfl) (by decide)) hsm HF.out)
                  go_wp2
                  go_roundw
                  case measure => simp [intOf]; omega
                  case rel => exact ⟨k + 1, _, by go_num, by omega, HN2⟩
              · have hyk2 : (yk != 1) = true := by simp; exact hyk
                go_upto_region 12 with fail
                go_quiet (fail)
                clear g0 g1 g2
                have PK5 := Lib.hid (PK.out.below (below_drewN W4 nq))
                generalize W4.drewN nq = W5 at PK5 ⊢
                clear d0 d1 d2
                have d0 : W5.cell? ⟨r2, 0, none⟩ = _ := PK5.out.blk.cell 0
                have d1 : W5.cell? ⟨r2, 1, none⟩ = _ := PK5.out.blk.cell 1
                have d2 : W5.cell? ⟨r2, 2, none⟩ = _ := PK5.out.blk.cell 2
                simp only [List.getElem?_toArray, List.getElem?_cons_zero, List.getElem?_cons_succ, HK.out.2.1, HK.out.2.2] at d0 d1 d2
                obtain ⟨v', W', hrun, hq, hbw⟩ := PK5.out.push (by have := HS.out.len; omega)
                rw [HK.out.2.1, HK.out.2.2] at hrun
                have HN2 := Lib.hid (show NSt w W' v' (us0 ++ [u] ++ [(x, _)]) (plainK (l.take (k + 1))) from NSt.mk' hbw hq (by rw [plain_next HX.out, ← HS.out.is]; exact is_new hns.out (.inr (by rw [HY.out.1, HK.out.2.1]; exact hyk))) hsm HF.out)
                clear hq hbw
                go_wp2_with (refine wpList_append_run (by rfl) _ _ _ _ (by rfl) _ _ _ _ (by rfl) (by rfl) hrun ?_)
                go_roundw
                case measure => simp [intOf]; omega
                case rel => exact ⟨k + 1, _, by go_num, by omega, HN2⟩
        · obtain rfl : kd = 2 := HK.out.2.1.symm.trans e
          have hns := Lib.hid (show ¬ skipK x from by unfold skipK; rw [HK.out.2.1]; rintro (h | h | ⟨h, -⟩ | ⟨h, -⟩) <;> (revert h; decide))
          rcases last_cases us with rfl | ⟨us0, u, rfl⟩
          · clear hlt2 hlt3
            go_upto_region 12 with fail
            go_quiet (fail)
            have PK5 := Lib.hid (PK.out.below (below_drewN W4 nq))
            generalize W4.drewN nq = W5 at PK5 ⊢
            clear d0 d1 d2
            have d0 : W5.cell? ⟨r2, 0, none⟩ = _ := PK5.out.blk.cell 0
            have d1 : W5.cell? ⟨r2, 1, none⟩ = _ := PK5.out.blk.cell 1
            have d2 : W5.cell? ⟨r2, 2, none⟩ = _ := PK5.out.blk.cell 2
            simp only [List.getElem?_toArray, List.getElem?_cons_zero, List.getElem?_cons_succ, HK.out.2.1, HK.out.2.2] at d0 d1 d2
            obtain ⟨v', W', hrun, hq, hbw⟩ := PK5.out.push (by have := HS.out.len; omega)
            rw [HK.out.2.1, HK.out.2.2] at hrun
            have HN2 := Lib.hid (show NSt w W' v' ([] ++ [(x, _)]) (plainK (l.take (k + 1))) from NSt.mk' hbw hq (by rw [plain_next HX.out, ← HS.out.is]; rw [List.map_nil, step_nil hns.out]; rfl) hsm HF.out)
            clear hq hbw
            go_wp2_with (refine wpList_append_run (by rfl) _ _ _ _ (by rfl) _ _ _ _ (by rfl) (by rfl) hrun ?_)
            go_roundw
            case measure => simp [intOf]; omega
            case rel => exact ⟨k + 1, _, by go_num, by omega, HN2⟩
          · clear hlt2 hlt3
            obtain ⟨cq, -, hq0⟩ := PK.out.own
            obtain ⟨g, cap, hvs, hBg, hgl, hcs, hfz⟩ := hq0.at_
            have hle : (us0 ++ [u]).length = us0.length + 1 := by simp
            have HLE := Lib.hid hle
            simp only [Value.slice.injEq] at hvs
            obtain ⟨rfl, -, rfl⟩ := hvs
            have hlen := HS.out.len
            rw [hle] at PK hlen ⊢
            obtain ⟨au, cu, hush⟩ := hq0.last_shape
            obtain ⟨yk, hyk⟩ : ∃ q, u.1.kind = q := ⟨_, rfl⟩
            obtain ⟨yn, hyn⟩ : ∃ q, u.1.n = q := ⟨_, rfl⟩
            obtain ⟨mu, hmu⟩ : ∃ q, u.1.bytes.length = q := ⟨_, rfl⟩
            rw [hmu] at hush
            have HY := Lib.hid (And.intro hyk (And.intro hyn (And.intro hmu hush)))
            have g0 := hcs 0 _ rfl
            have g1 := hcs 1 _ rfl
            have g2 := hcs 2 _ rfl
            rw [hyk, Nat.add_zero] at g0
            rw [hyn] at g1
            rw [hush] at g2
            have HLN := Lib.hid hlen
            have hge : decide ((us0.length : Int) < (0 : Int)) = false := by simp
            have hL5 : us0.length ≤ 5000 := by omega
            have hwl : IntKind.i64.wrap (us0.length : Int) = (us0.length : Int) := IntWalk.i64_in _ (by omega)
            clear hcs hfz hle hlen hyk hyn hmu hush hq0
            by_cases hyk : yk = 2
            · subst hyk
              go_upto_region 12 with fail
              go_quiet (fail)
              clear g0 g1 g2
              have PK5 := Lib.hid (PK.out.below (below_drewN W4 nq))
              generalize W4.drewN nq = W5 at PK5 ⊢
              clear d0 d1 d2
              have d0 : W5.cell? ⟨r2, 0, none⟩ = _ := PK5.out.blk.cell 0
              have d1 : W5.cell? ⟨r2, 1, none⟩ = _ := PK5.out.blk.cell 1
              have d2 : W5.cell? ⟨r2, 2, none⟩ = _ := PK5.out.blk.cell 2
              simp only [List.getElem?_toArray, List.getElem?_cons_zero, List.getElem?_cons_succ, HK.out.2.1, HK.out.2.2] at d0 d1 d2
              obtain ⟨v', W', hrun, hq, hbw⟩ := PK5.out.push (by have := HS.out.len; omega)
              rw [HK.out.2.1, HK.out.2.2] at hrun
              have HN2 := Lib.hid (show NSt w W' v' (us0 ++ [u] ++ [(x, _)]) (plainK (l.take (k + 1))) from NSt.mk' hbw hq (by rw [plain_next HX.out, ← HS.out.is]; exact is_new hns.out (.inl HK.out.2.1)) hsm HF.out)
              clear hq hbw
              go_wp2_with (refine wpList_append_run (by rfl) _ _ _ _ (by rfl) _ _ _ _ (by rfl) (by rfl) hrun ?_)
              go_roundw
              case measure => simp [intOf]; omega
              case rel => exact ⟨k + 1, _, by go_num, by omega, HN2⟩
            · have hyk2 : (yk != 2) = true := by simp; exact hyk
              go_upto_region 12 with fail
              go_quiet (fail)
              clear g0 g1 g2
              have PK5 := Lib.hid (PK.out.below (below_drewN W4 nq))
              generalize W4.drewN nq = W5 at PK5 ⊢
              clear d0 d1 d2
              have d0 : W5.cell? ⟨r2, 0, none⟩ = _ := PK5.out.blk.cell 0
              have d1 : W5.cell? ⟨r2, 1, none⟩ = _ := PK5.out.blk.cell 1
              have d2 : W5.cell? ⟨r2, 2, none⟩ = _ := PK5.out.blk.cell 2
              simp only [List.getElem?_toArray, List.getElem?_cons_zero, List.getElem?_cons_succ, HK.out.2.1, HK.out.2.2] at d0 d1 d2
              obtain ⟨v', W', hrun, hq, hbw⟩ := PK5.out.push (by have := HS.out.len; omega)
              rw [HK.out.2.1, HK.out.2.2] at hrun
              have HN2 := Lib.hid (show NSt w W' v' (us0 ++ [u] ++ [(x, _)]) (plainK (l.take (k + 1))) from NSt.mk' hbw hq (by rw [plain_next HX.out, ← HS.out.is]; exact is_new hns.out (.inl HK.out.2.1)) hsm HF.out)
              clear hq hbw
              go_wp2_with (refine wpList_append_run (by rfl) _ _ _ _ (by rfl) _ _ _ _ (by rfl) (by rfl) hrun ?_)
              go_roundw
              case measure => simp [intOf]; omega
              case rel => exact ⟨k + 1, _, by go_num, by omega, HN2⟩
        · obtain rfl : kd = 3 := HK.out.2.1.symm.trans e
          rw [HK.out.2.2] at e0 e1
          by_cases hn0 : nn = 0
          · subst hn0
            have HN2 := Lib.hid (show NSt w W4 (.slice ao us.length co) us (plainK (l.take (k + 1))) from NSt.mk' PK.out.bel (by obtain ⟨cq, -, hq⟩ := PK.out.own; exact ⟨cq, hq⟩) (by rw [plain_next HX.out, step_skip (.inr (.inr (.inr ⟨HK.out.2.1, HK.out.2.2⟩)))]; exact HS.out.is) hsm HF.out)
            go_wp2
            go_roundw
            case measure => simp [intOf]; omega
            case rel => exact ⟨k + 1, us, by go_num, by omega, HN2⟩
          · have hz : (nn == 0) = false := by simp; omega
            have hns := Lib.hid (show ¬ skipK x from by unfold skipK; rw [HK.out.2.1]; rintro (h | h | ⟨h, -⟩ | ⟨-, h⟩) <;> first | (revert h; decide) | (exact hn0 (by rw [← HK.out.2.2, h])))
            rcases last_cases us with rfl | ⟨us0, u, rfl⟩
            · clear hlt2 hlt3
              go_upto_region 12 with fail
              go_quiet (fail)
              have PK5 := Lib.hid (PK.out.below (below_drewN W4 nq))
              generalize W4.drewN nq = W5 at PK5 ⊢
              clear d0 d1 d2
              have d0 : W5.cell? ⟨r2, 0, none⟩ = _ := PK5.out.blk.cell 0
              have d1 : W5.cell? ⟨r2, 1, none⟩ = _ := PK5.out.blk.cell 1
              have d2 : W5.cell? ⟨r2, 2, none⟩ = _ := PK5.out.blk.cell 2
              simp only [List.getElem?_toArray, List.getElem?_cons_zero, List.getElem?_cons_succ, HK.out.2.1, HK.out.2.2] at d0 d1 d2
              obtain ⟨v', W', hrun, hq, hbw⟩ := PK5.out.push (by have := HS.out.len; omega)
              rw [HK.out.2.1, HK.out.2.2] at hrun
              have HN2 := Lib.hid (show NSt w W' v' ([] ++ [(x, _)]) (plainK (l.take (k + 1))) from NSt.mk' hbw hq (by rw [plain_next HX.out, ← HS.out.is]; rw [List.map_nil, step_nil hns.out]; rfl) hsm HF.out)
              clear hq hbw
              go_wp2_with (refine wpList_append_run (by rfl) _ _ _ _ (by rfl) _ _ _ _ (by rfl) (by rfl) hrun ?_)
              go_roundw
              case measure => simp [intOf]; omega
              case rel => exact ⟨k + 1, _, by go_num, by omega, HN2⟩
            · clear hlt2 hlt3
              obtain ⟨cq, -, hq0⟩ := PK.out.own
              obtain ⟨g, cap, hvs, hBg, hgl, hcs, hfz⟩ := hq0.at_
              have hle : (us0 ++ [u]).length = us0.length + 1 := by simp
              have HLE := Lib.hid hle
              simp only [Value.slice.injEq] at hvs
              obtain ⟨rfl, -, rfl⟩ := hvs
              have hlen := HS.out.len
              rw [hle] at PK hlen ⊢
              obtain ⟨au, cu, hush⟩ := hq0.last_shape
              obtain ⟨yk, hyk⟩ : ∃ q, u.1.kind = q := ⟨_, rfl⟩
              obtain ⟨yn, hyn⟩ : ∃ q, u.1.n = q := ⟨_, rfl⟩
              obtain ⟨mu, hmu⟩ : ∃ q, u.1.bytes.length = q := ⟨_, rfl⟩
              rw [hmu] at hush
              have HY := Lib.hid (And.intro hyk (And.intro hyn (And.intro hmu hush)))
              have g0 := hcs 0 _ rfl
              have g1 := hcs 1 _ rfl
              have g2 := hcs 2 _ rfl
              rw [hyk, Nat.add_zero] at g0
              rw [hyn] at g1
              rw [hush] at g2
              have HLN := Lib.hid hlen
              have hge : decide ((us0.length : Int) < (0 : Int)) = false := by simp
              have hL5 : us0.length ≤ 5000 := by omega
              have hwl : IntKind.i64.wrap (us0.length : Int) = (us0.length : Int) := IntWalk.i64_in _ (by omega)
              clear hcs hfz hle hlen hyk hyn hmu hush hq0
              by_cases hyk : yk = 3
              · subst hyk
                go_upto_region 12 with fail
                go_quiet (fail)
                have PK5 := Lib.hid (PK.out.below (below_drewN W4 nq))
                generalize W4.drewN nq = W5 at PK5 ⊢
                clear d0 d1 d2 g0 g1 g2
                have d0 : W5.cell? ⟨r2, 0, none⟩ = _ := PK5.out.blk.cell 0
                have d1 : W5.cell? ⟨r2, 1, none⟩ = _ := PK5.out.blk.cell 1
                have d2 : W5.cell? ⟨r2, 2, none⟩ = _ := PK5.out.blk.cell 2
                simp only [List.getElem?_toArray, List.getElem?_cons_zero, List.getElem?_cons_succ, HK.out.2.1, HK.out.2.2] at d0 d1 d2
                obtain ⟨cq2, -, hq2⟩ := PK5.out.own
                obtain ⟨g', cap', hvs', -, -, hcs2, hfz2⟩ := hq2.at_
                simp only [Value.slice.injEq, Option.some.injEq, Addr.mk.injEq, true_and, and_true] at hvs'
                obtain ⟨rfl, rfl⟩ := hvs'
                have g0 := hcs2 0 _ rfl
                have g1 := hcs2 1 _ rfl
                have g2 := hcs2 2 _ rfl
                rw [HY.out.1, Nat.add_zero] at g0
                rw [HY.out.2.1] at g1
                rw [HY.out.2.2.2] at g2
                have HFZ := Lib.hid hfz2
                clear hcs2 hfz2 hq2
                have hxb : x.bytes = [] := (fine_zero HXF.out).2 (by rw [HK.out.2.1]; decide)
                have hyf := fine_to (HS.out.fin u.1 (by rw [← HS.out.is]; simp))
                have hyb : u.1.bytes = [] := (fine_zero (HS.out.fin u.1 (by rw [← HS.out.is]; simp))).2 (by rw [HY.out.1]; decide)
                have hy0 : 0 ≤ yn := by rw [← HY.out.2.1]; exact hyf.2.2.2.2.2.1
                have hy1 : yn ≤ 1048576 := by rw [← HY.out.2.1]; exact hyf.2.2.2.2.2.2
                have hcat : u.1.bytes ++ x.bytes = u.1.bytes := by rw [hxb, List.append_nil]
                have HCAT := Lib.hid (And.intro hcat hxb)
                obtain ⟨hrun, -⟩ := (PK5.out.below (Below.refl _ W5).drew).join0 hxb
                obtain ⟨-, c', hJ0, hJR0⟩ := PK5.out.join0 hxb
                have hJ := hJ0.drew
                have hJR := hJR0.drew
                clear hJ0 hJR0
                rw [HY.out.2.2.2] at hrun hJ hJR
                have HJ := Lib.hid hJ
                have HJR := Lib.hid hJR
                have hi1 : (0 : Int) ≤ (us0.length : Int) := by omega
                have hi2 : (us0.length : Int) < ((us0.length + 1 : Nat) : Int) := by omega
                have hi3 : (us0.length : Int) < (us0.length : Int) + 1 := by omega
                have hi4 : decide ((us0.length : Int) < ((us0.length + 1 : Nat) : Int)) = true := by simp; omega
                obtain ⟨sm, hsm2⟩ : ∃ q, yn + nn = q := ⟨_, rfl⟩
                have hws : IntKind.i64.wrap sm = sm := IntWalk.i64_in _ (by omega)
                have hws2 : wrap64 sm = sm := IntWalk.wrap64_in _ ⟨by omega, by omega⟩
                have q3 : W5.frozen? ⟨g, us0.length * 3 + 2, none⟩ = false := HFZ.out _
                clear hJ hJR hcat hxb hyb hyf
                go_wp2
                go_region_law (refine step_append_run rfl _ _ _ _ rfl (.slice au mu cu) (.slice ac m cc) (.slice au mu cu) W5.drew rfl rfl hrun ?_)
                all_goals
                  generalize (W5.setCell ⟨g, us0.length * 3 + 2, none⟩ (.slice au mu cu)).drew = W6 at HJ HJR ⊢
                  have HJ6 := HJ
                  have HR6 := HJR
                  clear HJ HJR
                  obtain ⟨j0, j1, j2, j3, j4, j5, j6, j7, j8⟩ := HJ6.out.cells
                  simp only [HK.out.2.1, HK.out.2.2, HY.out.1, HY.out.2.1] at j0 j1 j2 j5 j6 j7
                  clear g0 g1 g2 d0 d1 d2
                  go_wp2
                  go_region
                  have HJ7 := Lib.hid (HJ6.out.gn sm).drew
                  have HR7 := Lib.hid (HR6.out.gn sm).drew
                  generalize (W6.setCell ⟨g, us0.length * 3 + 1, none⟩ (.int .i64 sm)).drew = W7 at HJ7 HR7 ⊢
                  clear j0 j1 j2 j3 j4 j5 j6 j7 j8
                  obtain ⟨j0, j1, j2, j3, j4, j5, j6, j7, j8⟩ := HJ7.out.cells
                  simp only [HK.out.2.1, HK.out.2.2, HY.out.1, HY.out.2.1] at j0 j1 j2 j5 j6 j7
                  by_cases hov : sm ≤ 1048576
                  · have hgt : decide ((1048576 : Int) < sm) = false := by simp; omega
                    have HN2 := Lib.hid (show NSt w W7 (.slice (some ⟨g, 0, none⟩) (us0.length + 1) co) (us0 ++ [((⟨u.1.kind, sm, u.1.bytes⟩ : PlD), Value.slice au mu cu)]) (plainK (l.take (k + 1))) from NSt.mk' HJ7.out.bel ⟨c', by have := HJ7.out.cut; rw [HY.out.2.2.2] at this; exact this⟩ (by rw [plain_next HX.out, ← HS.out.is]; have := is_join (us0 := us0) (u := u) (v' := Value.slice au mu cu) hns.out (by rw [HK.out.2.1]; decide) (by rw [HY.out.1, HK.out.2.1]) (show u.1.n + x.n = sm by rw [HY.out.2.1, HK.out.2.2]; omega) hov; rw [HCAT.out.1] at this; exact this) hsm HF.out)
                    go_wp2
                    go_roundw
                    case measure => simp [intOf]; omega
                    case rel => exact ⟨k + 1, _, by go_num, by omega, HN2⟩
                  · have hgt : decide ((1048576 : Int) < sm) = true := by simp; omega
                    obtain ⟨df, hdf⟩ : ∃ q, sm - 1048576 = q := ⟨_, rfl⟩
                    have hwd : IntKind.i64.wrap df = df := IntWalk.i64_in _ (by omega)
                    have hwd2 : wrap64 df = df := IntWalk.wrap64_in _ ⟨by omega, by omega⟩
                    obtain ⟨v', W', hrun2, ⟨cz, hq⟩, hbw⟩ := HR7.out.push0 HJ7.out.bel 3 df (by omega)
                    obtain ⟨g2, cap2, rfl, hg2, -, hcs2, hfz2⟩ := hq.at2
                    have p1 := hcs2 1 _ rfl
                    have p2 := hfz2 (us0.length * 3 + 1)
                    have hj1 : (us0.length : Int) < ((us0.length + 2 : Nat) : Int) := by omega
                    have hj2 : (us0.length : Int) < (us0.length : Int) + 2 := by omega
                    have hj3 : decide ((us0.length : Int) < ((us0.length + 2 : Nat) : Int)) = true := by simp; omega
                    have HN2 := Lib.hid (show NSt w (W'.setCell ⟨g2, us0.length * 3 + 1, none⟩ (.int .i64 1048576)) (.slice (some ⟨g2, 0, none⟩) (us0.length + 2) cap2) (us0 ++ [((⟨u.1.kind, 1048576, u.1.bytes⟩ : PlD), u.2)] ++ [((⟨3, df, []⟩ : PlD), _)]) (plainK (l.take (k + 1))) from NSt.mk' (below_grown_new hbw (grown_set _ _ _ _) hg2) ⟨cz, hq.num2 1048576⟩ (by rw [plain_next HX.out, ← HS.out.is]; have := is_over (us0 := us0) (u := u) (v' := u.2) (vc := .slice none 0 0) hns.out (by rw [HK.out.2.1]; decide) (by rw [HY.out.1, HK.out.2.1]) (show u.1.n + x.n = sm by rw [HY.out.2.1, HK.out.2.2]; omega) (Int.not_le.2 (Int.not_le.1 hov)); rw [HCAT.out.1, HCAT.out.2, HK.out.2.1, hdf] at this; exact this) hsm HF.out)
                    clear hq hbw hrun hcs2 hfz2 hg2
                    simp only at p1
                    go_wp2_with (refine wpList_append_run (by rfl) _ _ _ _ (by rfl) _ _ _ _ (by rfl) (by rfl) hrun2 ?_)
                    go_roundw
                    case measure => simp [intOf]; omega
                    case rel => exact ⟨k + 1, _, by go_num, by omega, HN2⟩
              · have hyk2 : (yk != 3) = true := by simp; exact hyk
                go_upto_region 12 with fail
                go_quiet (fail)
                clear g0 g1 g2
                have PK5 := Lib.hid (PK.out.below (below_drewN W4 nq))
                generalize W4.drewN nq = W5 at PK5 ⊢
                clear d0 d1 d2
                have d0 : W5.cell? ⟨r2, 0, none⟩ = _ := PK5.out.blk.cell 0
                have d1 : W5.cell? ⟨r2, 1, none⟩ = _ := PK5.out.blk.cell 1
                have d2 : W5.cell? ⟨r2, 2, none⟩ = _ := PK5.out.blk.cell 2
                simp only [List.getElem?_toArray, List.getElem?_cons_zero, List.getElem?_cons_succ, HK.out.2.1, HK.out.2.2] at d0 d1 d2
                obtain ⟨v', W', hrun, hq, hbw⟩ := PK5.out.push (by have := HS.out.len; omega)
                rw [HK.out.2.1, HK.out.2.2] at hrun
                have HN2 := Lib.hid (show NSt w W' v' (us0 ++ [u] ++ [(x, _)]) (plainK (l.take (k + 1))) from NSt.mk' hbw hq (by rw [plain_next HX.out, ← HS.out.is]; exact is_new hns.out (.inr (by rw [HY.out.1, HK.out.2.1]; exact hyk))) hsm HF.out)
                clear hq hbw
                go_wp2_with (refine wpList_append_run (by rfl) _ _ _ _ (by rfl) _ _ _ _ (by rfl) (by rfl) hrun ?_)
                go_roundw
                case measure => simp [intOf]; omega
                case rel => exact ⟨k + 1, _, by go_num, by omega, HN2⟩
        · obtain rfl : kd = 4 := HK.out.2.1.symm.trans e
          have HN2 := Lib.hid (show NSt w W4 (.slice ao us.length co) us (plainK (l.take (k + 1))) from NSt.mk' PK.out.bel (by obtain ⟨cq, -, hq⟩ := PK.out.own; exact ⟨cq, hq⟩) (by rw [plain_next HX.out, step_skip (.inl HK.out.2.1)]; exact HS.out.is) hsm HF.out)
          go_wp2
          go_roundw
          case measure => simp [intOf]; omega
          case rel => exact ⟨k + 1, us, by go_num, by omega, HN2⟩
        · obtain rfl : kd = 5 := HK.out.2.1.symm.trans e
          have HN2 := Lib.hid (show NSt w W4 (.slice ao us.length co) us (plainK (l.take (k + 1))) from NSt.mk' PK.out.bel (by obtain ⟨cq, -, hq⟩ := PK.out.own; exact ⟨cq, hq⟩) (by rw [plain_next HX.out, step_skip (.inr (.inl HK.out.2.1))]; exact HS.out.is) hsm HF.out)
          go_wp2
          go_roundw
          case measure => simp [intOf]; omega
          case rel => exact ⟨k + 1, us, by go_num, by omega, HN2⟩
      · have hlt2 : decide ((k : Int) < (N : Int)) = false := by simp; omega
        have hlt3 : decide (k < N) = false := by simp; omega
        obtain rfl : N = k := by omega
        have hal : plainK (l.take N) = plainK l := by rw [← HN.out, List.take_length]
        have hP : Pls wr (.slice ao us.length co) (plainK l) := by have := HS.out.own.pls; rw [HS.out.is, hal] at this; exact this
        have HP := Lib.hid hP
        have HP2 := Lib.hid (show plainK l = if chkK l = 0 then plainK l else [] by rw [if_pos HC.out])
        clear hP hal
        go_wp2
        refine bodyPost_ret (v := .tuple #[.slice ao us.length co, .int .i64 0]) (by simp [results, Tryd.results17, go_sem, Array.mapM_eq_mapM_toList]) rfl ?_
        exact PlainPost.mk HC.out rfl HP2.out (by obtain ⟨cq, hq⟩ := HS.out.own; exact own_room hq.row) HP.out HS.out.bel
  · have e1 : (c != 0) = true := by simp; exact h0
    have HP := Lib.hid (show ([] : List PlD) = if chkK l = 0 then plainK l else [] by rw [if_neg (by rw [hc]; exact h0)])
    have HC := Lib.hid hc
    clear hc
    go_wp2
    refine bodyPost_ret (v := .tuple #[.slice none 0 0, .int .i64 c]) (by simp [results, Tryd.results17, go_sem, Array.mapM_eq_mapM_toList]) rfl ?_
    exact PlainPost.mk HC.out rfl HP.out (Room.of (Nat.le_refl _)) (Pls.emp _) b1
end Go.Proofs.YtbjlnllbcgghlaaDoor
