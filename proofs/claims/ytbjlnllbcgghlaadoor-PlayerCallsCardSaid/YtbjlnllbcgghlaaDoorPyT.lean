/- The program's Plain. -/
import Derived.Test.YtbjlnllbcgghlaaDoorPyS
namespace Go.Proofs.YtbjlnllbcgghlaaDoor
open Go.RowKit Go.Shelf
set_option linter.unusedSimpArgs false
set_option linter.unusedVariables false

theorem plain_next {l : List PlD} {k : Nat} {x : PlD} (hx : l[k]? = some x) : plainK (l.take (k + 1)) = stepP (plainK (l.take k)) x := by
  unfold plainK
  rw [List.take_add_one, hx, List.foldl_append]; rfl
/-- Two bounds on what was made so far. -/
theorem plain_ok (l : List PlD) (hf : ∀ x ∈ l, fineK x = true) : (∀ y ∈ plainK l, fineK y = true) ∧ (plainK l).length ≤ l.length ∧ bsum (plainK l) ≤ bsum l := by
  have go : ∀ (l acc : List PlD), (∀ x ∈ l, fineK x = true) → (∀ y ∈ acc, fineK y = true) → (∀ y ∈ l.foldl stepP acc, fineK y = true) ∧ (l.foldl stepP acc).length ≤ acc.length + l.length ∧ bsum (l.foldl stepP acc) ≤ bsum acc + bsum l := by
    intro l
    induction l with
    | nil => intro acc _ ha; exact ⟨ha, by simp, by simp [bsum]⟩
    | cons x l ih =>
      intro acc hl ha
      have hx := hl x (List.mem_cons_self ..)
      have h1 := step_size ha hx
      have h2 := ih (stepP acc x) (fun y hy => hl y (List.mem_cons_of_mem _ hy)) (step_fine ha hx)
      rw [List.foldl_cons]
      refine ⟨h2.1, by have := h2.2.1; rw [List.length_cons]; omega, ?_⟩
      have := h2.2.2
      have e : bsum (x :: l) = x.bytes.length + bsum l := by simp [bsum]
      omega
  have := go l [] hf (fun y hy => by cases hy)
  have q1 := this.2.1
  have q2 := this.2.2
  rw [List.length_nil, Nat.zero_add] at q1
  rw [show bsum [] = 0 from rfl, Nat.zero_add] at q2
  exact ⟨this.1, q1, q2⟩
theorem bsum_mem {l : List PlD} {x : PlD} (h : x ∈ l) : x.bytes.length ≤ bsum l := by
  induction l with
  | nil => cases h
  | cons y l ih =>
    have e : bsum (y :: l) = y.bytes.length + bsum l := by simp [bsum]
    rcases List.mem_cons.1 h with rfl | h
    · omega
    · have := ih h; omega
theorem bsum_take (l : List PlD) (k : Nat) : bsum (l.take k) ≤ bsum l := by
  conv => rhs; rw [← List.take_append_drop k l, bsum_app]
  omega
theorem is_new {us0 : List (PlD × Value)} {u : PlD × Value} {x : PlD} {vc : Value} (h : ¬ skipK x) (hk : x.kind = 2 ∨ u.1.kind ≠ x.kind) : ((us0 ++ [u]) ++ [(x, vc)]).map (·.1) = stepP ((us0 ++ [u]).map (·.1)) x := by
  simp only [List.map_append, List.map_cons, List.map_nil]
  rw [step_new h hk]
theorem is_join {us0 : List (PlD × Value)} {u : PlD × Value} {x : PlD} {v' : Value} {n : Int} (h : ¬ skipK x) (hk : x.kind ≠ 2) (hk2 : u.1.kind = x.kind) (hn : u.1.n + x.n = n) (hn2 : n ≤ 1048576) : (us0 ++ [((⟨u.1.kind, n, u.1.bytes ++ x.bytes⟩ : PlD), v')]).map (·.1) = stepP ((us0 ++ [u]).map (·.1)) x := by
  simp only [List.map_append, List.map_cons, List.map_nil]
  rw [step_join h hk hk2]
  unfold joinK
  rw [hn, if_pos hn2]
theorem is_over {us0 : List (PlD × Value)} {u : PlD × Value} {x : PlD} {v' vc : Value} {n : Int} (h : ¬ skipK x) (hk : x.kind ≠ 2) (hk2 : u.1.kind = x.kind) (hn : u.1.n + x.n = n) (hn2 : ¬ n ≤ 1048576) : (us0 ++ [((⟨u.1.kind, 1048576, u.1.bytes ++ x.bytes⟩ : PlD), v')] ++ [((⟨x.kind, n - 1048576, x.bytes⟩ : PlD), vc)]).map (·.1) = stepP ((us0 ++ [u]).map (·.1)) x := by
  simp only [List.map_append, List.map_cons, List.map_nil]
  rw [step_join h hk hk2]
  unfold joinK
  rw [hn, if_neg hn2]
  simp
structure NSt (w wr : World) (v : Value) (us : List (PlD × Value)) (p : List PlD) : Prop where
  bel : Below w.heap.size w wr
  own : QOwn wr w.heap.size v us
  is : us.map (·.1) = p
  fin : ∀ y ∈ p, fineK y = true
  len : us.length ≤ 5000
  sum : bsum p ≤ 20000
theorem NSt.mk' {w wr : World} {v : Value} {us : List (PlD × Value)} {l : List PlD} {k : Nat} (h1 : Below w.heap.size w wr) (h2 : QOwn wr w.heap.size v us) (h3 : us.map (·.1) = plainK (l.take k)) (hsm : smallK l) (hf : ∀ x ∈ l, fineK x = true) : NSt w wr v us (plainK (l.take k)) := by
  have h := plain_ok (l.take k) (fun x hx => hf x (List.mem_of_mem_take hx))
  refine ⟨h1, h2, h3, h.1, ?_, ?_⟩
  · have e : us.length = (plainK (l.take k)).length := by rw [← h3, List.length_map]
    have h3 := h.2.1; have h4 := hsm.1; rw [List.length_take] at h3; omega
  · have := h.2.2; have := bsum_take l k; have := hsm.2; unfold bsum at *; omega
/-- A slice stands in its room. -/
def Room (v : Value) : Prop := ∀ a n c, v = .slice a n c → n ≤ c
theorem Room.of {a : Option Addr} {n c : Nat} (h : n ≤ c) : Room (.slice a n c) := by
  intro a' n' c' e
  simp only [Value.slice.injEq] at e
  omega
theorem own_room {W : World} {B : Nat} {t : TypeId} {sz : Nat} {v : Value} {rows : List (List Value)} (h : ROwn W B t sz v rows) : Room v := by
  have h0 : W.ownsRow B t sz v rows.length rows.flatten := h
  rcases h0.2 with ⟨rfl, h2⟩ | ⟨g, cap, cc, rfl, -, -, hnc, -⟩
  · exact Room.of (Nat.le_refl _)
  · exact Room.of hnc
/-- Plain's answer. -/
def PlainPost (l : List PlD) (w : World) (e : Ending) (w' : World) : Prop := ∃ v, e = .returned (.tuple #[v, .int .i64 (chkK l)]) ∧ Room v ∧ Pls w' v (if chkK l = 0 then plainK l else []) ∧ Below w.heap.size w w'
theorem PlainPost.mk {l : List PlD} {w w' : World} {e : Ending} {v : Value} {c : Int} {p : List PlD} (h0 : chkK l = c) (h1 : e = .returned (.tuple #[v, .int .i64 c])) (hp : p = if chkK l = 0 then plainK l else []) (hr : Room v) (h2 : Pls w' v p) (h3 : Below w.heap.size w w') : PlainPost l w e w' := by
  subst h0
  subst hp
  exact ⟨v, h1, hr, h2, h3⟩
set_option maxRecDepth 100000 in
set_option maxHeartbeats 8000000 in
theorem plain_any (v : Value) (l : List PlD) (w : World) (h : Pls w v l) (hsm : smallK l) :
    Calls Tryd.prog 8 #[v] w fun e w' => PlainPost l w e w' := by
  have KC := check_any v l w h
  obtain ⟨c, hc⟩ : ∃ c, chkK l = c := ⟨_, rfl⟩
  rw [hc] at KC
  obtain ⟨a, ca, rfl, ha⟩ := h
  obtain ⟨N, hN⟩ : ∃ N, l.length = N := ⟨_, rfl⟩
  have HN := Lib.hid hN
  have Ha := Lib.hid ha
  have hNb : N ≤ 5000 := by rw [← hN]; exact hsm.1
  rw [hN] at KC ⊢
  clear ha hN
  go_enter Tryd.func8, Tryd.ntmps8
  go_upto_region 2 with (go_at_call 19; refine KC.mono ?_; rintro r1 w1 ⟨rfl, b1⟩)
  by_cases h0 : c = 0
  · subst h0
    have HC := Lib.hid hc
    obtain ⟨hlen, hfine⟩ := chk_zero hc
    have HF := Lib.hid hfine
    have B0 := Lib.hid b1
    clear b1 hc hfine hlen
    go_wp2
    go_loopw [5, 16] (fun o i wr => ∃ (k : Nat) (us : List (PlD × Value)), i = .int .i64 k ∧ k ≤ N ∧ Hid (NSt w wr o us (plainK (l.take k)))) (fun _ i _ => N - (intOf i).toNat)
    case atStart => exact ⟨0, [], rfl, Nat.zero_le _, Lib.hid (NSt.mk' B0.out (QOwn.nil _ _) rfl hsm HF.out)⟩
    case round =>
      obtain ⟨k, us, rfl, hk, HS⟩ := hrel
      obtain ⟨ao, co, hvo⟩ := HS.out.own.shape
      subst hvo
      by_cases hlt : k < N
      · have hlt2 : decide ((k : Int) < (N : Int)) = true := by simp; omega
        have hlt3 : decide (k < N) = true := by simp; omega
        have hi0 : (0 : Int) ≤ (k : Int) := by omega
        have hkt : k < l.length := by rw [HN.out]; exact hlt
        have hB := HS.out.bel
        obtain ⟨p, o, rfl, hp, hat⟩ := Ha.out (by omega)
        obtain ⟨x, hx⟩ : ∃ x, l[k]? = some x := ⟨_, List.getElem?_eq_getElem hkt⟩
        obtain ⟨vs, hcs, hbts⟩ := hat k x hx
        have hxm := List.mem_of_getElem? hx
        obtain ⟨ab, cb, e1, -⟩ := id hbts
        have HX := Lib.hid hx
        have HXF := Lib.hid (HF.out x hxm)
        have HXL := Lib.hid (small_bytes hsm hxm)
        obtain ⟨m, hm⟩ : ∃ m, x.bytes.length = m := ⟨_, rfl⟩
        obtain ⟨kd, hkd⟩ : ∃ m, x.kind = m := ⟨_, rfl⟩
        obtain ⟨nn, hnn⟩ : ∃ m, x.n = m := ⟨_, rfl⟩
        rw [hm] at e1
        subst e1
        rw [hkd, hnn] at hcs
        have c0 := (hB.cell (p := ⟨p, o + k * 3 + 0, none⟩) hp).trans (hcs 0 _ rfl)
        have c1 := (hB.cell (p := ⟨p, o + k * 3 + 1, none⟩) hp).trans (hcs 1 _ rfl)
        have c2 := (hB.cell (p := ⟨p, o + k * 3 + 2, none⟩) hp).trans (hcs 2 _ rfl)
        rw [Nat.add_zero] at c0
        have hal : Below wr.heap.size wr (wr.alloc (.cells #[.int .i64 kd, .int .i64 nn, .slice ab m cb] 34)) := (Below.refl _ wr).alloc (Nat.le_refl _) _
        have HAL := Lib.hid hal
        have HBT := Lib.hid ((hbts.below hB).below hal)
        have HK := Lib.hid (And.intro hm (And.intro hkd hnn))
        have hsz2 : (wr.alloc (.cells #[.int .i64 kd, .int .i64 nn, .slice ab m cb] 34)).heap.size = wr.heap.size + 1 := by simp
        have HZ := Lib.hid hsz2
        clear hat hx hcs hm hbts hxm hal hB hsz2
        go_upto_region 8 with fail
        have R := Blk.new wr #[.int .i64 kd, .int .i64 nn, .slice ab m cb] 34
        generalize wr.alloc (.cells #[.int .i64 kd, .int .i64 nn, .slice ab m cb] 34) = W2 at R HAL HBT HZ ⊢
        have HR2 := Lib.hid (show ∃ r2, wr.heap.size = r2 from ⟨_, rfl⟩)
        obtain ⟨r2, hr2⟩ := HR2.out
        rw [hr2] at R ⊢
        have HR := Lib.hid hr2
        clear HR2 hr2
        have d0 : W2.cell? ⟨r2, 0, none⟩ = _ := R.cell 0
        have d1 : W2.cell? ⟨r2, 1, none⟩ = _ := R.cell 1
        have d2 : W2.cell? ⟨r2, 2, none⟩ = _ := R.cell 2
        simp only [List.getElem?_toArray, List.getElem?_cons_zero, List.getElem?_cons_succ] at d0 d1 d2
        have R' := Lib.hid R
        clear c0 c1 c2 R
        rcases fine_kind HXF.out with e | e | ⟨e, e0, e1⟩ | e | e
        · obtain rfl : kd = 1 := HK.out.2.1.symm.trans e
          by_cases hm0 : m = 0
          · have hz : ((m : Int) == 0) = true := by simp; omega
            have hz2 : (m == 0) = true := by simp; omega
            have HN2 := Lib.hid (show NSt w W2 (.slice ao us.length co) us (plainK (l.take (k + 1))) from NSt.mk' (chain HS.out.bel HAL.out) (HS.out.own.below HAL.out) (by rw [plain_next HX.out, step_skip (.inr (.inr (.inl ⟨HK.out.2.1, List.length_eq_zero_iff.1 (HK.out.1.trans hm0)⟩)))]; exact HS.out.is) hsm HF.out)
            go_wp2
            go_roundw
            case measure => simp [intOf]; omega
            case rel => exact ⟨k + 1, us, by go_num, by omega, HN2⟩
          · have hz : ((m : Int) == 0) = false := by simp; omega
            have hz2 : (m == 0) = false := by simp; omega
            have hns := Lib.hid (show ¬ skipK x from by unfold skipK; rw [HK.out.2.1]; rintro (h | h | ⟨-, h⟩ | ⟨h, -⟩) <;> first | (revert h; decide) | (exact hm0 (by rw [← HK.out.1, h]; rfl)))
            have KCl := clone_any (.slice ab m cb) x.bytes W2 HBT.out (by have := HXL.out; omega)
            go_upto_region 9 with fail
            go_upto_region 10 with (go_at_call 24; refine KCl.mono ?_; rintro r3 W3 ⟨vc, rfl, hu3, hb3⟩; obtain ⟨ac, cc, hvc⟩ := hu3.shape; have R3 := R'.out.below hb3 R'.out.lt; have f3 := R3.free 2; have f3b : W3.cell? ⟨r2, 2, none⟩ = _ := R3.cell 2; simp only [List.getElem?_toArray, List.getElem?_cons_zero, List.getElem?_cons_succ] at f3b; have PK := Lib.hid (PkS.mk' HS.out.bel HS.out.own HR.out HAL.out (by rw [HZ.out, HR.out]) (by rw [HK.out.2.1, HK.out.2.2]; exact R'.out) hu3 hb3); rw [HK.out.1] at hvc; subst hvc; clear hu3 hb3 R3)
            generalize W3.setCell ⟨r2, 2, none⟩ (.slice ac m cc) = W4 at PK ⊢
            clear d0 d1 d2 f3 f3b
            have d0 : W4.cell? ⟨r2, 0, none⟩ = _ := PK.out.blk.cell 0
            have d1 : W4.cell? ⟨r2, 1, none⟩ = _ := PK.out.blk.cell 1
            have d2 : W4.cell? ⟨r2, 2, none⟩ = _ := PK.out.blk.cell 2
            simp only [List.getElem?_toArray, List.getElem?_cons_zero, List.getElem?_cons_succ, HK.out.2.1, HK.out.2.2] at d0 d1 d2
            rcases last_cases us with rfl | ⟨us0, u, rfl⟩
            · clear hlt2 hlt3
              go_upto_region 11 with fail
              go_quiet (fail)
              have PK5 := Lib.hid (PK.out.below (below_drewN W4 nq))
              generalize W4.drewN nq = W5 at PK5 ⊢
              clear d0 d1 d2
              have d0 : W5.cell? ⟨r2, 0, none⟩ = _ := PK5.out.blk.cell 0
              have d1 : W5.cell? ⟨r2, 1, none⟩ = _ := PK5.out.blk.cell 1
              have d2 : W5.cell? ⟨r2, 2, none⟩ = _ := PK5.out.blk.cell 2
              simp only [List.getElem?_toArray, List.getElem?_cons_zero, List.getElem?_cons_succ, HK.out.2.1, HK.out.2.2] at d0 d1 d2
              obtain ⟨v', W', hrun, hq, hbw⟩ := PK5.out.push (by have := HS.out.len; omega)
              rw [HK.out.2.1, HK.out.2.2] at hrun
              have HN2 := Lib.hid (show NSt w W' v' ([] ++ [(x, _)]) (plainK (l.take (k + 1))) from NSt.mk' hbw hq (by rw [plain_next HX.out, ← HS.out.is]; rw [List.map_nil, step_nil hns.out]; rfl) hsm HF.out)
              clear hq hbw
              go_wp2_with (refine wpList_append_run (by rfl) _ _ _ _ (by rfl) _ _ _ _ (by rfl) (by rfl) hrun ?_)
              go_roundw
              case measure => simp [intOf]; omega
              case rel => exact ⟨k + 1, _, by go_num, by omega, HN2⟩
            · clear hlt2 hlt3
              obtain ⟨cq, -, hq0⟩ := PK.out.own
              obtain ⟨g, cap, hvs, hBg, hgl, hcs, hfz⟩ := hq0.at_
              have hle : (us0 ++ [u]).length = us0.length + 1 := by simp
              have HLE := Lib.hid hle
              simp only [Value.slice.injEq] at hvs
              obtain ⟨rfl, -, rfl⟩ := hvs
              have hlen := HS.out.len
              rw [hle] at PK hlen ⊢
              obtain ⟨au, cu, hush⟩ := hq0.last_shape
              obtain ⟨yk, hyk⟩ : ∃ q, u.1.kind = q := ⟨_, rfl⟩
              obtain ⟨yn, hyn⟩ : ∃ q, u.1.n = q := ⟨_, rfl⟩
              obtain ⟨mu, hmu⟩ : ∃ q, u.1.bytes.length = q := ⟨_, rfl⟩
              rw [hmu] at hush
              have HY := Lib.hid (And.intro hyk (And.intro hyn (And.intro hmu hush)))
              have g0 := hcs 0 _ rfl
              have g1 := hcs 1 _ rfl
              have g2 := hcs 2 _ rfl
              rw [hyk, Nat.add_zero] at g0
              rw [hyn] at g1
              rw [hush] at g2
              have HLN := Lib.hid hlen
              have hge : decide ((0 : Int) ≤ (us0.length : Int)) = true := by simp
              have hL5 : us0.length ≤ 5000 := by omega
              have hwl : IntKind.i64.wrap (us0.length : Int) = (us0.length : Int) := IntWalk.i64_in _ (by omega)
              clear hcs hfz hle hlen hyk hyn hmu hush hq0
              by_cases hyk : yk = 1
              · subst hyk
                go_upto_region 11 with fail
                go_quiet (fail)
                have PK5 := Lib.hid (PK.out.below (below_drewN W4 nq))
                generalize W4.drewN nq = W5 at PK5 ⊢
                clear d0 d1 d2 g0 g1 g2
                have d0 : W5.cell? ⟨r2, 0, none⟩ = _ := PK5.out.blk.cell 0
                have d1 : W5.cell? ⟨r2, 1, none⟩ = _ := PK5.out.blk.cell 1
                have d2 : W5.cell? ⟨r2, 2, none⟩ = _ := PK5.out.blk.cell 2
                simp only [List.getElem?_toArray, List.getElem?_cons_zero, List.getElem?_cons_succ, HK.out.2.1, HK.out.2.2] at d0 d1 d2
                obtain ⟨cq2, -, hq2⟩ := PK5.out.own
                obtain ⟨g', cap', hvs', -, -, hcs2, hfz2⟩ := hq2.at_
                simp only [Value.slice.injEq, Option.some.injEq, Addr.mk.injEq, true_and, and_true] at hvs'
                obtain ⟨rfl, rfl⟩ := hvs'
                have g0 := hcs2 0 _ rfl
                have g1 := hcs2 1 _ rfl
                have g2 := hcs2 2 _ rfl
                rw [HY.out.1, Nat.add_zero] at g0
                rw [HY.out.2.1] at g1
                rw [HY.out.2.2.2] at g2
                have HFZ := Lib.hid hfz2
                clear hcs2 hfz2 hq2
                obtain rfl : nn = 0 := HK.out.2.2.symm.trans ((fine_to HXF.out).2.2.2.2.1 (by rw [HK.out.2.1]; decide))
                obtain rfl : yn = 0 := HY.out.2.1.symm.trans ((fine_to (HS.out.fin u.1 (by rw [← HS.out.is]; simp))).2.2.2.2.1 (by rw [HY.out.1]; decide))
                obtain ⟨v', W', c', hrun, ⟨a', n', cp', rfl⟩, hcs', hfz', hJ⟩ := (PK5.out.below (Below.refl _ W5).drew).join (by have := HXL.out; have h1 := HS.out.sum; rw [← HS.out.is] at h1; have := bsum_mem (l := (us0 ++ [u]).map (·.1)) (x := u.1) (by simp); omega)
                rw [HY.out.2.2.2] at hrun
                have q0 := hcs' 0 _ rfl
                have q1 := hcs' 1 _ rfl
                have q2 := hcs' 2 _ rfl
                have q3 := hfz' (us0.length * 3 + 2)
                rw [HY.out.1, Nat.add_zero] at q0
                rw [HY.out.2.1] at q1
                rw [HY.out.2.2.2] at q2
                have HJ := Lib.hid hJ
                have hi1 : (0 : Int) ≤ (us0.length : Int) := by omega
                have hi2 : (us0.length : Int) < ((us0.length + 1 : Nat) : Int) := by omega
                have hi3 : (us0.length : Int) < (us0.length : Int) + 1 := by omega
                have hi4 : decide ((us0.length : Int) < ((us0.length + 1 : Nat) : Int)) = true := by simp; omega
                clear hcs' hfz' hJ
                go_wp2
                go_region_law (refine step_append_run rfl _ _ _ _ rfl (.slice au mu cu) (.slice ac m cc) (.slice a' n' cp') W' rfl rfl hrun ?_)
                all_goals
                  generalize W'.setCell ⟨g, us0.length * 3 + 2, none⟩ (.slice a' n' cp') = W6 at HJ ⊢
                  have HJ6 := HJ
                  clear HJ
                  obtain ⟨j0, j1, j2, j3, j4, j5, j6, j7, j8⟩ := HJ6.out.cells
                  simp only [HK.out.2.1, HK.out.2.2, HY.out.1, HY.out.2.1] at j0 j1 j2 j5 j6 j7
                  clear g0 g1 g2 d0 d1 d2 q0 q1 q2 q3
                  go_wp2
                  go_region
                  have HJ7 := Lib.hid (HJ6.out.rn 0).drew
                  generalize (W6.setCell ⟨r2, 1, none⟩ (.int .i64 0)).drew = W7 at HJ7 ⊢
                  clear j0 j1 j2 j3 j4 j5 j6 j7 j8
                  obtain ⟨j0, j1, j2, j3, j4, j5, j6, j7, j8⟩ := HJ7.out.cells
                  simp only [HK.out.2.1, HK.out.2.2, HY.out.1, HY.out.2.1] at j0 j1 j2 j5 j6 j7
                  go_upto_region 15 with fail
                  have HJ8 := Lib.hid (HJ7.out.gn 0)
                  rw [show min (0 : Int) 1048576 = 0 from rfl]
                  generalize W7.setCell ⟨g, us0.length * 3 + 1, none⟩ (.int .i64 0) = W8 at HJ8 ⊢
                  clear j0 j1 j2 j3 j4 j5 j6 j7 j8
                  obtain ⟨j0, j1, j2, j3, j4, j5, j6, j7, j8⟩ := HJ8.out.cells
                  simp only [HK.out.2.1, HK.out.2.2, HY.out.1, HY.out.2.1] at j0 j1 j2 j5 j6 j7
                  go_region
                  have HJ9 := Lib.hid (HJ8.out.rn 0).drew
                  generalize (W8.setCell ⟨r2, 1, none⟩ (.int .i64 0)).drew = W9 at HJ9 ⊢
                  clear j0 j1 j2 j3 j4 j5 j6 j7 j8
                  obtain ⟨j0, j1, j2, j3, j4, j5, j6, j7, j8⟩ := HJ9.out.cells
                  simp only [HK.out.2.1, HK.out.2.2, HY.out.1, HY.out.2.1] at j0 j1 j2 j5 j6 j7
                  have HN2 := Lib.hid (show NSt w W9 (.slice (some ⟨g, 0, none⟩) (us0.length + 1) co) (us0 ++ [((⟨u.1.kind, 0, u.1.bytes ++ x.bytes⟩ : PlD), Value.slice a' n' cp')]) (plainK (l.take (k + 1))) from NSt.mk' HJ9.out.bel ⟨c', HJ9.out.cut⟩ (by rw [plain_next HX.out, ← HS.out.is]; exact is_join hns.out (by rw [HK.out.2.1]; decide) (by rw [HY.out.1, HK.out.2.1]) (by rw [HY.out.2.1, HK.out.2.2]; rfl) (by decide)) hsm HF.out)
                  go_wp2
                  go_roundw
                  case measure => simp [intOf]; omega
                  case rel => exact ⟨k + 1, _, by go_num, by omega, HN2⟩
              · have hyk2 : (yk == 1) = false := by simp; omega
                go_upto_region 11 with fail
                go_quiet (fail)
                clear g0 g1 g2
                have PK5 := Lib.hid (PK.out.below (below_drewN W4 nq))
                generalize W4.drewN nq = W5 at PK5 ⊢
                clear d0 d1 d2
                have d0 : W5.cell? ⟨r2, 0, none⟩ = _ := PK5.out.blk.cell 0
                have d1 : W5.cell? ⟨r2, 1, none⟩ = _ := PK5.out.blk.cell 1
                have d2 : W5.cell? ⟨r2, 2, none⟩ = _ := PK5.out.blk.cell 2
                simp only [List.getElem?_toArray, List.getElem?_cons_zero, List.getElem?_cons_succ, HK.out.2.1, HK.out.2.2] at d0 d1 d2
                obtain ⟨v', W', hrun, hq, hbw⟩ := PK5.out.push (by have := HS.out.len; omega)
                rw [HK.out.2.1, HK.out.2.2] at hrun
                have HN2 := Lib.hid (show NSt w W' v' (us0 ++ [u] ++ [(x, _)]) (plainK (l.take (k + 1))) from NSt.mk' hbw hq (by rw [plain_next HX.out, ← HS.out.is]; exact is_new hns.out (.inr (by rw [HY.out.1, HK.out.2.1]; exact hyk))) hsm HF.out)
                clear hq hbw
                go_wp2_with (refine wpList_append_run (by rfl) _ _ _ _ (by rfl) _ _ _ _ (by rfl) (by rfl) hrun ?_)
                go_roundw
                case measure => simp [intOf]; omega
                case rel => exact ⟨k + 1, _, by go_num, by omega, HN2⟩
        · obtain rfl : kd = 2 := HK.out.2.1.symm.trans e
          have hns := Lib.hid (show ¬ skipK x from by unfold skipK; rw [HK.out.2.1]; rintro (h | h | ⟨h, -⟩ | ⟨h, -⟩) <;> (revert h; decide))
          have KCl := clone_any (.slice ab m cb) x.bytes W2 HBT.out (by have := HXL.out; omega)
          go_upto_region 9 with fail
          go_upto_region 10 with (go_at_call 24; refine KCl.mono ?_; rintro r3 W3 ⟨vc, rfl, hu3, hb3⟩; obtain ⟨ac, cc, hvc⟩ := hu3.shape; have R3 := R'.out.below hb3 R'.out.lt; have f3 := R3.free 2; have f3b : W3.cell? ⟨r2, 2, none⟩ = _ := R3.cell 2; simp only [List.getElem?_toArray, List.getElem?_cons_zero, List.getElem?_cons_succ] at f3b; have PK := Lib.hid (PkS.mk' HS.out.bel HS.out.own HR.out HAL.out (by rw [HZ.out, HR.out]) (by rw [HK.out.2.1, HK.out.2.2]; exact R'.out) hu3 hb3); rw [HK.out.1] at hvc; subst hvc; clear hu3 hb3 R3)
          generalize W3.setCell ⟨r2, 2, none⟩ (.slice ac m cc) = W4 at PK ⊢
          clear d0 d1 d2 f3 f3b
          have d0 : W4.cell? ⟨r2, 0, none⟩ = _ := PK.out.blk.cell 0
          have d1 : W4.cell? ⟨r2, 1, none⟩ = _ := PK.out.blk.cell 1
          have d2 : W4.cell? ⟨r2, 2, none⟩ = _ := PK.out.blk.cell 2
          simp only [List.getElem?_toArray, List.getElem?_cons_zero, List.getElem?_cons_succ, HK.out.2.1, HK.out.2.2] at d0 d1 d2
          rcases last_cases us with rfl | ⟨us0, u, rfl⟩
          · clear hlt2 hlt3
            go_upto_region 11 with fail
            go_quiet (fail)
            have PK5 := Lib.hid (PK.out.below (below_drewN W4 nq))
            generalize W4.drewN nq = W5 at PK5 ⊢
            clear d0 d1 d2
            have d0 : W5.cell? ⟨r2, 0, none⟩ = _ := PK5.out.blk.cell 0
            have d1 : W5.cell? ⟨r2, 1, none⟩ = _ := PK5.out.blk.cell 1
            have d2 : W5.cell? ⟨r2, 2, none⟩ = _ := PK5.out.blk.cell 2
            simp only [List.getElem?_toArray, List.getElem?_cons_zero, List.getElem?_cons_succ, HK.out.2.1, HK.out.2.2] at d0 d1 d2
            obtain ⟨v', W', hrun, hq, hbw⟩ := PK5.out.push (by have := HS.out.len; omega)
            rw [HK.out.2.1, HK.out.2.2] at hrun
            have HN2 := Lib.hid (show NSt w W' v' ([] ++ [(x, _)]) (plainK (l.take (k + 1))) from NSt.mk' hbw hq (by rw [plain_next HX.out, ← HS.out.is]; rw [List.map_nil, step_nil hns.out]; rfl) hsm HF.out)
            clear hq hbw
            go_wp2_with (refine wpList_append_run (by rfl) _ _ _ _ (by rfl) _ _ _ _ (by rfl) (by rfl) hrun ?_)
            go_roundw
            case measure => simp [intOf]; omega
            case rel => exact ⟨k + 1, _, by go_num, by omega, HN2⟩
          · clear hlt2 hlt3
            obtain ⟨cq, -, hq0⟩ := PK.out.own
            obtain ⟨g, cap, hvs, hBg, hgl, hcs, hfz⟩ := hq0.at_
            have hle : (us0 ++ [u]).length = us0.length + 1 := by simp
            have HLE := Lib.hid hle
            simp only [Value.slice.injEq] at hvs
            obtain ⟨rfl, -, rfl⟩ := hvs
            have hlen := HS.out.len
            rw [hle] at PK hlen ⊢
            obtain ⟨au, cu, hush⟩ := hq0.last_shape
            obtain ⟨yk, hyk⟩ : ∃ q, u.1.kind = q := ⟨_, rfl⟩
            obtain ⟨yn, hyn⟩ : ∃ q, u.1.n = q := ⟨_, rfl⟩
            obtain ⟨mu, hmu⟩ : ∃ q, u.1.bytes.length = q := ⟨_, rfl⟩
            rw [hmu] at hush
            have HY := Lib.hid (And.intro hyk (And.intro hyn (And.intro hmu hush)))
            have g0 := hcs 0 _ rfl
            have g1 := hcs 1 _ rfl
            have g2 := hcs 2 _ rfl
            rw [hyk, Nat.add_zero] at g0
            rw [hyn] at g1
            rw [hush] at g2
            have HLN := Lib.hid hlen
            have hge : decide ((0 : Int) ≤ (us0.length : Int)) = true := by simp
            have hL5 : us0.length ≤ 5000 := by omega
            have hwl : IntKind.i64.wrap (us0.length : Int) = (us0.length : Int) := IntWalk.i64_in _ (by omega)
            clear hcs hfz hle hlen hyk hyn hmu hush hq0
            go_upto_region 11 with fail
            go_quiet (fail)
            clear g0 g1 g2
            have PK5 := Lib.hid (PK.out.below (below_drewN W4 nq))
            generalize W4.drewN nq = W5 at PK5 ⊢
            clear d0 d1 d2
            have d0 : W5.cell? ⟨r2, 0, none⟩ = _ := PK5.out.blk.cell 0
            have d1 : W5.cell? ⟨r2, 1, none⟩ = _ := PK5.out.blk.cell 1
            have d2 : W5.cell? ⟨r2, 2, none⟩ = _ := PK5.out.blk.cell 2
            simp only [List.getElem?_toArray, List.getElem?_cons_zero, List.getElem?_cons_succ, HK.out.2.1, HK.out.2.2] at d0 d1 d2
            obtain ⟨v', W', hrun, hq, hbw⟩ := PK5.out.push (by have := HS.out.len; omega)
            rw [HK.out.2.1, HK.out.2.2] at hrun
            have HN2 := Lib.hid (show NSt w W' v' (us0 ++ [u] ++ [(x, _)]) (plainK (l.take (k + 1))) from NSt.mk' hbw hq (by rw [plain_next HX.out, ← HS.out.is]; exact is_new hns.out (.inl HK.out.2.1)) hsm HF.out)
            clear hq hbw
            go_wp2_with (refine wpList_append_run (by rfl) _ _ _ _ (by rfl) _ _ _ _ (by rfl) (by rfl) hrun ?_)
            go_roundw
            case measure => simp [intOf]; omega
            case rel => exact ⟨k + 1, _, by go_num, by omega, HN2⟩
        · obtain rfl : kd = 3 := HK.out.2.1.symm.trans e
          rw [HK.out.2.2] at e0 e1
          by_cases hn0 : nn = 0
          · subst hn0
            have HN2 := Lib.hid (show NSt w W2 (.slice ao us.length co) us (plainK (l.take (k + 1))) from NSt.mk' (chain HS.out.bel HAL.out) (HS.out.own.below HAL.out) (by rw [plain_next HX.out, step_skip (.inr (.inr (.inr ⟨HK.out.2.1, HK.out.2.2⟩)))]; exact HS.out.is) hsm HF.out)
            go_wp2
            go_roundw
            case measure => simp [intOf]; omega
            case rel => exact ⟨k + 1, us, by go_num, by omega, HN2⟩
          · have hz : (nn == 0) = false := by simp; omega
            have hns := Lib.hid (show ¬ skipK x from by unfold skipK; rw [HK.out.2.1]; rintro (h | h | ⟨h, -⟩ | ⟨-, h⟩) <;> first | (revert h; decide) | (exact hn0 (by rw [← HK.out.2.2, h])))
            have KCl := clone_any (.slice ab m cb) x.bytes W2 HBT.out (by have := HXL.out; omega)
            go_upto_region 9 with fail
            go_upto_region 10 with (go_at_call 24; refine KCl.mono ?_; rintro r3 W3 ⟨vc, rfl, hu3, hb3⟩; obtain ⟨ac, cc, hvc⟩ := hu3.shape; have R3 := R'.out.below hb3 R'.out.lt; have f3 := R3.free 2; have f3b : W3.cell? ⟨r2, 2, none⟩ = _ := R3.cell 2; simp only [List.getElem?_toArray, List.getElem?_cons_zero, List.getElem?_cons_succ] at f3b; have PK := Lib.hid (PkS.mk' HS.out.bel HS.out.own HR.out HAL.out (by rw [HZ.out, HR.out]) (by rw [HK.out.2.1, HK.out.2.2]; exact R'.out) hu3 hb3); rw [HK.out.1] at hvc; subst hvc; clear hu3 hb3 R3)
            generalize W3.setCell ⟨r2, 2, none⟩ (.slice ac m cc) = W4 at PK ⊢
            clear d0 d1 d2 f3 f3b
            have d0 : W4.cell? ⟨r2, 0, none⟩ = _ := PK.out.blk.cell 0
            have d1 : W4.cell? ⟨r2, 1, none⟩ = _ := PK.out.blk.cell 1
            have d2 : W4.cell? ⟨r2, 2, none⟩ = _ := PK.out.blk.cell 2
            simp only [List.getElem?_toArray, List.getElem?_cons_zero, List.getElem?_cons_succ, HK.out.2.1, HK.out.2.2] at d0 d1 d2
            rcases last_cases us with rfl | ⟨us0, u, rfl⟩
            · clear hlt2 hlt3
              go_upto_region 11 with fail
              go_quiet (fail)
              have PK5 := Lib.hid (PK.out.below (below_drewN W4 nq))
              generalize W4.drewN nq = W5 at PK5 ⊢
              clear d0 d1 d2
              have d0 : W5.cell? ⟨r2, 0, none⟩ = _ := PK5.out.blk.cell 0
              have d1 : W5.cell? ⟨r2, 1, none⟩ = _ := PK5.out.blk.cell 1
              have d2 : W5.cell? ⟨r2, 2, none⟩ = _ := PK5.out.blk.cell 2
              simp only [List.getElem?_toArray, List.getElem?_cons_zero, List.getElem?_cons_succ, HK.out.2.1, HK.out.2.2] at d0 d1 d2
              obtain ⟨v', W', hrun, hq, hbw⟩ := PK5.out.push (by have := HS.out.len; omega)
              rw [HK.out.2.1, HK.out.2.2] at hrun
              have HN2 := Lib.hid (show NSt w W' v' ([] ++ [(x, _)]) (plainK (l.take (k + 1))) from NSt.mk' hbw hq (by rw [plain_next HX.out, ← HS.out.is]; rw [List.map_nil, step_nil hns.out]; rfl) hsm HF.out)
              clear hq hbw
              go_wp2_with (refine wpList_append_run (by rfl) _ _ _ _ (by rfl) _ _ _ _ (by rfl) (by rfl) hrun ?_)
              go_roundw
              case measure => simp [intOf]; omega
              case rel => exact ⟨k + 1, _, by go_num, by omega, HN2⟩
            · clear hlt2 hlt3
              obtain ⟨cq, -, hq0⟩ := PK.out.own
              obtain ⟨g, cap, hvs, hBg, hgl, hcs, hfz⟩ := hq0.at_
              have hle : (us0 ++ [u]).length = us0.length + 1 := by simp
              have HLE := Lib.hid hle
              simp only [Value.slice.injEq] at hvs
              obtain ⟨rfl, -, rfl⟩ := hvs
              have hlen := HS.out.len
              rw [hle] at PK hlen ⊢
              obtain ⟨au, cu, hush⟩ := hq0.last_shape
              obtain ⟨yk, hyk⟩ : ∃ q, u.1.kind = q := ⟨_, rfl⟩
              obtain ⟨yn, hyn⟩ : ∃ q, u.1.n = q := ⟨_, rfl⟩
              obtain ⟨mu, hmu⟩ : ∃ q, u.1.bytes.length = q := ⟨_, rfl⟩
              rw [hmu] at hush
              have HY := Lib.hid (And.intro hyk (And.intro hyn (And.intro hmu hush)))
              have g0 := hcs 0 _ rfl
              have g1 := hcs 1 _ rfl
              have g2 := hcs 2 _ rfl
              rw [hyk, Nat.add_zero] at g0
              rw [hyn] at g1
              rw [hush] at g2
              have HLN := Lib.hid hlen
              have hge : decide ((0 : Int) ≤ (us0.length : Int)) = true := by simp
              have hL5 : us0.length ≤ 5000 := by omega
              have hwl : IntKind.i64.wrap (us0.length : Int) = (us0.length : Int) := IntWalk.i64_in _ (by omega)
              clear hcs hfz hle hlen hyk hyn hmu hush hq0
              by_cases hyk : yk = 3
              · subst hyk
                go_upto_region 11 with fail
                go_quiet (fail)
                have PK5 := Lib.hid (PK.out.below (below_drewN W4 nq))
                generalize W4.drewN nq = W5 at PK5 ⊢
                clear d0 d1 d2 g0 g1 g2
                have d0 : W5.cell? ⟨r2, 0, none⟩ = _ := PK5.out.blk.cell 0
                have d1 : W5.cell? ⟨r2, 1, none⟩ = _ := PK5.out.blk.cell 1
                have d2 : W5.cell? ⟨r2, 2, none⟩ = _ := PK5.out.blk.cell 2
                simp only [List.getElem?_toArray, List.getElem?_cons_zero, List.getElem?_cons_succ, HK.out.2.1, HK.out.2.2] at d0 d1 d2
                obtain ⟨cq2, -, hq2⟩ := PK5.out.own
                obtain ⟨g', cap', hvs', -, -, hcs2, hfz2⟩ := hq2.at_
                simp only [Value.slice.injEq, Option.some.injEq, Addr.mk.injEq, true_and, and_true] at hvs'
                obtain ⟨rfl, rfl⟩ := hvs'
                have g0 := hcs2 0 _ rfl
                have g1 := hcs2 1 _ rfl
                have g2 := hcs2 2 _ rfl
                rw [HY.out.1, Nat.add_zero] at g0
                rw [HY.out.2.1] at g1
                rw [HY.out.2.2.2] at g2
                have HFZ := Lib.hid hfz2
                clear hcs2 hfz2 hq2
                have hxb : x.bytes = [] := (fine_zero HXF.out).2 (by rw [HK.out.2.1]; decide)
                have hyf := fine_to (HS.out.fin u.1 (by rw [← HS.out.is]; simp))
                have hyb : u.1.bytes = [] := (fine_zero (HS.out.fin u.1 (by rw [← HS.out.is]; simp))).2 (by rw [HY.out.1]; decide)
                have hy0 : 0 ≤ yn := by rw [← HY.out.2.1]; exact hyf.2.2.2.2.2.1
                have hy1 : yn ≤ 1048576 := by rw [← HY.out.2.1]; exact hyf.2.2.2.2.2.2
                have hcat : u.1.bytes ++ x.bytes = u.1.bytes := by rw [hxb, List.append_nil]
                have HCAT := Lib.hid (And.intro hcat hxb)
                obtain ⟨hrun, -⟩ := (PK5.out.below (Below.refl _ W5).drew).join0 hxb
                obtain ⟨-, c', hJ0, hJR0⟩ := PK5.out.join0 hxb
                have hJ := hJ0.drew
                have hJR := hJR0.drew
                clear hJ0 hJR0
                rw [HY.out.2.2.2] at hrun hJ hJR
                have HJ := Lib.hid hJ
                have HJR := Lib.hid hJR
                have hi1 : (0 : Int) ≤ (us0.length : Int) := by omega
                have hi2 : (us0.length : Int) < ((us0.length + 1 : Nat) : Int) := by omega
                have hi3 : (us0.length : Int) < (us0.length : Int) + 1 := by omega
                have hi4 : decide ((us0.length : Int) < ((us0.length + 1 : Nat) : Int)) = true := by simp; omega
                obtain ⟨sm, hsm2⟩ : ∃ q, nn + yn = q := ⟨_, rfl⟩
                have hws : IntKind.i64.wrap sm = sm := IntWalk.i64_in _ (by omega)
                have hws2 : wrap64 sm = sm := IntWalk.wrap64_in _ ⟨by omega, by omega⟩
                have f5 := PK5.out.ra
                have q3 : W5.frozen? ⟨g, us0.length * 3 + 2, none⟩ = false := HFZ.out _
                clear hJ hJR hcat hxb hyb hyf f5
                by_cases hov : sm ≤ 1048576
                · have hmin : min sm (1048576 : Int) = sm := by omega
                  have hsub0 : sm - sm = 0 := by omega
                  go_wp2
                  go_region_law (refine step_append_run rfl _ _ _ _ rfl (.slice au mu cu) (.slice ac m cc) (.slice au mu cu) W5.drew rfl rfl hrun ?_)
                  all_goals
                    generalize (W5.setCell ⟨g, us0.length * 3 + 2, none⟩ (.slice au mu cu)).drew = W6 at HJ HJR ⊢
                    have HJ6 := HJ
                    have HR6 := HJR
                    clear HJ HJR
                    obtain ⟨j0, j1, j2, j3, j4, j5, j6, j7, j8⟩ := HJ6.out.cells
                    simp only [HK.out.2.1, HK.out.2.2, HY.out.1, HY.out.2.1] at j0 j1 j2 j5 j6 j7
                    clear g0 g1 g2 d0 d1 d2
                    go_wp2
                    go_region
                    have HJ7 := Lib.hid (HJ6.out.rn sm).drew
                    have HR7 := Lib.hid (HR6.out.rn sm).drew
                    generalize (W6.setCell ⟨r2, 1, none⟩ (.int .i64 sm)).drew = W7 at HJ7 HR7 ⊢
                    clear j0 j1 j2 j3 j4 j5 j6 j7 j8
                    obtain ⟨j0, j1, j2, j3, j4, j5, j6, j7, j8⟩ := HJ7.out.cells
                    simp only [HK.out.2.1, HK.out.2.2, HY.out.1, HY.out.2.1] at j0 j1 j2 j5 j6 j7
                    go_upto_region 15 with fail
                    have HJ8 := Lib.hid (HJ7.out.gn sm)
                    have HR8 := Lib.hid (HR7.out.gn sm)
                    try rw [show min (sm : Int) 1048576 = sm from hmin]
                    generalize W7.setCell ⟨g, us0.length * 3 + 1, none⟩ (.int .i64 sm) = W8 at HJ8 HR8 ⊢
                    clear j0 j1 j2 j3 j4 j5 j6 j7 j8
                    obtain ⟨j0, j1, j2, j3, j4, j5, j6, j7, j8⟩ := HJ8.out.cells
                    simp only [HK.out.2.1, HK.out.2.2, HY.out.1, HY.out.2.1] at j0 j1 j2 j5 j6 j7
                    go_region
                    have HJ9 := Lib.hid (HJ8.out.rn 0).drew
                    have HR9 := Lib.hid (HR8.out.rn 0).drew
                    generalize (W8.setCell ⟨r2, 1, none⟩ (.int .i64 0)).drew = W9 at HJ9 HR9 ⊢
                    clear j0 j1 j2 j3 j4 j5 j6 j7 j8
                    obtain ⟨j0, j1, j2, j3, j4, j5, j6, j7, j8⟩ := HJ9.out.cells
                    simp only [HK.out.2.1, HK.out.2.2, HY.out.1, HY.out.2.1] at j0 j1 j2 j5 j6 j7
                    have HN2 := Lib.hid (show NSt w W9 (.slice (some ⟨g, 0, none⟩) (us0.length + 1) co) (us0 ++ [((⟨u.1.kind, sm, u.1.bytes⟩ : PlD), u.2)]) (plainK (l.take (k + 1))) from NSt.mk' HJ9.out.bel ⟨c', HJ9.out.cut⟩ (by rw [plain_next HX.out, ← HS.out.is]; have := is_join (us0 := us0) (u := u) (v' := u.2) hns.out (by rw [HK.out.2.1]; decide) (by rw [HY.out.1, HK.out.2.1]) (show u.1.n + x.n = sm by rw [HY.out.2.1, HK.out.2.2]; omega) hov; rw [HCAT.out.1] at this; exact this) hsm HF.out)
                    go_wp2
                    go_roundw
                    case measure => simp [intOf]; omega
                    case rel => exact ⟨k + 1, _, by go_num, by omega, HN2⟩
                · have hmin : min sm (1048576 : Int) = 1048576 := by omega
                  obtain ⟨df, hdf⟩ : ∃ q, sm - 1048576 = q := ⟨_, rfl⟩
                  have hwd : IntKind.i64.wrap df = df := IntWalk.i64_in _ (by omega)
                  have hwd2 : wrap64 df = df := IntWalk.wrap64_in _ ⟨by omega, by omega⟩
                  have hdz : (df == 0) = false := by simp; omega
                  go_wp2
                  go_region_law (refine step_append_run rfl _ _ _ _ rfl (.slice au mu cu) (.slice ac m cc) (.slice au mu cu) W5.drew rfl rfl hrun ?_)
                  all_goals
                    generalize (W5.setCell ⟨g, us0.length * 3 + 2, none⟩ (.slice au mu cu)).drew = W6 at HJ HJR ⊢
                    have HJ6 := HJ
                    have HR6 := HJR
                    clear HJ HJR
                    obtain ⟨j0, j1, j2, j3, j4, j5, j6, j7, j8⟩ := HJ6.out.cells
                    simp only [HK.out.2.1, HK.out.2.2, HY.out.1, HY.out.2.1] at j0 j1 j2 j5 j6 j7
                    clear g0 g1 g2 d0 d1 d2
                    go_wp2
                    go_region
                    have HJ7 := Lib.hid (HJ6.out.rn sm).drew
                    have HR7 := Lib.hid (HR6.out.rn sm).drew
                    generalize (W6.setCell ⟨r2, 1, none⟩ (.int .i64 sm)).drew = W7 at HJ7 HR7 ⊢
                    clear j0 j1 j2 j3 j4 j5 j6 j7 j8
                    obtain ⟨j0, j1, j2, j3, j4, j5, j6, j7, j8⟩ := HJ7.out.cells
                    simp only [HK.out.2.1, HK.out.2.2, HY.out.1, HY.out.2.1] at j0 j1 j2 j5 j6 j7
                    go_upto_region 15 with fail
                    have HJ8 := Lib.hid (HJ7.out.gn 1048576)
                    have HR8 := Lib.hid (HR7.out.gn 1048576)
                    try rw [show min (sm : Int) 1048576 = 1048576 from hmin]
                    generalize W7.setCell ⟨g, us0.length * 3 + 1, none⟩ (.int .i64 1048576) = W8 at HJ8 HR8 ⊢
                    clear j0 j1 j2 j3 j4 j5 j6 j7 j8
                    obtain ⟨j0, j1, j2, j3, j4, j5, j6, j7, j8⟩ := HJ8.out.cells
                    simp only [HK.out.2.1, HK.out.2.2, HY.out.1, HY.out.2.1] at j0 j1 j2 j5 j6 j7
                    go_region
                    have HJ9 := Lib.hid (HJ8.out.rn df).drew
                    have HR9 := Lib.hid (HR8.out.rn df).drew
                    generalize (W8.setCell ⟨r2, 1, none⟩ (.int .i64 df)).drew = W9 at HJ9 HR9 ⊢
                    clear j0 j1 j2 j3 j4 j5 j6 j7 j8
                    obtain ⟨j0, j1, j2, j3, j4, j5, j6, j7, j8⟩ := HJ9.out.cells
                    simp only [HK.out.2.1, HK.out.2.2, HY.out.1, HY.out.2.1] at j0 j1 j2 j5 j6 j7
                    obtain ⟨v', W', hrun2, hq, hbw⟩ := HR9.out.push HJ9.out.bel 3 df (by omega)
                    have HN2 := Lib.hid (show NSt w W' v' (us0 ++ [((⟨u.1.kind, 1048576, u.1.bytes⟩ : PlD), u.2)] ++ [((⟨3, df, []⟩ : PlD), _)]) (plainK (l.take (k + 1))) from NSt.mk' hbw hq (by rw [plain_next HX.out, ← HS.out.is]; have := is_over (us0 := us0) (u := u) (v' := u.2) (vc := .slice ac m cc) hns.out (by rw [HK.out.2.1]; decide) (by rw [HY.out.1, HK.out.2.1]) (show u.1.n + x.n = sm by rw [HY.out.2.1, HK.out.2.2]; omega) (Int.not_le.2 hov); rw [HCAT.out.1, HCAT.out.2, HK.out.2.1, hdf] at this; exact this) hsm HF.out)
                    clear hq hbw hrun
                    go_wp2_with (refine wpList_append_run (by rfl) _ _ _ _ (by rfl) _ _ _ _ (by rfl) (by rfl) hrun2 ?_)
                    go_roundw
                    case measure => simp [intOf]; omega
                    case rel => exact ⟨k + 1, _, by go_num, by omega, HN2⟩
              · have hyk2 : (yk == 3) = false := by simp; omega
                go_upto_region 11 with fail
                go_quiet (fail)
                clear g0 g1 g2
                have PK5 := Lib.hid (PK.out.below (below_drewN W4 nq))
                generalize W4.drewN nq = W5 at PK5 ⊢
                clear d0 d1 d2
                have d0 : W5.cell? ⟨r2, 0, none⟩ = _ := PK5.out.blk.cell 0
                have d1 : W5.cell? ⟨r2, 1, none⟩ = _ := PK5.out.blk.cell 1
                have d2 : W5.cell? ⟨r2, 2, none⟩ = _ := PK5.out.blk.cell 2
                simp only [List.getElem?_toArray, List.getElem?_cons_zero, List.getElem?_cons_succ, HK.out.2.1, HK.out.2.2] at d0 d1 d2
                obtain ⟨v', W', hrun, hq, hbw⟩ := PK5.out.push (by have := HS.out.len; omega)
                rw [HK.out.2.1, HK.out.2.2] at hrun
                have HN2 := Lib.hid (show NSt w W' v' (us0 ++ [u] ++ [(x, _)]) (plainK (l.take (k + 1))) from NSt.mk' hbw hq (by rw [plain_next HX.out, ← HS.out.is]; exact is_new hns.out (.inr (by rw [HY.out.1, HK.out.2.1]; exact hyk))) hsm HF.out)
                clear hq hbw
                go_wp2_with (refine wpList_append_run (by rfl) _ _ _ _ (by rfl) _ _ _ _ (by rfl) (by rfl) hrun ?_)
                go_roundw
                case measure => simp [intOf]; omega
                case rel => exact ⟨k + 1, _, by go_num, by omega, HN2⟩
        · obtain rfl : kd = 4 := HK.out.2.1.symm.trans e
          have HN2 := Lib.hid (show NSt w W2 (.slice ao us.length co) us (plainK (l.take (k + 1))) from NSt.mk' (chain HS.out.bel HAL.out) (HS.out.own.below HAL.out) (by rw [plain_next HX.out, step_skip (.inl HK.out.2.1)]; exact HS.out.is) hsm HF.out)
          go_wp2
          go_roundw
          case measure => simp [intOf]; omega
          case rel => exact ⟨k + 1, us, by go_num, by omega, HN2⟩
        · obtain rfl : kd = 5 := HK.out.2.1.symm.trans e
          have HN2 := Lib.hid (show NSt w W2 (.slice ao us.length co) us (plainK (l.take (k + 1))) from NSt.mk' (chain HS.out.bel HAL.out) (HS.out.own.below HAL.out) (by rw [plain_next HX.out, step_skip (.inr (.inl HK.out.2.1))]; exact HS.out.is) hsm HF.out)
          go_wp2
          go_roundw
          case measure => simp [intOf]; omega
          case rel => exact ⟨k + 1, us, by go_num, by omega, HN2⟩
      · have hlt2 : decide ((k : Int) < (N : Int)) = false := by simp; omega
        have hlt3 : decide (k < N) = false := by simp; omega
        obtain rfl : N = k := by omega
        have hal : plainK (l.take N) = plainK l := by rw [← HN.out, List.take_length]
        have hP : Pls wr (.slice ao us.length co) (plainK l) := by have := HS.out.own.pls; rw [HS.out.is, hal] at this; exact this
        have HP := Lib.hid hP
        have HP2 := Lib.hid (show plainK l = if chkK l = 0 then plainK l else [] by rw [if_pos HC.out])
        clear hP hal
        go_wp2
        refine bodyPost_ret (v := .tuple #[.slice ao us.length co, .int .i64 0]) (by simp [results, Tryd.results8, go_sem, Array.mapM_eq_mapM_toList]) rfl ?_
        exact PlainPost.mk HC.out rfl HP2.out (by obtain ⟨cq, hq⟩ := HS.out.own; exact own_room hq.row) HP.out HS.out.bel
  · have e1 : (c != 0) = true := by simp; exact h0
    have HP := Lib.hid (show ([] : List PlD) = if chkK l = 0 then plainK l else [] by rw [if_neg (by rw [hc]; exact h0)])
    have HC := Lib.hid hc
    clear hc
    go_wp2
    refine bodyPost_ret (v := .tuple #[.slice none 0 0, .int .i64 c]) (by simp [results, Tryd.results8, go_sem, Array.mapM_eq_mapM_toList]) rfl ?_
    exact PlainPost.mk HC.out rfl HP.out (Room.of (Nat.le_refl _)) (Pls.emp _) b1
end Go.Proofs.YtbjlnllbcgghlaaDoor
