/- occur.all: every binder's occurrence. -/
import Derived.Test.YtkcgchpflppmnaaOcQ
namespace Go.Proofs.Ytkcgchpflppmnaa
open Go.RowKit
set_option linter.unusedSimpArgs false
set_option linter.unusedVariables false

/-- append, whatever its run is known to be. -/
theorem wpList_append_run {w : World} {ops : Array Oper} {rest : List Oper} {o : Oper} {a : Act} {Q : Exit → Act → World → Prop} (hgd : o.guard = none) (s x : Operand) (t1 t2 : TypeId) (ho : o.op = .call { callee := .builtin .append, args := #[s, x], argTypes := #[t1, t2] })
    (v1 v2 v : Value) (w' : World) (hs : a.eval s = v1) (hx : a.eval x = v2) (hrun : (Builtin.append_ #[t1, t2] o.type #[v1, v2]).run Try.prog w = .ok v w') (h : wpList Try.prog ops Q rest (a.put o.dst v) w') : wpList Try.prog ops Q (o :: rest) a w := by
  refine wpList_plain hgd fun K hK => ?_
  unfold Oper.wp
  simp only [execOp, ho, resolve, invoke, builtin, Sem.run_bind, Sem.run_pure, Result.andThen_ok, List.map_toArray, List.map_cons, List.map_nil, hs, hx, hrun]
  exact hK _ _ h
theorem step_append_run {w : World} {ops : Array Oper} {o : Oper} {a : Act} {K : Act → World → Prop} {Q : Exit → Act → World → Prop} {E : Prop} (hgd : o.guard = none) (s x : Operand) (t1 t2 : TypeId) (ho : o.op = .call { callee := .builtin .append, args := #[s, x], argTypes := #[t1, t2] })
    (v1 v2 v : Value) (w' : World) (hs : a.eval s = v1) (hx : a.eval x = v2) (hrun : (Builtin.append_ #[t1, t2] o.type #[v1, v2]).run Try.prog w = .ok v w') (h : K (a.put o.dst v) w') :
    if Region.wanted o (yielded ops a.tmps) = true then Oper.wp Try.prog o a w K Q else E := by
  have hw : Region.wanted o (yielded ops a.tmps) = true := by simp [Region.wanted, hgd]
  rw [if_pos hw]
  unfold Oper.wp
  simp only [execOp, ho, resolve, invoke, builtin, Sem.run_bind, Sem.run_pure, Result.andThen_ok, List.map_toArray, List.map_cons, List.map_nil, hs, hx, hrun]
  exact h
theorem OOwn.below {W W' : World} {B : Nat} {v : Value} {l : List (ByteArray × Int)} (h : OOwn W B v l) (hb : Below W.heap.size W W') : OOwn W' B v l := ROwn.below h hb
/-- A row put behind an own slice, in the world behind the making of the row. -/
theorem OOwn.one {w : World} {B : Nat} {v : Value} {l : List (ByteArray × Int)} (h : OOwn w B v l) (x : ByteArray) (m : Int) (hl : l.length ≤ 100000000) (hB : B ≤ w.heap.size) :
    ∃ v' W', (Builtin.append_ #[38, 38] 38 #[v, .slice (some ⟨w.heap.size, 0, none⟩) 1 1]).run Try.prog (w.alloc (.cells #[.string x, .int .i64 m] 42)) = .ok v' W' ∧ OOwn W' B v' (l ++ [(x, m)]) ∧ Below B w W' ∧
      (∀ {base : Nat} {t : TypeId} {sz n : Nat} {u : Value} {xs : List Value}, w.ownsRow base t sz u n xs → (∀ g, v.ownBlock = some g → u.ownBlock ≠ some g) → W'.ownsRow base t sz u n xs ∧ (∀ g, v'.ownBlock = some g → u.ownBlock ≠ some g)) := by
  have ha : Below w.heap.size w (w.alloc (.cells #[.string x, .int .i64 m] 42)) := (Below.refl _ w).alloc (Nat.le_refl _) _
  have R := Blk.new w #[.string x, .int .i64 m] 42
  obtain ⟨v', W', k1, k2, k3, k4, k5⟩ := OOwn.push (h.below ha) 38 w.heap.size 1 (x, m) (R.cell 0) (R.cell 1) hl (by simp; omega)
  refine ⟨v', W', k1, k2, (ha.mono hB).trans k4, fun {base t sz n u xs} hu hne => ⟨(hu.alloc _).kept k3 ?_, fun g hg => ?_⟩⟩
  · rcases hv : v.ownBlock with _ | g
    · rcases hu : u.ownBlock with _ | k
      · exact .inl rfl
      · exact .inr (by simp)
    · exact .inr (hne g hv)
  · rcases k5 with k5 | k5
    · exact hne g (k5.symm.trans hg)
    · intro hc
      have := own_lt hu g hc
      rw [k5] at hg
      simp at hg
      omega

theorem OOwn.ne {W W' : World} {B base : Nat} {v : Value} {l : List (ByteArray × Int)} {t : TypeId} {sz n : Nat} {u : Value} {xs : List Value} (h : OOwn W B v l) (hu : W'.ownsRow base t sz u n xs) (hb : W.heap.size ≤ base) : ∀ g, v.ownBlock = some g → u.ownBlock ≠ some g := fun g hg hc => by
  have := own_lt h g hg
  have := own_from hu g hc
  omega
theorem all_eq (d : Nat) (e : ExN (Ex d)) : allK 1 5 (d + 1) e = e.params.flatMap (fun s => [(s, inLetK (ofK 1 5 s d) 1 e s)]) ++ ((e.binds.map (·.1)).flatMap (fun s => [(s, inLetK (ofK 1 5 s d) 1 e s)]) ++ (e.binds.flatMap (fun x => allK 1 5 d x.2) ++ (e.args.flatMap (allK 1 5 d) ++ (e.alts.flatMap (fun x => x.vars.flatMap (fun s => [(s, ofK 1 5 s d x.e)]) ++ allK 1 5 d x.e) ++ [])))) := by
  rw [all_succ]
  simp only [List.flatMap_map, List.append_nil, List.append_assoc, ← List.map_eq_flatMap]

set_option maxRecDepth 100000 in
set_option maxHeartbeats 8000000 in
theorem all_step (d : Nat)
    (hall : ∀ (x : Ex d) (b o : Nat) (W0 W : World) (v : Value) (l : List (ByteArray × Int)), b < W0.heap.size → ExAt W0 d b o x → Below W0.heap.size W0 W → OOwn W W0.heap.size v l → Sm d x → l.length + (allK 1 5 d x).length ≤ 10000000 →
      Calls Try.prog 31 #[.pointer (some ⟨b, o, none⟩), v] W fun r W' => ∃ v', r = .returned v' ∧ OOwn W' W0.heap.size v' (l ++ allK 1 5 d x) ∧ Below W0.heap.size W0 W')
    (e : ExN (Ex d)) (b o : Nat) (w wi : World) (v : Value) (l : List (ByteArray × Int)) (hb : b < w.heap.size) (h : ExAt w (d + 1) b o e) (hw : Below w.heap.size w wi) (hv : OOwn wi w.heap.size v l) (hs : Sm (d + 1) e) (hn : l.length + (allK 1 5 (d + 1) e).length ≤ 10000000) :
    Calls Try.prog 31 #[.pointer (some ⟨b, o, none⟩), v] wi fun r W' => ∃ v', r = .returned v' ∧ OOwn W' w.heap.size v' (l ++ allK 1 5 (d + 1) e) ∧ Below w.heap.size w W' := by
  have KB := Lib.hid (fun s W (hW : Below w.heap.size w W) => body_any d b o e s W (Nat.lt_of_lt_of_le hb hW.size) (ExAt.below hW (d + 1) b o e hb h) hs)
  obtain ⟨T, hT⟩ : ∃ T, l ++ allK 1 5 (d + 1) e = T := ⟨_, rfl⟩
  rw [hT]
  have HTl := Lib.hid (show T.length ≤ 10000000 by rw [← hT, List.length_append]; exact hn)
  rw [all_eq] at hT
  have HT := Lib.hid hT
  obtain ⟨cs, hcs, ps, bs, es, ls, rfl, ⟨q3, r3, rfl, h1⟩, ⟨q4, r4, rfl, h2⟩, ⟨q5, r5, rfl, h3⟩, ⟨q6, r6, rfl, h4⟩⟩ := h
  have KN := Lib.hid (fun W (hW : Below w.heap.size w W) => names_any _ (e.binds.map (·.1)) W ((names_of (d := d) (W := w) (bs := .slice q4 e.binds.length r4) ⟨q4, r4, rfl, h2⟩).below hW) (by rw [List.length_map]; exact hs.2.1.1))
  have hcl := fun j c hj W (hW : Below w.heap.size w W) => (hW.cell (p := ⟨b, o + j, none⟩) hb).trans (hcs j c hj)
  have C3 := Lib.hid (hcl 3 _ rfl)
  have C4 := Lib.hid (hcl 4 _ rfl)
  have C5 := Lib.hid (hcl 5 _ rfl)
  have C6 := Lib.hid (hcl 6 _ rfl)
  obtain ⟨N3, hN3⟩ : ∃ N, e.params.length = N := ⟨_, rfl⟩
  obtain ⟨N4, hN4⟩ : ∃ N, e.binds.length = N := ⟨_, rfl⟩
  obtain ⟨N5, hN5⟩ : ∃ N, e.args.length = N := ⟨_, rfl⟩
  obtain ⟨N6, hN6⟩ : ∃ N, e.alts.length = N := ⟨_, rfl⟩
  have m3 : N3 ≤ 10000000 := hN3 ▸ hs.1
  have m4 : N4 ≤ 10000000 := hN4 ▸ hs.2.1.1
  have m5 : N5 ≤ 10000000 := hN5 ▸ hs.2.2.1.1
  have m6 : N6 ≤ 10000000 := hN6 ▸ hs.2.2.2.1
  rw [hN3] at C3
  rw [hN4] at C4 KN
  rw [hN5] at C5
  rw [hN6] at C6
  have HNL := Lib.hid (show (e.binds.map (·.1)).length = N4 by rw [List.length_map]; exact hN4)
  obtain ⟨nl, hnl⟩ : ∃ nl, e.binds.map (·.1) = nl := ⟨_, rfl⟩
  rw [hnl] at HNL KN HT
  have HN3 := Lib.hid hN3
  have HN4 := Lib.hid hN4
  have HN5 := Lib.hid hN5
  have HN6 := Lib.hid hN6
  have H1 := Lib.hid (show True ∧ _ from ⟨trivial, h1⟩)
  have H2 := Lib.hid (show True ∧ _ from ⟨trivial, h2⟩)
  have H3 := Lib.hid h3
  have H4 := Lib.hid h4
  have HS := Lib.hid hs
  have HAL := Lib.hid hall
  have HV := Lib.hid hv
  have HW := Lib.hid hw
  clear hcs hcl h1 h2 h3 h4 hs hN3 hN4 hN5 hN6 hT hn hall hv hnl
  have c3 := C3.out wi hw
  clear hw
  go_enter Try.func31, Try.ntmps31
  go_upto_region 2 with fail
  clear c3
  go_loopw [1, 6, 19] (fun v _ i wr => ∃ (k : Nat) (cur : List (ByteArray × Int)), i = .int .i64 k ∧ k ≤ N3 ∧ Hid (OOwn wr w.heap.size v cur) ∧ Hid (cur ++ ((e.params.drop k).flatMap (fun s => [(s, inLetK (ofK 1 5 s d) 1 e s)]) ++ (nl.flatMap (fun s => [(s, inLetK (ofK 1 5 s d) 1 e s)]) ++ (e.binds.flatMap (fun x => allK 1 5 d x.2) ++ (e.args.flatMap (allK 1 5 d) ++ (e.alts.flatMap (fun x => x.vars.flatMap (fun s => [(s, ofK 1 5 s d x.e)]) ++ allK 1 5 d x.e) ++ []))))) = T) ∧ Below w.heap.size w wr) (fun _ _ i _ => N3 - (intOf i).toNat)
  case atStart => exact ⟨0, l, rfl, Nat.zero_le _, HV, HT, HW.out⟩
  case round =>
    obtain ⟨k, cur, rfl, hk, HO, HF, hB⟩ := hrel
    by_cases hlt : k < N3
    · have hlt2 : decide ((k : Int) < (N3 : Int)) = true := by simp; omega
      have hlt3 : decide (k < N3) = true := by simp; omega
      have hi0 : (0 : Int) ≤ (k : Int) := by omega
      have hkt : k < e.params.length := by rw [HN3.out]; exact hlt
      obtain ⟨p, o', hq, hp, hat⟩ := H1.out.2 (by omega)
      subst hq
      obtain ⟨x, hx⟩ : ∃ x, e.params[k]? = some x := ⟨_, List.getElem?_eq_getElem hkt⟩
      have c0 := (hB.cell (p := ⟨p, o' + k * 1, none⟩) hp).trans (hat k x hx)
      rw [Nat.mul_one] at c0
      have hsz := hB.size
      have hlen := Nat.le_trans (step_len _ hx HF.out) HTl.out
      have HF2 := Lib.hid (step_next _ hx HF.out)
      have KX := KB.out x wr hB
      simp only [List.length_singleton] at hlen
      generalize inLetK (ofK 1 5 x d) 1 e x = m at KX HF2
      have HB := Lib.hid hB
      clear hat hx HF
      go_wp2_with (first | (go_at_call 49; refine KX.mono ?_; rintro r1 w1 ⟨rfl, b1⟩; have s1 := b1.size; have B1 := Lib.hid (chain HB.out b1); obtain ⟨v2, W2, hrun, o2, k2, -⟩ := (HO.out.below b1).one x m (by omega) (by omega); have O2 := Lib.hid o2; have K2 := Lib.hid (B1.out.trans k2); clear o2 k2) | (at_builtin; refine wpList_append_run rfl _ _ _ _ rfl _ _ _ _ rfl rfl hrun ?_))
      go_roundw
      case measure => simp [intOf]; omega
      case rel => exact ⟨k + 1, cur ++ [(x, m)], by go_num, by omega, O2, HF2, K2.out⟩
    · have hlt2 : decide ((k : Int) < (N3 : Int)) = false := by simp; omega
      have hlt3 : decide (k < N3) = false := by simp; omega
      obtain rfl : N3 = k := by omega
      have HF1 := Lib.hid (step_end _ HN3.out HF.out)
      have c4 := C4.out _ hB
      clear HF hlt hlt2 hlt3 hk
      go_upto_region 7 with (go_at_call 50; refine (KN.out _ hB).mono ?_; rintro r1 w1 ⟨vn, rfl, on, bn⟩; obtain ⟨an, pn, rfl⟩ := own_shape on; rw [HNL.out] at on ⊢)
      have B1 := chain hB bn
      have O1 := Lib.hid (HO.out.below bn)
      have hne0 := HO.out.ne on (Nat.le_refl _)
      have HNE := Lib.hid hne0
      have ON := Lib.hid on
      clear on bn hne0 HO hB c4
      go_loopw [1, 8, 38] (fun v _ i wr => ∃ (k : Nat) (cur : List (ByteArray × Int)), i = .int .i64 k ∧ k ≤ N4 ∧ Hid (OOwn wr w.heap.size v cur) ∧ Hid (cur ++ ((nl.drop k).flatMap (fun s => [(s, inLetK (ofK 1 5 s d) 1 e s)]) ++ (e.binds.flatMap (fun x => allK 1 5 d x.2) ++ (e.args.flatMap (allK 1 5 d) ++ (e.alts.flatMap (fun x => x.vars.flatMap (fun s => [(s, ofK 1 5 s d x.e)]) ++ allK 1 5 d x.e) ++ [])))) = T) ∧ Below w.heap.size w wr ∧ Hid (∃ B, SOwn wr B (.slice an N4 pn) nl) ∧ Hid (∀ g, v.ownBlock = some g → (Value.slice an N4 pn).ownBlock ≠ some g)) (fun _ _ i _ => N4 - (intOf i).toNat)
      case atStart => exact ⟨0, _, rfl, Nat.zero_le _, O1, HF1, B1, Lib.hid ⟨_, ON.out⟩, HNE⟩
      case round =>
        clear B1 O1 HF1 HNE ON
        obtain ⟨k, cur, rfl, hk, HO, HF, hB, HSO, HNE⟩ := hrel
        by_cases hlt : k < N4
        · have hlt2 : decide ((k : Int) < (N4 : Int)) = true := by simp; omega
          have hlt3 : decide (k < N4) = true := by simp; omega
          have hi0 : (0 : Int) ≤ (k : Int) := by omega
          have hkt : k < nl.length := by rw [HNL.out]; exact hlt
          obtain ⟨Bn, hso⟩ := HSO.out
          obtain ⟨aq, cq, hqq, hqc⟩ := hso.txs
          obtain ⟨p, o', hq, hp, hat⟩ := hqc (by omega)
          subst hq
          obtain ⟨rfl, -⟩ : an = some ⟨p, o', none⟩ ∧ True := by simp at hqq; exact ⟨hqq.1, trivial⟩
          obtain ⟨x, hx⟩ : ∃ x, nl[k]? = some x := ⟨_, List.getElem?_eq_getElem hkt⟩
          have c0 := hat k x hx
          rw [Nat.mul_one] at c0
          have hsz := hB.size
          have hlen := Nat.le_trans (step_len _ hx HF.out) HTl.out
          have HF2 := Lib.hid (step_next _ hx HF.out)
          have KX := KB.out x wr hB
          simp only [List.length_singleton] at hlen
          generalize inLetK (ofK 1 5 x d) 1 e x = m at KX HF2
          have HB := Lib.hid hB
          have HSW := Lib.hid hso
          clear hat hx HF hqc hqq hso
          go_wp2_with (first | (go_at_call 49; refine KX.mono ?_; rintro r1 w1 ⟨rfl, b1⟩; have s1 := b1.size; have B1 := Lib.hid (chain HB.out b1); obtain ⟨v2, W2, hrun, o2, k2, n2⟩ := (HO.out.below b1).one x m (by omega) (by omega); have O2 := Lib.hid o2; have K2 := Lib.hid (B1.out.trans k2); have N2 := Lib.hid (n2 (own_on HSW.out b1 (own_lt HSW.out)) HNE.out); clear o2 k2 n2) | (at_builtin; refine wpList_append_run rfl _ _ _ _ rfl _ _ _ _ rfl rfl hrun ?_))
          go_roundw
          case measure => simp [intOf]; omega
          case rel => exact ⟨k + 1, cur ++ [(x, m)], by go_num, by omega, O2, HF2, K2.out, Lib.hid ⟨_, N2.out.1⟩, Lib.hid N2.out.2⟩
        · have hlt2 : decide ((k : Int) < (N4 : Int)) = false := by simp; omega
          have hlt3 : decide (k < N4) = false := by simp; omega
          obtain rfl : N4 = k := by omega
          have HF1 := Lib.hid (step_end _ HNL.out HF.out)
          have c4 := C4.out _ hB
          clear HF hlt hlt2 hlt3 hk HSO HNE
          go_upto_region 12 with fail
          clear c4
          go_loopw [1, 9, 56] (fun v _ i wr => ∃ (k : Nat) (cur : List (ByteArray × Int)), i = .int .i64 k ∧ k ≤ N4 ∧ Hid (OOwn wr w.heap.size v cur) ∧ Hid (cur ++ ((e.binds.drop k).flatMap (fun x => allK 1 5 d x.2) ++ (e.args.flatMap (allK 1 5 d) ++ (e.alts.flatMap (fun x => x.vars.flatMap (fun s => [(s, ofK 1 5 s d x.e)]) ++ allK 1 5 d x.e) ++ []))) = T) ∧ Below w.heap.size w wr) (fun _ _ i _ => N4 - (intOf i).toNat)
          case atStart => exact ⟨0, _, rfl, Nat.zero_le _, HO, HF1, hB⟩
          case round =>
            clear HO HF1 hB
            obtain ⟨k, cur, rfl, hk, HO, HF, hB⟩ := hrel
            have c4 := C4.out _ hB
            by_cases hlt : k < N4
            · have hlt2 : decide ((k : Int) < (N4 : Int)) = true := by simp; omega
              have hlt3 : decide (k < N4) = true := by simp; omega
              have hi0 : (0 : Int) ≤ (k : Int) := by omega
              have hkt : k < e.binds.length := by rw [HN4.out]; exact hlt
              obtain ⟨p, o', hq, hp, hat⟩ := H2.out.2 (by omega)
              subst hq
              obtain ⟨x, hx⟩ : ∃ x, e.binds[k]? = some x := ⟨_, List.getElem?_eq_getElem hkt⟩
              have hsz := hB.size
              have KA := Lib.hid (HAL.out x.2 p (o' + k * 8 + 1) w wr _ cur hp (hat k x hx).2 hB HO.out (HS.out.2.1.2 x (List.mem_of_getElem? hx)) (Nat.le_trans (step_len _ hx HF.out) HTl.out))
              have HF2 := Lib.hid (step_next _ hx HF.out)
              have HB := Lib.hid hB
              clear hat hx HF
              go_wp2_with (go_at_call 31; refine KA.out.mono ?_; rintro r1 w1 ⟨v2, rfl, o2, k2⟩; have O2 := Lib.hid o2; have K2 := Lib.hid k2; clear o2 k2)
              go_roundw
              case measure => simp [intOf]; omega
              case rel => exact ⟨k + 1, _, by go_num, by omega, O2, HF2, K2.out⟩
            · have hlt2 : decide ((k : Int) < (N4 : Int)) = false := by simp; omega
              have hlt3 : decide (k < N4) = false := by simp; omega
              obtain rfl : N4 = k := by omega
              have HF1 := Lib.hid (step_end _ HN4.out HF.out)
              have c5 := C5.out _ hB
              clear HF hlt hlt2 hlt3 hk c4
              go_upto_region 17 with fail
              clear c5
              go_loopw [1, 10, 74] (fun v _ i wr => ∃ (k : Nat) (cur : List (ByteArray × Int)), i = .int .i64 k ∧ k ≤ N5 ∧ Hid (OOwn wr w.heap.size v cur) ∧ Hid (cur ++ ((e.args.drop k).flatMap (allK 1 5 d) ++ (e.alts.flatMap (fun x => x.vars.flatMap (fun s => [(s, ofK 1 5 s d x.e)]) ++ allK 1 5 d x.e) ++ [])) = T) ∧ Below w.heap.size w wr) (fun _ _ i _ => N5 - (intOf i).toNat)
              case atStart => exact ⟨0, _, rfl, Nat.zero_le _, HO, HF1, hB⟩
              case round =>
                clear HO HF1 hB
                obtain ⟨k, cur, rfl, hk, HO, HF, hB⟩ := hrel
                have c5 := C5.out _ hB
                by_cases hlt : k < N5
                · have hlt2 : decide ((k : Int) < (N5 : Int)) = true := by simp; omega
                  have hlt3 : decide (k < N5) = true := by simp; omega
                  have hi0 : (0 : Int) ≤ (k : Int) := by omega
                  have hkt : k < e.args.length := by rw [HN5.out]; exact hlt
                  obtain ⟨p, o', hq, hp, hat⟩ := H3.out (by omega)
                  subst hq
                  obtain ⟨x, hx⟩ : ∃ x, e.args[k]? = some x := ⟨_, List.getElem?_eq_getElem hkt⟩
                  have hsz := hB.size
                  have KA := Lib.hid (HAL.out x p (o' + k * 7) w wr _ cur hp (hat k x hx) hB HO.out (HS.out.2.2.1.2 x (List.mem_of_getElem? hx)) (Nat.le_trans (step_len _ hx HF.out) HTl.out))
                  have HF2 := Lib.hid (step_next _ hx HF.out)
                  have HB := Lib.hid hB
                  clear hat hx HF
                  go_wp2_with (go_at_call 31; refine KA.out.mono ?_; rintro r1 w1 ⟨v2, rfl, o2, k2⟩; have O2 := Lib.hid o2; have K2 := Lib.hid k2; clear o2 k2)
                  go_roundw
                  case measure => simp [intOf]; omega
                  case rel => exact ⟨k + 1, _, by go_num, by omega, O2, HF2, K2.out⟩
                · have hlt2 : decide ((k : Int) < (N5 : Int)) = false := by simp; omega
                  have hlt3 : decide (k < N5) = false := by simp; omega
                  obtain rfl : N5 = k := by omega
                  have HF1 := Lib.hid (step_end _ HN5.out HF.out)
                  have c6 := C6.out _ hB
                  clear HF hlt hlt2 hlt3 hk c5
                  go_upto_region 22 with fail
                  clear c6
                  go_loopw [1, 11, 13, 91, 103] (fun v _ _ i _ wr => ∃ (k : Nat) (cur : List (ByteArray × Int)), i = .int .i64 k ∧ k ≤ N6 ∧ Hid (OOwn wr w.heap.size v cur) ∧ Hid (cur ++ ((e.alts.drop k).flatMap (fun x => x.vars.flatMap (fun s => [(s, ofK 1 5 s d x.e)]) ++ allK 1 5 d x.e) ++ []) = T) ∧ Below w.heap.size w wr) (fun _ _ _ i _ _ => N6 - (intOf i).toNat)
                  case atStart => exact ⟨0, _, rfl, Nat.zero_le _, HO, HF1, hB⟩
                  case round =>
                    clear HO HF1 hB
                    obtain ⟨k, cur, rfl, hk, HO, HF, hB⟩ := hrel
                    have c6 := C6.out _ hB
                    by_cases hlt : k < N6
                    · have hlt2 : decide ((k : Int) < (N6 : Int)) = true := by simp; omega
                      have hlt3 : decide (k < N6) = true := by simp; omega
                      have hi0 : (0 : Int) ≤ (k : Int) := by omega
                      have hkt : k < e.alts.length := by rw [HN6.out]; exact hlt
                      obtain ⟨p, o', hq, hp, hat⟩ := H4.out (by omega)
                      subst hq
                      obtain ⟨x, hx⟩ : ∃ x, e.alts[k]? = some x := ⟨_, List.getElem?_eq_getElem hkt⟩
                      obtain ⟨vs, hcs, ⟨aw, cw, rfl, htx⟩, hex⟩ := hat k x hx
                      have hsm := HS.out.2.2.2.2 x (List.mem_of_getElem? hx)
                      have a3 := (hB.cell (p := ⟨p, o' + k * 11 + 3, none⟩) hp).trans (hcs 3 _ rfl)
                      have KO := Lib.hid (fun s W (hW : Below w.heap.size w W) => of_any s d x.e p (o' + k * 11 + 4) W (by have := hW.size; omega) (ExAt.below hW d p _ x.e hp hex) hsm.2)
                      have hFx := step_in _ hx HF.out
                      rw [List.append_assoc] at hFx
                      generalize hRR : (e.alts.drop (k + 1)).flatMap (fun x => x.vars.flatMap (fun s => [(s, ofK 1 5 s d x.e)]) ++ allK 1 5 d x.e) ++ [] = RR at hFx
                      have HRR := Lib.hid hRR
                      obtain ⟨M, hM⟩ : ∃ M, x.vars.length = M := ⟨_, rfl⟩
                      have hM7 : M ≤ 10000000 := hM ▸ hsm.1
                      have HM := Lib.hid hM
                      have HX := Lib.hid hex
                      have HTX := Lib.hid htx
                      have HSM := Lib.hid hsm.2
                      have HFx := Lib.hid hFx
                      rw [hM] at a3
                      clear hat hx hcs htx hex hsm HF hFx hM hRR
                      have hsz := hB.size
                      go_upto_region 25 with fail
                      clear a3 c6
                      go_loopw [1, 13, 103] (fun v _ i wr => ∃ (k : Nat) (cur : List (ByteArray × Int)), i = .int .i64 k ∧ k ≤ M ∧ Hid (OOwn wr w.heap.size v cur) ∧ Hid (cur ++ ((x.vars.drop k).flatMap (fun s => [(s, ofK 1 5 s d x.e)]) ++ (allK 1 5 d x.e ++ RR)) = T) ∧ Below w.heap.size w wr) (fun _ _ i _ => M - (intOf i).toNat)
                      case atStart => exact ⟨0, _, rfl, Nat.zero_le _, HO, HFx, hB⟩
                      case round =>
                        clear HO HFx hB hsz
                        obtain ⟨j, cur, rfl, hj, HO, HF, hB⟩ := hrel
                        have c6 := C6.out _ hB
                        have hsz := hB.size
                        by_cases hlt' : j < M
                        · have hlt2 : decide ((j : Int) < (M : Int)) = true := by simp; omega
                          have hlt3 : decide (j < M) = true := by simp; omega
                          have hi0 : (0 : Int) ≤ (j : Int) := by omega
                          have hjt : j < x.vars.length := by rw [HM.out]; exact hlt'
                          obtain ⟨p', o2, hq, hp', hat⟩ := HTX.out (by omega)
                          subst hq
                          obtain ⟨y, hy⟩ : ∃ y, x.vars[j]? = some y := ⟨_, List.getElem?_eq_getElem hjt⟩
                          have c0 := (hB.cell (p := ⟨p', o2 + j * 1, none⟩) hp').trans (hat j y hy)
                          rw [Nat.mul_one] at c0
                          have hlen := Nat.le_trans (step_len _ hy HF.out) HTl.out
                          have HF2 := Lib.hid (step_next _ hy HF.out)
                          have KX := KO.out y wr hB
                          simp only [List.length_singleton] at hlen
                          generalize ofK 1 5 y d x.e = m at KX HF2
                          have HB := Lib.hid hB
                          clear hat hy HF
                          go_wp2_with (first | (go_at_call 26; refine KX.mono ?_; rintro r1 w1 ⟨rfl, b1⟩; have s1 := b1.size; have B1 := Lib.hid (chain HB.out b1); obtain ⟨v2, W2, hrun, o2', k2, -⟩ := (HO.out.below b1).one y m (by omega) (by omega); have O2 := Lib.hid o2'; have K2 := Lib.hid (B1.out.trans k2); clear o2' k2) | (at_builtin; refine wpList_append_run rfl _ _ _ _ rfl _ _ _ _ rfl rfl hrun ?_))
                          go_roundw
                          case measure => simp [intOf]; omega
                          case rel => exact ⟨j + 1, cur ++ [(y, m)], by go_num, by omega, O2, HF2, K2.out⟩
                        · have hlt2 : decide ((j : Int) < (M : Int)) = false := by simp; omega
                          have hlt3 : decide (j < M) = false := by simp; omega
                          obtain rfl : M = j := by omega
                          have HF1 := Lib.hid (step_end _ HM.out HF.out)
                          have KA := Lib.hid (HAL.out x.e p (o' + k * 11 + 4) w wr _ cur hp HX.out hB HO.out HSM.out (Nat.le_trans (by rw [← HF1.out]; simp only [List.length_append]; omega) HTl.out))
                          have HF2 := Lib.hid (show (cur ++ allK 1 5 d x.e) ++ RR = T by rw [List.append_assoc]; exact HF1.out)
                          have HB := Lib.hid hB
                          clear HF HF1
                          go_wp2_with (go_at_call 31; refine KA.out.mono ?_; rintro r1 w1 ⟨v2, rfl, o2, k2⟩; have O2 := Lib.hid o2; have K2 := Lib.hid k2; clear o2 k2)
                          go_roundw
                          case measure => simp [intOf]; omega
                          case rel => exact ⟨k + 1, _, by go_num, by omega, O2, Lib.hid (by rw [HRR.out]; exact HF2.out), K2.out⟩
                    · have hlt2 : decide ((k : Int) < (N6 : Int)) = false := by simp; omega
                      have hlt3 : decide (k < N6) = false := by simp; omega
                      obtain rfl : N6 = k := by omega
                      have HF1 := Lib.hid (step_end _ HN6.out HF.out)
                      clear HF hlt2 hlt3
                      go_wp2
                      go_ret
                      exact ⟨_, rfl, by have := HF1.out; rw [List.append_nil] at this; rw [← this]; exact HO.out, hB⟩
theorem all_any : ∀ (d : Nat) (x : Ex d) (b o : Nat) (W0 W : World) (v : Value) (l : List (ByteArray × Int)), b < W0.heap.size → ExAt W0 d b o x → Below W0.heap.size W0 W → OOwn W W0.heap.size v l → Sm d x → l.length + (allK 1 5 d x).length ≤ 10000000 →
      Calls Try.prog 31 #[.pointer (some ⟨b, o, none⟩), v] W fun r W' => ∃ v', r = .returned v' ∧ OOwn W' W0.heap.size v' (l ++ allK 1 5 d x) ∧ Below W0.heap.size W0 W'
  | 0, x, _, _, _, _, _, _, _, _, _, _, _, _ => nomatch (x : Empty)
  | d + 1, x, b, o, W0, W, v, l, hb, h, hw, hv, hs, hn => all_step d (all_any d) x b o W0 W v l hb h hw hv hs hn
end Go.Proofs.Ytkcgchpflppmnaa
