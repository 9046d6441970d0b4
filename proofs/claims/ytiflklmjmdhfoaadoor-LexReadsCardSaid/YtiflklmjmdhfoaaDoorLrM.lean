/- The document's lexer: all the tokens. The walk of LexReads. -/
import Derived.Test.YtiflklmjmdhfoaaDoorLrK
import Derived.BigRegion
import Derived.Deep.Cut
import Derived.Test.YtiflklmjmdhfoaaDoorLcA
namespace Go.Proofs.YtiflklmjmdhfoaaDoor
open Go.RowKit Go.Shelf
set_option linter.unusedSimpArgs false
set_option linter.unusedVariables false

structure RI (W : World) (fb base : Nat) (v : Value) (ts : List Tp) : Prop where
  blkF : Blk W fb #[.int .i64 0, .int .i64 0]
  own : TOwn W base v ts
  lf : fb < base
  lb : base ≤ W.heap.size
theorem RI.below {W W' : World} {fb base : Nat} {v : Value} {ts : List Tp} (h : RI W fb base v ts) (hb : Below W.heap.size W W') : RI W' fb base v ts :=
  ⟨h.blkF.below hb h.blkF.lt, own_on h.own hb (own_lt h.own), h.lf, Nat.le_trans h.lb hb.size⟩
theorem RI.alloc {W : World} {fb base : Nat} {v : Value} {ts : List Tp} (h : RI W fb base v ts) (o : Obj) : RI (W.alloc o) fb base v ts :=
  h.below ((Below.refl _ _).alloc (Nat.le_refl _) _)
theorem RI.other {W W' : World} {fb base tb : Nat} {v : Value} {ts : List Tp} (h : RI W fb base v ts) (ho : Only tb W W') (h1 : fb ≠ tb) (h3 : v.ownBlock ≠ some tb) : RI W' fb base v ts :=
  ⟨ho.blk h.blkF h1, ho.own h.own h3, h.lf, by rw [ho.size]; exact h.lb⟩
theorem RI.append {W W6 : World} {fb base : Nat} {v v6 : Value} {ts : List Tp} (h : RI W fb base v ts) (o : Obj) (hg : (W.alloc o).grownBy W6 v.ownBlock) (x : Tp)
    (h6 : W6.ownsRow base 30 7 v6 (ts.length + 1) (tflat ts ++ tpC x)) : RI W6 fb base v6 (ts ++ [x]) := by
  have hsz := hg.size
  have l0 := h.lf
  have l2 := h.lb
  simp at hsz
  have hf := h.blkF.lt
  refine ⟨(h.blkF.alloc o).of_same (hg.block fb (by simp; omega) (fun e => by have := own_from h.own fb e.symm; omega)) (by simpa using hsz), ?_, l0, by omega⟩
  show W6.ownsRow _ _ _ _ _ _
  rw [List.length_append, tflat_app]
  simpa [tflat] using h6
theorem over_next (q : Nat × Nat) (l : List UInt8) (k : Nat) (c : UInt8) (h : l[k]? = some c) : overL q (l.take (k + 1)) = overB (overL q (l.take k)) c := by
  unfold overL
  rw [List.take_add_one, h, List.foldl_append]
  rfl
theorem passed_known (s : ByteArray) (hs : s.size ≤ 100000) (at_ : Nat) (ha : at_ < s.size) (m : Int) (h : passedK (s.data.toList.drop at_) = m) (w : World) :
    Calls Tryd.prog 34 #[.string s, .int .i64 at_] w fun e w' => e = .returned (.int .i64 m) ∧ Below w.heap.size w w' := by
  rw [← h]; exact rpassed_any s hs at_ ha w
theorem rlex_known (s : ByteArray) (hs : s.size ≤ 100000) (at_ : Nat) (ha : at_ < s.size) (v : Value) (h : fdR (oneK (s.data.toList.drop at_)) = v) (w : World) :
    Calls Tryd.prog 35 #[.string s, .int .i64 at_] w fun e w' => e = .returned v ∧ Below w.heap.size w w' := by
  rw [← h]; exact rlex_any s hs at_ ha w

set_option maxRecDepth 100000 in
set_option maxHeartbeats 40000000 in
theorem RAll_good (s : ByteArray) (hc : checkF s.data.toList = (0, 0)) (w : World) :
    Calls Tryd.prog 14 #[.string s] w fun e w' => ∃ v, e = .returned (.tuple #[v, faultV (allF s.data.toList).1]) ∧ TOwn w' w.heap.size v (allF s.data.toList).2 ∧ Below w.heap.size w w' := by
  have hs : s.size ≤ 65536 := checkF_len _ hc
  have hsl : s.data.toList.length = s.size := rfl
  have K := Lib.hid (fun w => rcheck_any s (by omega) w)
  have hF : allF s.data.toList = (match allK s.data.toList with | .ok ts => ((0, 0), ts) | .error i => ((4, (i : Int)), [])) := by unfold allF; rw [if_pos hc]; cases allK s.data.toList <;> rfl
  have HF := Lib.hid hF
  rw [hc, show faultV (0, 0) = .agg #[.int .i64 0, .int .i64 0] from rfl] at K
  obtain ⟨i0, hinf, hz0, hz1, hz2⟩ := info_parts infoT
  clear hc hF
  have B0 := Blk.new w #[.int .i64 0, .int .i64 0] 26
  go_enter Tryd.func14, Tryd.ntmps14
  go_wp2_with (go_at_call 33; refine (K.out _).mono ?_; rintro e w1 ⟨rfl, b1⟩; have B1 := B0.below b1 (by simp); have l1 := B1.lt)
  have l2 : Below w.heap.size w (w1.alloc (.cells #[.int .i64 0, .int .i64 0] 26)) := (chain ((Below.refl _ w).alloc (Nat.le_refl _) _) b1).alloc (Nat.le_of_lt l1) _
  have BF := B1.alloc (.cells #[.int .i64 0, .int .i64 0] 26)
  have A0 : RI (w1.alloc (.cells #[.int .i64 0, .int .i64 0] 26)) w.heap.size (w1.heap.size + 1) (.slice none 0 0) [] :=
    ⟨BF, World.ownsRow_nil _ _ _ _, by omega, by simp⟩
  generalize w1.alloc (.cells #[.int .i64 0, .int .i64 0] 26) = W0 at A0 l2 ⊢
  have hle : w.heap.size ≤ w1.heap.size := Nat.le_of_lt l1
  obtain ⟨fb, hfbe⟩ : ∃ fb, fb = w.heap.size := ⟨_, rfl⟩
  rw [← hfbe] at A0
  have hbs : w.heap.size ≤ w1.heap.size + 1 := by omega
  generalize w1.heap.size + 1 = base at A0 hbs ⊢
  clear BF B1 B0 b1 l1 hle K
  rw [← hfbe]
  have Hfb := Lib.hid hfbe
  clear hfbe
  go_loopw [5, 6, 7, 8, 9] (fun v la ln cl a wr => ∃ (i last f : Nat) (q : Nat × Nat) (ts : List Tp), la = .int .i64 last ∧ ln = .int .i64 q.1 ∧ cl = .int .i64 q.2 ∧ a = .int .i64 i ∧ i ≤ s.size ∧ ts.length ≤ i ∧ s.size ≤ f + i ∧ 1 ≤ q.1 ∧ 1 ≤ q.2 ∧ q.1 ≤ 1 + i ∧ q.2 ≤ 1 + 8 * i ∧ last ≤ 1 + i ∧ RI wr fb base v ts ∧ Below w.heap.size w wr ∧ Hid (allK s.data.toList = allGo f (s.data.toList.drop i) i q last ts))
    (fun _ _ _ _ a _ => s.size - (intOf a).toNat)
  case atStart => exact ⟨0, 0, s.data.toList.length, (1, 1), [], rfl, rfl, rfl, rfl, Nat.zero_le _, by simp, by omega, by simp, by simp, by simp, by simp, by simp, A0, l2, Lib.hid rfl⟩
  case round =>
    obtain ⟨i, last, f, q, ts, rfl, rfl, rfl, rfl, hi, hts, hf, q1, q2, q3, q4, q5, hA, hB, Hk⟩ := hrel
    clear A0 l2
    by_cases hlt : i < s.size
    · have hlt2 : decide ((i : Int) < s.size) = true := by simp; omega
      have hlt3 : decide (i < s.size) = true := by simp; omega
      obtain ⟨g, rfl⟩ : ∃ g, f = g + 1 := ⟨f - 1, by omega⟩
      have hLl : (s.data.toList.drop i).length = s.size - i := by rw [List.length_drop, hsl]
      obtain ⟨L, hL⟩ : ∃ L, s.data.toList.drop i = L := ⟨_, rfl⟩
      obtain ⟨m, hm⟩ : ∃ m, passedK L = m := ⟨_, rfl⟩
      have Hp := Lib.hid (fun w => passed_known s (by omega) i hlt m (by rw [hL]; exact hm) w)
      have Hk := Hk.out
      rw [hL] at hLl Hk
      have hne : L ≠ [] := by intro e; rw [e] at hLl; simp at hLl; omega
      have HL := Lib.hid hL
      by_cases hm1 : 0 < m
      · obtain ⟨k, rfl⟩ := Int.eq_ofNat_of_zero_le (Int.le_of_lt hm1)
        obtain ⟨hkr, Ht⟩ := ref_pass L k hm (by omega) g i q last ts (by omega)
        rw [Ht, ← hL, List.drop_drop] at Hk
        rw [hL] at Hk
        have Hn2 := Hk
        have d2 : ((k : Int) == 0) = false := by rw [beq_eq_false_iff_ne]; omega
        have d3 : decide ((k : Int) < 0) = false := decide_eq_false (by omega)
        have hin : i + k ≤ s.size := by omega
        have hk1 : 1 ≤ k := by omega
        clear Ht Hk hm hL hne hm1 hkr
        go_wp2_with (go_at_call 34; refine (Hp.out _).mono ?_; rintro e w1 ⟨rfl, b1⟩; have hA1 := (hA.below b1).alloc tokO)
        have hB1 := (chain hB b1).alloc (chain hB b1).size tokO
        go_loop [7, 8, 12] (fun ln cl j => ∃ k2 : Nat, j = .int .i64 k2 ∧ k2 ≤ k ∧ ln = .int .i64 (overL q (L.take k2)).1 ∧ cl = .int .i64 (overL q (L.take k2)).2) (fun _ _ j => k - (intOf j).toNat)
        case atStart => exact ⟨0, rfl, Nat.zero_le _, rfl, rfl⟩
        case round =>
          obtain ⟨k2, rfl, hk2, rfl, rfl⟩ := hrel
          by_cases hlk : k2 < k
          · have y1 : decide ((k2 : Int) < (k : Int)) = true := by simp; omega
            have y2 : decide (k2 < k) = true := by simp; omega
            have hik : i + k2 < s.size := by omega
            have Hnx := Lib.hid (over_next q L k2 s[i + k2] (by rw [← HL.out, List.getElem?_drop]; exact List.getElem?_eq_getElem _))
            obtain ⟨n1, n2, n3⟩ := over_bound (L.take k2) q
            have n3 := n3 q2
            have n4 : (L.take k2).length ≤ k2 := by rw [List.length_take]; omega
            obtain ⟨p, hp⟩ : ∃ p, overL q (L.take k2) = p := ⟨_, rfl⟩
            rw [hp] at n1 n2 n3 Hnx
            obtain ⟨c, hc⟩ : ∃ c, s[i + k2] = c := ⟨_, rfl⟩
            rw [hc] at Hnx
            have Haf := Lib.hid (fun w => rafter_any p (by omega) (by omega) n3 c w)
            clear n1 n2 n3 n4
            rw [hp]
            clear hp
            go_wp2_with (go_at_call 36; refine (Haf.out _).mono ?_; rintro e w9 ⟨rfl, rfl⟩)
            go_round
            case rel => exact ⟨k2 + 1, by go_num, by omega, by rw [Hnx.out], by rw [Hnx.out]⟩
            case measure => simp [intOf]; omega
          · obtain rfl : k2 = k := by omega
            have y1 : decide ((k2 : Int) < (k2 : Int)) = false := by simp
            have y2 : decide (k2 < k2) = false := by simp
            obtain ⟨ov1, ov2, ov3⟩ := over_bound (L.take k2) q
            have ov4 := (overL_pos (L.take k2) q ⟨q1, q2⟩).1
            have ov3 := ov3 q2
            have ov5 : (L.take k2).length ≤ k2 := by rw [List.length_take]; omega
            obtain ⟨p, hp⟩ : ∃ p, overL q (L.take k2) = p := ⟨_, rfl⟩
            rw [hp] at ov1 ov2 ov3 ov4 Hn2
            rw [hp]
            clear hp
            go_wp2
            go_roundw
            case rel => exact ⟨i + k2, last, g, p, ts, rfl, rfl, rfl, by go_num, by omega, by omega, by omega, ov4, ov3, by omega, by omega, by omega, hA1, hB1, Lib.hid Hn2⟩
            case measure => simp [intOf]; omega
      · by_cases hm2 : m < 0
        · have Ht := ref_neg L (by rw [hm]; exact hm2) g i q last ts
          rw [Ht] at Hk
          have Hn2 := Lib.hid (show allF s.data.toList = ((4, (i : Int)), []) from by rw [HF.out, Hk])
          have d2 : ((m : Int) == 0) = false := by rw [beq_eq_false_iff_ne]; omega
          have d3 : decide ((m : Int) < 0) = true := decide_eq_true (by omega)
          have f0 := hA.blkF.cell 0
          clear f0 Ht Hk hm hL hne hm1 hm2 hLl
          go_wp2_with (go_at_call 34; refine (Hp.out _).mono ?_; rintro e w1 ⟨rfl, b1⟩; have hA1 := (hA.below b1).alloc tokO; have f0 := hA1.blkF.cell 0; have f1 := hA1.blkF.cell 1; have g0 := hA1.blkF.free 0; have g1 := hA1.blkF.free 1; simp only [List.getElem?_toArray, List.getElem?_cons_zero, List.getElem?_cons_succ] at f0 f1)
          have hB1 := (chain hB b1).alloc (chain hB b1).size tokO
          refine bodyPost_ret (v := .tuple #[.slice none 0 0, .agg #[.int .i64 4, .int .i64 i]]) (by simp [results, Tryd.results14, go_sem, f0, f1]) rfl ?_
          rw [Hn2.out]
          refine ⟨_, rfl, World.ownsRow_nil _ _ _ _, ?_⟩
          have hx := Hfb.out
          subst hx
          exact (hB1.setCell (p := ⟨w.heap.size, 0, none⟩) (Nat.le_refl _) _).setCell (p := ⟨w.heap.size, 1, none⟩) (Nat.le_refl _) _
        · obtain rfl : m = 0 := by omega
          by_cases hok : ∃ t n, oneK L = .tok t n
          · obtain ⟨t, k, ho⟩ := hok
            obtain ⟨hk1, hkr, hkind, Ht⟩ := ref_tok L hne hm t k ho g i q last ts
            rw [Ht, ← hL, List.drop_drop] at Hk
            rw [hL] at Hk
            have Hn2 := Hk
            have Hlx := Lib.hid (fun w => rlex_known s (by omega) i hlt (.tuple #[.agg #[.int .i64 t.kind, .string ⟨t.text.toArray⟩, .int .i64 t.num, .int .i64 0, .int .i64 0, .int .i64 0, .bool false], .int .i64 k]) (by rw [hL, ho]; rfl) w)
            have d2 : ((k : Int) == 0) = false := by rw [beq_eq_false_iff_ne]; omega
            have d3 : decide ((k : Int) < 0) = false := decide_eq_false (by omega)
            have hin : i + k ≤ s.size := by omega
            obtain ⟨tk, htk⟩ : ∃ tk : Int, (t.kind : Int) = tk := ⟨_, rfl⟩
            have Htk := Lib.hid htk
            rw [htk] at Hlx hkind
            obtain ⟨ne, hne1⟩ : ∃ ne, ((q.1 : Int) != (last : Int)) = ne := ⟨_, rfl⟩
            have hne2 : (q.1 != last) = ne := by
              rw [← hne1, Bool.eq_iff_iff, bne_iff_ne, bne_iff_ne]; omega
            rw [hne2] at Hn2
            have htp : tpC ⟨t, i, q.1, q.2, ne⟩ = [.int .i64 tk, .string ⟨t.text.toArray⟩, .int .i64 t.num, .int .i64 i, .int .i64 q.1, .int .i64 q.2, .bool ne] := by unfold tpC; rw [Htk.out]
            have Htp := Lib.hid htp
            have Hn2 := Lib.hid Hn2
            clear Ht Hk hm hL hne hm1 hm2 hkr ho htk hne2 htp
            go_upto_if 36 with (first | (go_at_call 34; refine (Hp.out _).mono ?_; rintro e w1 ⟨rfl, b1⟩; have hA0 := hA.below b1; have lt2 := own_lt hA0.own; have hA1 := hA0.alloc tokO; have T0 := TokB.start w1; have hnp : ¬ fb = w1.heap.size := (fun e => by have := hA0.blkF.lt; omega); have hnp2 : ¬ w1.heap.size = fb := fun e => hnp e.symm) | (go_at_call 35; refine (Hlx.out _).mono ?_; rintro e w3 ⟨rfl, b3⟩; have hT3 := T0.next b3; have hA3 := hA1.below b3; obtain ⟨⟨la, lb, lc, ld, le, lf, lg⟩, xa, xb, xc, xd, xe, xf, xg⟩ := hT3.cells))
            have BT := ((Blk.new w1 #[.int .i64 0, .string ⟨#[]⟩, .int .i64 0, .int .i64 0, .int .i64 0, .int .i64 0, .bool false] 30).below b3 (by simp))
            have hB3 := chain ((chain hB b1).alloc (chain hB b1).size tokO) b3
            have O4 := ((((((Only.refl w1.heap.size w3).set 0 (.int .i64 tk)).set 1 (.string ⟨t.text.toArray⟩)).set 2 (.int .i64 t.num)).set 3 (.int .i64 0)).set 4 (.int .i64 0)).set 5 (.int .i64 0) |>.set 6 (.bool false)
            have BT4 := ((((((BT.set 0 (.int .i64 tk) (by simp)).set 1 (.string ⟨t.text.toArray⟩) (by simp)).set 2 (.int .i64 t.num) (by simp)).set 3 (.int .i64 0) (by simp)).set 4 (.int .i64 0) (by simp)).set 5 (.int .i64 0) (by simp)).set 6 (.bool false) (by simp)
            have A4 := hA3.other O4 hnp (fun e => by have := lt2 _ e; omega)
            have hwT : w.heap.size ≤ w1.heap.size := (chain hB b1).size
            have hB4 := hB3.trans (O4.below (B := w.heap.size) hwT)
            generalize (((((((w3.setCell ⟨w1.heap.size, 0, none⟩ (.int .i64 tk)).setCell ⟨w1.heap.size, 1, none⟩ (.string ⟨t.text.toArray⟩)).setCell ⟨w1.heap.size, 2, none⟩ (.int .i64 t.num)).setCell ⟨w1.heap.size, 3, none⟩ (.int .i64 0)).setCell ⟨w1.heap.size, 4, none⟩ (.int .i64 0)).setCell ⟨w1.heap.size, 5, none⟩ (.int .i64 0)).setCell ⟨w1.heap.size, 6, none⟩ (.bool false)) = W4 at BT4 O4 A4 hB4 ⊢
            clear la lb lc ld le lf lg xa xb xc xd xe xf xg hT3 hA3 hA1 hA0 T0 b1 b3 hB3 BT O4 hA hB
            generalize w1.heap.size = tb at BT4 lt2 hnp hnp2 hwT ⊢
            have t0 := BT4.cell 0
            have t1' := BT4.cell 1
            have t2' := BT4.cell 2
            have t3' := BT4.cell 3
            have t4' := BT4.cell 4
            have t5' := BT4.cell 5
            have t6' := BT4.cell 6
            have tf := BT4.free
            simp at t0 t1' t2' t3' t4' t5' t6'
            go_upto_region 19 with fail
            have BT5 := (((BT4.set 3 (.int .i64 i) (by simp)).set 4 (.int .i64 q.1) (by simp)).set 5 (.int .i64 q.2) (by simp)).set 6 (.bool ne) (by simp)
            have O5 := ((((Only.refl tb W4).set 3 (.int .i64 i)).set 4 (.int .i64 q.1)).set 5 (.int .i64 q.2)).set 6 (.bool ne)
            have A5 := A4.other O5 hnp (fun e => by have := lt2 _ e; omega)
            have hB5 := hB4.trans (O5.below (B := w.heap.size) hwT)
            generalize (((W4.setCell ⟨tb, 3, none⟩ (.int .i64 i)).setCell ⟨tb, 4, none⟩ (.int .i64 q.1)).setCell ⟨tb, 5, none⟩ (.int .i64 q.2)).setCell ⟨tb, 6, none⟩ (.bool ne) = W5 at BT5 A5 hB5 ⊢
            clear t0 t1' t2' t3' t4' t5' t6' tf BT4 A4 hB4 O5 hne1
            have t0 := BT5.cell 0
            have t1' := BT5.cell 1
            have t2' := BT5.cell 2
            have t3' := BT5.cell 3
            have t4' := BT5.cell 4
            have t5' := BT5.cell 5
            have t6' := BT5.cell 6
            simp at t0 t1' t2' t3' t4' t5' t6'
            have hcn := cells_new W5 #[.int .i64 tk, .string ⟨t.text.toArray⟩, .int .i64 t.num, .int .i64 i, .int .i64 q.1, .int .i64 q.2, .bool ne] 30
            have Hcn := Lib.hid hcn
            clear hcn BT5
            go_wp2_with (at_builtin; refine wpList_append_own _ rfl _ _ 23 rfl base 30 i0 (.agg #[.int .i64 0, .string ⟨#[]⟩, .int .i64 0, .int .i64 0, .int .i64 0, .int .i64 0, .bool false]) 7 64 Tryd.underlying23 hinf hz0 hz1 hz2 rfl (by decide) _ _ _ rfl (A5.own.alloc _) ⟨W5.heap.size, 0, none⟩ 1 1 [.int .i64 tk, .string ⟨t.text.toArray⟩, .int .i64 t.num, .int .i64 i, .int .i64 q.1, .int .i64 q.2, .bool ne] rfl rfl Hcn.out (by simp [Value.oneCell']) (by unfold maxLen; omega) (by omega) (by have := A5.lb; simp; omega) ?_; intro v6 W6 own6 hgrow6 _; have A6 := A5.append _ hgrow6 ⟨t, i, q.1, q.2, ne⟩ (by rw [Htp.out]; exact own6); have hB6 := grown_below (hB5.alloc hB5.size _) hgrow6 (A5.own.alloc _) (by have := hB5.size; simp; omega) (by omega))
            have Hn2 := Hn2.out
            clear t0 t1' t2' t3' t4' t5' t6' own6 hgrow6 A5 hB5 Hcn Htp
            go_loop [7, 8, 12] (fun ln cl j => ∃ k2 : Nat, j = .int .i64 k2 ∧ k2 ≤ k ∧ ln = .int .i64 (overL q (L.take k2)).1 ∧ cl = .int .i64 (overL q (L.take k2)).2) (fun _ _ j => k - (intOf j).toNat)
            case atStart => exact ⟨0, rfl, Nat.zero_le _, rfl, rfl⟩
            case round =>
              obtain ⟨k2, rfl, hk2, rfl, rfl⟩ := hrel
              by_cases hlk : k2 < k
              · have y1 : decide ((k2 : Int) < (k : Int)) = true := by simp; omega
                have y2 : decide (k2 < k) = true := by simp; omega
                have hik : i + k2 < s.size := by omega
                have Hnx := Lib.hid (over_next q L k2 s[i + k2] (by rw [← HL.out, List.getElem?_drop]; exact List.getElem?_eq_getElem _))
                obtain ⟨n1, n2, n3⟩ := over_bound (L.take k2) q
                have n3 := n3 q2
                have n4 : (L.take k2).length ≤ k2 := by rw [List.length_take]; omega
                obtain ⟨p, hp⟩ : ∃ p, overL q (L.take k2) = p := ⟨_, rfl⟩
                rw [hp] at n1 n2 n3 Hnx
                obtain ⟨c, hc⟩ : ∃ c, s[i + k2] = c := ⟨_, rfl⟩
                rw [hc] at Hnx
                have Haf := Lib.hid (fun w => rafter_any p (by omega) (by omega) n3 c w)
                clear n1 n2 n3 n4
                rw [hp]
                clear hp
                go_wp2_with (go_at_call 36; refine (Haf.out _).mono ?_; rintro e w9 ⟨rfl, rfl⟩)
                go_round
                case rel => exact ⟨k2 + 1, by go_num, by omega, by rw [Hnx.out], by rw [Hnx.out]⟩
                case measure => simp [intOf]; omega
              · obtain rfl : k2 = k := by omega
                have y1 : decide ((k2 : Int) < (k2 : Int)) = false := by simp
                have y2 : decide (k2 < k2) = false := by simp
                obtain ⟨ov1, ov2, ov3⟩ := over_bound (L.take k2) q
                have ov4 := (overL_pos (L.take k2) q ⟨q1, q2⟩).1
                have ov3 := ov3 q2
                have ov5 : (L.take k2).length ≤ k2 := by rw [List.length_take]; omega
                obtain ⟨p, hp⟩ : ∃ p, overL q (L.take k2) = p := ⟨_, rfl⟩
                rw [hp] at ov1 ov2 ov3 ov4 Hn2
                rw [hp]
                clear hp
                go_wp2
                go_roundw
                case rel => exact ⟨i + k2, q.1, g, p, ts ++ [⟨t, i, q.1, q.2, ne⟩], rfl, rfl, rfl, by go_num, by omega, by simp; omega, by omega, ov4, ov3, by omega, by omega, by omega, A6, hB6, Lib.hid Hn2⟩
                case measure => simp [intOf]; omega
          · obtain ⟨Ht, hfd⟩ := ref_no L hne hm (fun t n h => hok ⟨t, n, h⟩) g i q last ts
            rw [Ht] at Hk
            have Hn2 := Lib.hid (show allF s.data.toList = ((4, (i : Int)), []) from by rw [HF.out, Hk])
            have Hlx := Lib.hid (fun w => rlex_known s (by omega) i hlt (.tuple #[.agg #[.int .i64 0, .string ⟨#[]⟩, .int .i64 0, .int .i64 0, .int .i64 0, .int .i64 0, .bool false], .int .i64 0]) (by rw [hL, hfd]; rfl) w)
            clear Ht Hk hm hL hne hm1 hm2 hLl hok hfd
            go_wp2_with (first | (go_at_call 34; refine (Hp.out _).mono ?_; rintro e w1 ⟨rfl, b1⟩; have hA1 := (hA.below b1).alloc tokO; have T0 := TokB.start w1; have hnp : ¬ fb = w1.heap.size := (fun e => by have := (hA.below b1).blkF.lt; omega); have hnp2 : ¬ w1.heap.size = fb := fun e => hnp e.symm) | (go_at_call 35; refine (Hlx.out _).mono ?_; rintro e w3 ⟨rfl, b3⟩; have hT3 := T0.next b3; have hA3 := hA1.below b3; obtain ⟨⟨la, lb, lc, ld, le, lf, lg⟩, xa, xb, xc, xd, xe, xf, xg⟩ := hT3.cells; have f0 := hA3.blkF.cell 0; have f1 := hA3.blkF.cell 1; have g0 := hA3.blkF.free 0; have g1 := hA3.blkF.free 1; simp only [List.getElem?_toArray, List.getElem?_cons_zero, List.getElem?_cons_succ] at f0 f1))
            have hB3 := chain ((chain hB b1).alloc (chain hB b1).size tokO) b3
            have O4 := ((((((Only.refl w1.heap.size w3).set 0 (.int .i64 0)).set 1 (.string ⟨#[]⟩)).set 2 (.int .i64 0)).set 3 (.int .i64 0)).set 4 (.int .i64 0)).set 5 (.int .i64 0) |>.set 6 (.bool false)
            have hB4 := hB3.trans (O4.below (B := w.heap.size) (by have := (hA.below b1).blkF.lt; have := (chain hB b1).size; omega))
            refine bodyPost_ret (v := .tuple #[.slice none 0 0, .agg #[.int .i64 4, .int .i64 i]]) (by simp [results, Tryd.results14, go_sem, f0, f1]) rfl ?_
            rw [Hn2.out]
            refine ⟨_, rfl, World.ownsRow_nil _ _ _ _, ?_⟩
            have hx := Hfb.out
            subst hx
            exact (hB4.setCell (p := ⟨w.heap.size, 0, none⟩) (Nat.le_refl _) _).setCell (p := ⟨w.heap.size, 1, none⟩) (Nat.le_refl _) _
    · have hlt2 : decide ((i : Int) < s.size) = false := by simp; omega
      have hlt3 : decide (i < s.size) = false := by simp; omega
      have ht : allK s.data.toList = .ok ts := by
        rw [Hk.out, List.drop_eq_nil_of_le (by omega)]
        cases f <;> rfl
      have Hn2 := Lib.hid (show allF s.data.toList = ((0, 0), ts) from by rw [HF.out, ht])
      have f0 := hA.blkF.cell 0
      have f1 := hA.blkF.cell 1
      have g0 := hA.blkF.free 0
      have g1 := hA.blkF.free 1
      simp only [List.getElem?_toArray, List.getElem?_cons_zero, List.getElem?_cons_succ] at f0 f1
      obtain ⟨va, vc, rfl⟩ := own_shape hA.own
      clear ht hlt
      go_wp2
      refine bodyPost_ret (v := .tuple #[.slice va ts.length vc, .agg #[.int .i64 0, .int .i64 0]]) (by simp [results, Tryd.results14, go_sem, f0, f1]) rfl ?_
      rw [Hn2.out]
      have hx := Hfb.out
      subst hx
      have o2 := ((Only.refl w.heap.size wr).set 0 (.int .i64 0)).set 1 (.int .i64 0)
      refine ⟨_, rfl, ?_, (hB.setCell (p := ⟨w.heap.size, 0, none⟩) (Nat.le_refl _) _).setCell (p := ⟨w.heap.size, 1, none⟩) (Nat.le_refl _) _⟩
      exact own_low (o2.own hA.own (fun e => by have := own_from hA.own _ e; have := hA.lf; omega)) hbs
end Go.Proofs.YtiflklmjmdhfoaaDoor

namespace Go.Proofs.YtiflklmjmdhfoaaDoor
open Go.RowKit Go.Shelf
set_option linter.unusedSimpArgs false

theorem TRd.gen {W : World} {v : Value} {ts : List Tp} (h : TRd W v ts) : GRd W v (ts.map fun x => ⟨x.t.kind, ⟨x.t.text.toArray⟩, x.t.num, x.at_, x.line, x.col, x.first⟩) := by
  obtain ⟨a, cap, rfl, hc⟩ := h
  refine ⟨a, cap, by rw [List.length_map], fun hl => ?_⟩
  obtain ⟨b, rfl, hb, hat⟩ := hc (by simpa using hl)
  refine ⟨b, 0, rfl, hb, fun k x hx j c hj => ?_⟩
  rw [List.getElem?_map] at hx
  have hk : k < ts.length := by
    rcases Nat.lt_or_ge k ts.length with h | h
    · exact h
    · rw [List.getElem?_eq_none h] at hx; cases hx
  rw [List.getElem?_eq_getElem hk] at hx
  cases hx
  have h := hat k hk
  rw [Nat.zero_add]
  have hj7 : j < 7 := by
    have := (List.getElem?_eq_some_iff.1 hj).1
    simpa [GT.cells] using this
  match j, hj7 with
  | 0, _ => cases hj; exact h.kind
  | 1, _ => cases hj; exact h.text
  | 2, _ => cases hj; exact h.num
  | 3, _ => cases hj; exact h.at_
  | 4, _ => cases hj; exact h.line
  | 5, _ => cases hj; exact h.col
  | 6, _ => cases hj; exact h.first

set_option maxRecDepth 100000 in
set_option maxHeartbeats 8000000 in
theorem RAll_bad (s : ByteArray) (hs : s.size ≤ 9223372036854775807) (hc : checkF s.data.toList ≠ (0, 0)) (w : World) :
    Calls Tryd.prog 14 #[.string s] w fun e w' => e = .returned (.tuple #[.slice none 0 0, faultV (checkF s.data.toList)]) ∧ Below w.heap.size w w' := by
  have K := Lib.hid (fun w => rcheck_any s hs w)
  have ha := checkF_sort _ hc
  obtain ⟨⟨a, b⟩, hab⟩ : ∃ x, checkF s.data.toList = x := ⟨_, rfl⟩
  rw [hab] at K ha ⊢
  have ha : (a == 0) = false := by rw [beq_eq_false_iff_ne]; exact ha
  clear hab hc
  rw [show faultV (a, b) = .agg #[.int .i64 a, .int .i64 b] from rfl] at K ⊢
  have B0 := Blk.new w #[.int .i64 0, .int .i64 0] 26
  go_enter Tryd.func14, Tryd.ntmps14
  go_wp2_with (go_at_call 33; refine (K.out _).mono ?_; rintro e w1 ⟨rfl, b1⟩; have B1 := B0.below b1 (by simp); have l1 := B1.lt)
  have BA := B1.alloc (.cells #[.int .i64 a, .int .i64 b] 26)
  have BN := Blk.new w1 #[.int .i64 a, .int .i64 b] 26
  have l2 : Below w.heap.size w (w1.alloc (.cells #[.int .i64 a, .int .i64 b] 26)) := (chain ((Below.refl _ w).alloc (Nat.le_refl _) _) b1).alloc (Nat.le_of_lt l1) _
  generalize w1.alloc (.cells #[.int .i64 a, .int .i64 b] 26) = W1 at BA BN l2 ⊢
  generalize w1.heap.size = n1 at BN l1 ⊢
  have c0 := BA.cell 0
  have c1 := BA.cell 1
  have f0 := BA.free 0
  have f1 := BA.free 1
  have d0 := BN.cell 0
  have d1 := BN.cell 1
  simp only [List.getElem?_toArray, List.getElem?_cons_zero, List.getElem?_cons_succ] at c0 c1 d0 d1
  clear K BA BN b1 B1 B0
  go_still_tail 2, (by kernel_rfl)
  change wpList _ _ _ _ _ W1.drew
  go_wp2
  exact bodyPost_ret (v := .tuple #[.slice none 0 0, .agg #[.int .i64 a, .int .i64 b]]) (by simp [results, Tryd.results14, go_sem, c0, c1]) rfl ⟨rfl, ((l2.setCell (p := ⟨w.heap.size, 0, none⟩) (Nat.le_refl _) _).setCell (p := ⟨w.heap.size, 1, none⟩) (Nat.le_refl _) _).drew⟩

theorem rall_known (s : ByteArray) (hs : s.size ≤ 9223372036854775807) (x : Int × Int) (ts : List Tp) (h1 : (allF s.data.toList).1 = x) (h2 : (allF s.data.toList).2 = ts) (w : World) :
    Calls Tryd.prog 14 #[.string s] w fun e w' => ∃ v, e = .returned (.tuple #[v, .agg #[.int .i64 x.1, .int .i64 x.2]]) ∧ TRd w' v ts ∧ Below w.heap.size w w' := by
  by_cases hc : checkF s.data.toList = (0, 0)
  · refine (RAll_good s hc w).mono ?_
    rintro e w' ⟨v, rfl, h, hb⟩
    rw [h1] at *
    rw [h2] at h
    exact ⟨v, rfl, h.rd, hb⟩
  · refine (RAll_bad s hs hc w).mono ?_
    rintro e w' ⟨rfl, hb⟩
    have : allF s.data.toList = (checkF s.data.toList, []) := by unfold allF; rw [if_neg hc]
    rw [this] at h1 h2
    subst h1
    subst h2
    exact ⟨_, rfl, ⟨none, 0, rfl, fun h => by simp at h⟩, hb⟩
theorem all_len (l : List UInt8) (h : l.length ≤ 4000) : (allF l).2.length ≤ 4000 := by
  rcases allF_sort l with ⟨h1, h2, h3⟩ | ⟨h1, h2⟩
  · obtain ⟨ss, hlex, hpl⟩ := allK_ok _ _ h2
    rw [hpl]
    exact Nat.le_trans (placed_len hlex _ _ _) h
  · rw [h2]; simp

set_option maxRecDepth 100000 in
set_option maxHeartbeats 8000000 in
theorem reads_walk (s : ByteArray) (hs : s.size ≤ 9223372036854775807) (w : World) :
    Calls Tryd.prog 4 #[.string s] w fun e w' => e = .returned (.bool true) ∧ Below w.heap.size w w' := by
  have hsl : s.data.toList.length = s.size := rfl
  by_cases hbig : 4000 < s.size
  · have d0 : decide ((4000 : Int) < (s.size : Int)) = true := by simp; omega
    go_enter Tryd.func4, Tryd.ntmps4
    go_wp2_with (go_at_call 9; refine (lives_true _).mono ?_; rintro e w0 ⟨rfl, b0⟩)
    go_ret
    exact ⟨rfl, b0⟩
  · have d0 : decide ((4000 : Int) < (s.size : Int)) = false := by simp; omega
    have hn := all_len s.data.toList (by omega)
    obtain ⟨ts, hts⟩ : ∃ ts, (allF s.data.toList).2 = ts := ⟨_, rfl⟩
    obtain ⟨⟨x, y⟩, hx⟩ : ∃ x, (allF s.data.toList).1 = x := ⟨_, rfl⟩
    have K := Lib.hid (fun w => all_known s hs (x, y) ts hx hts w)
    have R := Lib.hid (fun w => rall_known s hs (x, y) ts hx hts w)
    rw [hts] at hn
    have S := Lib.hid (fun a b w (ha : TRd w a ts) (hb : TRd w b ts) => same_toks a b _ w ha.gen hb.gen (by rw [List.length_map]; omega))
    clear hx hts
    go_enter Tryd.func4, Tryd.ntmps4
    go_wp2_with (first | (go_at_call 9; refine (lives_true _).mono ?_; rintro e w0 ⟨rfl, b0⟩) | (go_at_call 10; refine (K.out _).mono ?_; rintro e w1 ⟨v1, rfl, R1, b1⟩; have B1 := (chain b0 b1).alloc (chain b0 b1).size (.cells #[.int .i64 x, .int .i64 y] 26); have T1 := R1.below ((Below.refl _ w1).alloc (Nat.le_refl _) (.cells #[.int .i64 x, .int .i64 y] 26)); have F1 := Blk.new w1 #[.int .i64 x, .int .i64 y] 26) | (go_at_call 14; refine (R.out _).mono ?_; rintro e w2 ⟨v2, rfl, R2, b2⟩; have B2 := (chain B1 b2).alloc (chain B1 b2).size (.cells #[.int .i64 x, .int .i64 y] 26); have T2 := R2.below ((Below.refl _ w2).alloc (Nat.le_refl _) (.cells #[.int .i64 x, .int .i64 y] 26)); have F2 := Blk.new w2 #[.int .i64 x, .int .i64 y] 26; have T12 := (T1.below b2).below ((Below.refl _ w2).alloc (Nat.le_refl _) (.cells #[.int .i64 x, .int .i64 y] 26)); have F12 := (F1.below b2 F1.lt).alloc (.cells #[.int .i64 x, .int .i64 y] 26)) | (go_at_call 15; refine (S.out _ _ _ T12 T2).mono ?_; rintro e w3 ⟨rfl, b3⟩; have P1 := F12.below b3 F12.lt; have P2 := F2.below b3 F2.lt; have p0 := P1.cell 0; have p1 := P1.cell 1; have q0 := P2.cell 0; have q1 := P2.cell 1; simp only [List.getElem?_toArray, List.getElem?_cons_zero, List.getElem?_cons_succ] at p0 p1 q0 q1))
    go_ret
    exact ⟨rfl, chain B2 b3⟩
end Go.Proofs.YtiflklmjmdhfoaaDoor
