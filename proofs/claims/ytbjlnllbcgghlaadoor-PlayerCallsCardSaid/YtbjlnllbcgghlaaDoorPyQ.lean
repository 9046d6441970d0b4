/- The builder of texts; the program's Text. -/
import Derived.Test.YtbjlnllbcgghlaaDoorPyP
import Derived.Lib.Builder
import Derived.Lib.AppendStr
import Derived.Lib.UnsafeStr
import Derived.Laws.Externs
namespace Go.Proofs.YtbjlnllbcgghlaaDoor
open Go.RowKit Go.Shelf
set_option linter.unusedSimpArgs false
set_option linter.unusedVariables false

abbrev BX : Builder.Extra Tryd.prog Tryd.lays169_ren := Tryd.Builder_Extra_169
set_option maxRecDepth 100000 in
set_option maxHeartbeats 8000000 in
theorem copy_used (b : Nat) (w : World) (h0 : w.cell? ⟨b, 0, none⟩ = some (.pointer (some ⟨b, 0, none⟩))) :
    Calls Tryd.prog 36 #[.pointer (some ⟨b, 0, none⟩)] w fun e w' => e = .returned (.tuple #[]) ∧ w' = w := by
  obtain ⟨j, hj, _⟩ := Option.map_eq_some_iff.1 BX.sizeBuilder
  go_enter Tryd.func36, Tryd.ntmps36
  go_wp2
  rw [Lib.run_neq_ptr_same w _ Tryd.underlying56 hj]
  go_wp2
  go_end0
  exact ⟨rfl, rfl⟩
set_option maxRecDepth 100000 in
set_option maxHeartbeats 8000000 in
theorem copy_fresh (b : Nat) (w : World) (h0 : w.cell? ⟨b, 0, none⟩ = some (.pointer none)) (hsh : w.shape? b = some (58, 2)) (hfz : w.frozen? ⟨b, 0, none⟩ = false) :
    Calls Tryd.prog 36 #[.pointer (some ⟨b, 0, none⟩)] w fun e w' => e = .returned (.tuple #[]) ∧ w' = w.setCell ⟨b, 0, none⟩ (.pointer (some ⟨b, 0, none⟩)) := by
  obtain ⟨j, hj, hjs⟩ := Option.map_eq_some_iff.1 BX.sizeBuilder
  go_enter Tryd.func36, Tryd.ntmps36
  go_wp2
  rw [Lib.run_to_unsafe w ⟨b, 0, none⟩ Tryd.underlying56 Tryd.underlying79 hj (by rw [hjs]; decide) hsh (Nat.zero_lt_succ 1)]
  simp only [Result.andThen]
  rw [Oper.upon_value]
  go_wp2
  rw [run_callFunc_extern Tryd.func46 (by kernel_rfl) (by kernel_rfl) (by kernel_rfl) (e := Extern.AbiNoEscape.same) (by kernel_rfl)]
  rw [Lib.run_noEscape]
  simp only [Result.andThen]
  rw [Oper.upon_value]
  go_wp2
  rw [Lib.run_from_unsafe w ⟨b, 0, none⟩ Tryd.underlying79 Tryd.underlying56 hj hsh BX.liesBuilder]
  simp only [Result.andThen]
  rw [Oper.upon_value]
  go_wp2
  go_end0
  exact ⟨rfl, rfl⟩
abbrev isB (B b : Nat) (l : List UInt8) (w : World) : Prop := Lib.IsBuilder 58 5 B b (Lib.byteCells l) w
theorem copy_any (B b : Nat) (l : List UInt8) (w : World) (h : isB B b l w) :
    Calls Tryd.prog 36 #[.pointer (some ⟨b, 0, none⟩)] w fun e w' => e = .returned (.tuple #[]) ∧ Lib.BuilderAt 58 5 B b (.pointer (some ⟨b, 0, none⟩)) (Lib.byteCells l) w' ∧ Below B w w' := by
  rcases h with h | h
  · refine (copy_fresh b w h.cell0 h.shape h.frozen0).mono ?_
    rintro e w' ⟨rfl, rfl⟩
    exact ⟨rfl, h.used _, (Below.refl B w).setCell (p := ⟨b, 0, none⟩) h.1 _⟩
  · refine (copy_used b w h.cell0).mono ?_
    rintro e w' ⟨rfl, rfl⟩
    exact ⟨rfl, h, Below.refl B _⟩
theorem cells_app (l k : List UInt8) : Lib.byteCells l ++ Lib.strCells (mkW k) = Lib.byteCells (l ++ k) := by
  simp [Lib.byteCells, Lib.strCells, mkW]
set_option maxRecDepth 100000 in
set_option maxHeartbeats 8000000 in
theorem write_any (B b : Nat) (l k : List UInt8) (w : World) (h : isB B b l w) (hlen : l.length + k.length ≤ 1000000000) (hBw : B ≤ w.heap.size) :
    Calls Tryd.prog 27 #[.pointer (some ⟨b, 0, none⟩), .string (mkW k)] w fun e w' => ∃ v, e = .returned v ∧ isB B b (l ++ k) w' ∧ Below B w w' := by
  obtain ⟨i0, hi, hz0, hz1, hz2⟩ := info_parts BX.infoByte
  have hks : (mkW k).size = k.length := by simp [mkW, ByteArray.size]
  go_enter Tryd.func27, Tryd.ntmps27
  go_wp2_with (go_at_call 36; refine (copy_any B b l _ h).mono ?_)
  rintro e w1 ⟨rfl, h1, hb1⟩
  obtain ⟨hB, v, hbk, hown, hne⟩ := h1
  have c0 : w1.cell? ⟨b, 0, none⟩ = some (.pointer (some ⟨b, 0, none⟩)) := by rw [Lib.cell_of_heap hbk]; rfl
  have c1 : w1.cell? ⟨b, 1, none⟩ = some v := by rw [Lib.cell_of_heap hbk]; rfl
  go_wp2_with (at_builtin; refine Lib.wpList_append_own_string _ rfl _ _ 32 9 rfl B 5 i0 Tryd.underlying32 Tryd.underlying9 hi hz0 hz1 hz2 _ _ _ rfl hown (mkW k) rfl ?c3 ?c4 ?c5 ?_)
  case c3 => rw [hks, Lib.byteCells_length]; unfold maxLen; omega
  case c4 => rw [hks, Lib.byteCells_length]; omega
  case c5 => have := hb1.size; omega
  intro v' w2 hown' hgrow _
  have hlt : b < w1.heap.size := by
    rcases Nat.lt_or_ge b w1.heap.size with h' | h'
    · exact h'
    · simp [Array.getElem?_eq_none h'] at hbk
  have hb2 : w2.heap[b]? = some (.cells #[.pointer (some ⟨b, 0, none⟩), v] 58 (0, 0)) := by
    rw [hgrow.block b hlt (fun e => hne e.symm)]
    exact hbk
  have d0 : w2.cell? ⟨b, 0, none⟩ = some (.pointer (some ⟨b, 0, none⟩)) := by rw [Lib.cell_of_heap hb2]; rfl
  have d1 : w2.cell? ⟨b, 1, none⟩ = some v := by rw [Lib.cell_of_heap hb2]; rfl
  have f1 : w2.frozen? ⟨b, 1, none⟩ = false := Lib.frozen_of_heap hb2 1
  obtain ⟨ao, n', cap, rfl⟩ : ∃ ao n' cap, v' = .slice ao n' cap := by
    rcases hown'.2 with ⟨hv, _⟩ | ⟨g, cap, cur, hv, _⟩
    · exact ⟨_, _, _, hv⟩
    · exact ⟨_, _, _, hv⟩
  go_wp2
  go_ret2
  refine ⟨_, rfl, ?_, ?_⟩
  · refine .inr ?_
    rw [← cells_app]
    exact Lib.BuilderAt.put (T := 58) (e := 5) hB hb2 (bs' := Lib.byteCells l ++ Lib.strCells (mkW k)) (by simpa [Lib.strCells_length, hks] using hown') BX.neB5
  · exact (hb1.grown hgrow (by have := hb1.size; omega) (fun k hk => (hown.lt k hk).1)).setCell (p := ⟨b, 1, none⟩) hB _
theorem isB.below {B b : Nat} {l : List UInt8} {w w' : World} (h : isB B b l w) (hb : Below w.heap.size w w') : isB B b l w' := by
  have go : ∀ p, Lib.BuilderAt 58 5 B b p (Lib.byteCells l) w → Lib.BuilderAt 58 5 B b p (Lib.byteCells l) w' := by
    rintro p ⟨h1, v, h2, h3, h4⟩
    exact ⟨h1, v, (hb.block b (Array.getElem?_eq_some_iff.1 h2).1).trans h2, own_on h3 hb (own_lt h3), h4⟩
  rcases h with h | h
  · exact .inl (go _ h)
  · exact .inr (go _ h)
theorem isB.new (w : World) : isB w.heap.size w.heap.size [] (w.alloc (.cells #[.pointer none, .slice none 0 0] 58)) :=
  .inl ⟨Nat.le_refl _, .slice none 0 0, heap_alloc_new w _, World.ownsRow_nil _ _ _ _, by simp [Value.ownBlock]⟩

/-! A script's text. -/
def textK (l : List PlD) : List UInt8 := l.flatMap fun x => lineK x ++ [10]
def textS (l : List PlD) : List UInt8 := if chkK l = 0 then textK l else []
theorem chk_zero {l : List PlD} (h : chkK l = 0) : l.length ≤ 4096 ∧ ∀ x ∈ l, fineK x = true := by
  unfold chkK at h
  split at h
  · cases h
  · next h1 =>
    split at h
    · next h2 => exact ⟨by omega, List.all_eq_true.1 h2⟩
    · cases h
theorem chk_fine {l : List PlD} (h : l.length ≤ 4096) (hf : ∀ x ∈ l, fineK x = true) : chkK l = 0 := by
  unfold chkK
  rw [if_neg (by omega), if_pos (List.all_eq_true.2 hf)]
theorem line_len {x : PlD} (h : fineK x = true) : (lineK x).length ≤ 11 + 3 * x.bytes.length := by
  obtain ⟨k, n, bs⟩ := x
  rcases fine_kind h with e | e | ⟨e, h0, h1⟩ | e | e <;> (simp only at e; subst e)
  · have := feed_len bs
    show (feedL ++ bs.flatMap pieceL).length ≤ _
    rw [this]; simp only; omega
  · show (3 : Nat) ≤ _; omega
  · show ([114, 117, 110, 32] ++ Lib.itoa n).length ≤ _
    simp only at h0 h1
    obtain ⟨m, rfl⟩ := Int.eq_ofNat_of_zero_le h0
    have hl := dec_lenF 6 m (by omega)
    rw [List.length_append, itoa_nat _ (by omega)]
    simp only [Int.toNat_natCast, List.length_cons, List.length_nil]
    omega
  · show (5 : Nat) ≤ _; omega
  · show (5 : Nat) ≤ _; omega
theorem text_len : ∀ {l : List PlD}, (∀ x ∈ l, fineK x = true) → (textK l).length ≤ 12 * l.length + 3 * (l.map fun x => x.bytes.length).sum
  | [], _ => by simp [textK]
  | x :: l, h => by
    have h1 := line_len (h x (List.mem_cons_self ..))
    have h2 := text_len (fun y hy => h y (List.mem_cons_of_mem _ hy)) (l := l)
    unfold textK at h2 ⊢
    rw [List.flatMap_cons, List.length_append, List.length_append]
    simp only [List.map_cons, List.sum_cons, List.length_cons, List.length_nil]
    omega
theorem small_text {l : List PlD} (h : smallK l) (hf : ∀ x ∈ l, fineK x = true) : (textK l).length ≤ 200000 := by
  have := text_len hf
  have := h.1
  have := h.2
  omega
theorem small_bytes {l : List PlD} (h : smallK l) {x : PlD} (hx : x ∈ l) : x.bytes.length ≤ 20000 := by
  have h2 := h.2
  have : x.bytes.length ≤ (l.map fun x => x.bytes.length).sum := by
    clear h h2
    induction l with
    | nil => cases hx
    | cons y l ih =>
      simp only [List.map_cons, List.sum_cons]
      rcases List.mem_cons.1 hx with rfl | hx
      · omega
      · have := ih hx; omega
  omega
theorem text_next {l : List PlD} {k : Nat} {x : PlD} (hx : l[k]? = some x) : textK (l.take (k + 1)) = textK (l.take k) ++ (lineK x ++ [10]) := by
  unfold textK
  rw [List.take_add_one, hx, List.flatMap_append]; simp
theorem text_take (l : List PlD) (k : Nat) : (textK (l.take k)).length ≤ (textK l).length := by
  unfold textK
  conv => rhs; rw [← List.take_append_drop k l, List.flatMap_append, List.length_append]
  omega
theorem line_nl_cat (x : PlD) : (⟨(lineK x).toArray⟩ : ByteArray) ++ ⟨#[10]⟩ = mkW (lineK x ++ [10]) := by
  rw [show (⟨#[10]⟩ : ByteArray) = ⟨[10].toArray⟩ from rfl, cat_eq]; rfl
set_option maxRecDepth 100000 in
set_option maxHeartbeats 8000000 in
theorem text_any (v : Value) (l : List PlD) (w : World) (h : Pls w v l) (hsm : smallK l) (hL : LayP w) :
    Calls Tryd.prog 14 #[v] w fun e w' => e = .returned (.tuple #[.string (mkW (textS l)), .int .i64 (chkK l)]) ∧ Below w.heap.size w w' := by
  have KC := check_any v l w h
  obtain ⟨c, hc⟩ : ∃ c, chkK l = c := ⟨_, rfl⟩
  rw [hc] at KC ⊢
  have HP := Lib.hid h
  obtain ⟨a, ca, rfl, ha⟩ := h
  obtain ⟨N, hN⟩ : ∃ N, l.length = N := ⟨_, rfl⟩
  have HN := Lib.hid hN
  have Ha := Lib.hid ha
  rw [hN] at KC ⊢
  clear ha hN
  go_enter Tryd.func14, Tryd.ntmps14
  go_upto_region 2 with (go_at_call 19; refine KC.mono ?_; rintro r1 w1 ⟨rfl, b1⟩)
  by_cases h0 : c = 0
  · subst h0
    obtain ⟨hlen, hfine⟩ := chk_zero hc
    have HF := Lib.hid hfine
    have hlen2 : N ≤ 4096 := by rw [← HN.out]; exact hlen
    have hT := small_text hsm hfine
    have HTS := Lib.hid (show textS l = textK l by unfold textS; rw [if_pos hc])
    have B0 := Lib.hid b1
    clear b1 hc hfine hlen
    go_upto_region 5 with fail
    have B1 := Lib.hid (show Below w.heap.size w (w1.alloc (.cells #[.pointer none, .slice none 0 0] 58)) from B0.out.alloc B0.out.size _)
    have I0 := Lib.hid (isB.new w1)
    have hbs := B0.out.size
    have hz : (w1.alloc (.cells #[.pointer none, .slice none 0 0] 58)).heap.size = w1.heap.size + 1 := by simp
    generalize w1.alloc (.cells #[.pointer none, .slice none 0 0] 58) = W1 at B1 I0 hz ⊢
    generalize w1.heap.size = b at I0 hbs hz ⊢
    have HBS := Lib.hid hbs
    have HZ := Lib.hid hz
    clear hbs hz
    go_wp2
    go_loopw [15] (fun i wr => ∃ k : Nat, i = .int .i64 k ∧ k ≤ N ∧ Hid (isB b b (textK (l.take k)) wr) ∧ Hid (b ≤ wr.heap.size) ∧ Below w.heap.size w wr) (fun i _ => N - (intOf i).toNat)
    case atStart => exact ⟨0, rfl, Nat.zero_le _, I0, Lib.hid (by have := HZ.out; omega), B1.out⟩
    case round =>
      obtain ⟨k, rfl, hk, HI, HBW, hB⟩ := hrel
      by_cases hlt : k < N
      · have hlt2 : decide ((k : Int) < (N : Int)) = true := by simp; omega
        have hlt3 : decide (k < N) = true := by simp; omega
        have hi0 : (0 : Int) ≤ (k : Int) := by omega
        have hkt : k < l.length := by rw [HN.out]; exact hlt
        obtain ⟨p, o, rfl, hp, hat⟩ := Ha.out (by omega)
        obtain ⟨x, hx⟩ : ∃ x, l[k]? = some x := ⟨_, List.getElem?_eq_getElem hkt⟩
        obtain ⟨vs, hcs, hbts⟩ := hat k x hx
        have hxm := List.mem_of_getElem? hx
        have hvs1 := hbts.one
        obtain ⟨ab, cb, e1, -⟩ := id hbts
        have HX := Lib.hid hx
        have HXF := Lib.hid (HF.out x hxm)
        have HXL := Lib.hid (small_bytes hsm hxm)
        have KL := fun (W : World) (hb : Below w.heap.size w W) => line_fine (.agg #[.int .i64 x.kind, .int .i64 x.n, vs]) x W ⟨vs, rfl, hbts.below hb⟩ HXF.out (by have := HXL.out; omega) (hL.on hb)
        have HKL := Lib.hid KL
        obtain ⟨m, hm⟩ : ∃ m, x.bytes.length = m := ⟨_, rfl⟩
        obtain ⟨kd, hkd⟩ : ∃ m, x.kind = m := ⟨_, rfl⟩
        obtain ⟨nn, hnn⟩ : ∃ m, x.n = m := ⟨_, rfl⟩
        subst e1
        rw [hm, hkd, hnn] at hcs
        have c0 := (hB.cell (p := ⟨p, o + k * 3 + 0, none⟩) hp).trans (hcs 0 _ rfl)
        have c1 := (hB.cell (p := ⟨p, o + k * 3 + 1, none⟩) hp).trans (hcs 1 _ rfl)
        have c2 := (hB.cell (p := ⟨p, o + k * 3 + 2, none⟩) hp).trans (hcs 2 _ rfl)
        rw [Nat.add_zero] at c0
        obtain ⟨t, ht⟩ : ∃ t : ByteArray, (⟨(lineK x).toArray⟩ : ByteArray) = t := ⟨_, rfl⟩
        have zt : t.size ≤ 60011 := by rw [← ht]; have := HXL.out; have := line_len HXF.out; show (lineK x).toArray.size ≤ _; rw [List.size_toArray]; omega
        have zs : (⟨#[10]⟩ : ByteArray).size = 1 := rfl
        have HT := Lib.hid ht
        have HV := Lib.hid (show (Value.agg #[.int .i64 x.kind, .int .i64 x.n, .slice ab x.bytes.length cb]) = .agg #[.int .i64 kd, .int .i64 nn, .slice ab m cb] by rw [hm, hkd, hnn])
        have hal : Below wr.heap.size wr (wr.alloc (.cells #[.int .i64 kd, .int .i64 nn, .slice ab m cb] 34)) := (Below.refl _ wr).alloc (Nat.le_refl _) _
        have HI2 := Lib.hid (HI.out.below hal)
        have HB2 := Lib.hid (chain hB hal)
        have HBW2 := Lib.hid (Nat.le_trans HBW.out hal.size)
        clear hat hx hcs hm hkd hnn hbts hxm KL ht hal hvs1
        go_upto_region 8 with fail
        have R := Blk.new wr #[.int .i64 kd, .int .i64 nn, .slice ab m cb] 34
        generalize wr.alloc (.cells #[.int .i64 kd, .int .i64 nn, .slice ab m cb] 34) = W2 at R HI2 HB2 HBW2 ⊢
        generalize wr.heap.size = r2 at R ⊢
        have d0 : W2.cell? ⟨r2, 0, none⟩ = _ := R.cell 0
        have d1 : W2.cell? ⟨r2, 1, none⟩ = _ := R.cell 1
        have d2 : W2.cell? ⟨r2, 2, none⟩ = _ := R.cell 2
        simp only [List.getElem?_toArray, List.getElem?_cons_zero, List.getElem?_cons_succ] at d0 d1 d2
        clear c0 c1 c2 R hB
        go_wp2_with (first | (go_at_call 28; rw [← HV.out]; refine (HKL.out W2 HB2.out).mono ?_; rintro r1 w1 ⟨rfl, b1⟩; have HI3 := Lib.hid (HI2.out.below b1); have HB3 := Lib.hid (chain HB2.out b1); have HBW3 := Lib.hid (Nat.le_trans HBW2.out b1.size); clear b1; rw [HT.out]) | (go_at_call 27; rw [← HT.out, line_nl_cat]; refine (write_any b b _ _ _ HI3.out (by have := HXL.out; have := line_len HXF.out; have := text_take l k; rw [List.length_append]; simp only [List.length_cons, List.length_nil]; omega) HBW3.out).mono ?_; rintro r2 w2 ⟨v2, rfl, i2, b2⟩; rw [← text_next HX.out] at i2; have HI4 := Lib.hid i2; have HB4 := Lib.hid (HB3.out.trans (b2.mono HBS.out)); have HBW4 := Lib.hid (Nat.le_trans HBW3.out b2.size); clear i2 b2))
        go_roundw
        case measure => simp [intOf]; omega
        case rel => exact ⟨k + 1, by go_num, by omega, HI4, HBW4, HB4.out⟩
      · have hlt2 : decide ((k : Int) < (N : Int)) = false := by simp; omega
        have hlt3 : decide (k < N) = false := by simp; omega
        obtain rfl : N = k := by omega
        have hal : textK (l.take N) = textK l := by rw [← HN.out, List.take_length]
        rw [hal] at HI
        have HTX := Lib.hid (show isB b b (textK l) wr from HI.out)
        clear HI hal
        go_wp2_with (go_at_call 29; refine (Tryd.Builder_String_any b b (textK l) wr HTX.out HBW.out).mono ?_; rintro r2 w2 ⟨rfl, b2⟩; have HB4 := Lib.hid (hB.trans (b2.mono HBS.out)); clear b2)
        refine bodyPost_ret (v := .tuple #[.string (mkW (textS l)), .int .i64 0]) (by simp [results, Tryd.results14, go_sem, HTS.out, mkW]) rfl ?_
        exact ⟨rfl, HB4.out⟩
  · have e1 : (c != 0) = true := by simp; exact h0
    have HTS := Lib.hid (show textS l = [] by unfold textS; rw [if_neg (by rw [hc]; exact h0)])
    clear hc
    go_wp2
    refine bodyPost_ret (v := .tuple #[.string (mkW (textS l)), .int .i64 c]) (by simp [results, Tryd.results14, go_sem, HTS.out, mkW]) rfl ?_
    exact ⟨rfl, b1⟩
end Go.Proofs.YtbjlnllbcgghlaaDoor
