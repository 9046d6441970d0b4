/- What is laid when a law begins; a list of plays that comes in, opened. -/
import Derived.Test.YtbjlnllbcgghlaaDoorPyX
import Derived.Test.YtbjlnllbcgghlaaDoorRows
import Derived.Deep.Slices
import Derived.Deep.SlicePairs
import Derived.Deep.Fields
import Derived.ChangeArms
import Derived.SizedLaws
import Derived.Deep.Strs
import Derived.LaidOnce
import Derived.LaidMore
import Derived.Stop.LaidErr
import Derived.LaidLaws
import Derived.Shelf.Vars
import Derived.HandedShaped
import Derived.Lib.LaidU8
import Derived.Lib.AppendIntMem
namespace Go.Proofs.YtbjlnllbcgghlaaDoor
open Go.RowKit Go.Deep Go.ChangeShapes
set_option linter.unusedSimpArgs false
set_option linter.unusedVariables false

/-- The plain wrap with a further condition and the world's shape: what both of the kit's wraps hand on, together. -/
theorem handed_both {H : Type} {enc : TypeId × Value → H} {a : Assume} {C : Checked} {os : Os} {f : FuncId} {fn : Func} {s : ChangeSpec} {conds : List PathCond} {apart fresh handsOn again : Bool} {X : World → Array Value → Prop}
    (hX : ∀ (w w' : World) (args : Array Value), w.heap = w'.heap → X w args → X w' args)
    (own : ownKnob C.prog.godebug = none) (started : os.Started) (noInit : C.prog.inits.idxOf? f = none) (hfn : C.prog.funcs[f]? = some fn)
    (witness : ∃ (w : World) (tape : Tape) (i : Input), w.os = os ∧ (w.forCall tape i).Shaped C.prog ∧ i.vars = [] ∧ Input.okWide C.prog (w.forCall tape i) .any w.heap.size f i ∧
      ((s.pre enc C.prog fn conds apart (w.forCall tape i).memory i.args ∧ X (w.forCall tape i).memory i.args) ∧ sizedMet enc C.prog fn (OpenSpec.ofChange s) apart (w.forCall tape i).memory i.args) ∧ a.holds C.prog (lone (Frame.enter C.prog f i.args .normal) [] (w.forCall tape i)))
    (contract : ∀ (W : World) (base : Nat) (args : Array Value) (ds gs : List (DataW H)) (before : List MemPlace),
      (∀ (j : Nat) t v, fn.params[j]? = some t → args[j]? = some v → Value.okWide C.prog W .any base t v) →
      DataW.Whole enc C.prog fn.params.toList s.vars apart W args.toList ds gs before →
      conds.all (PathCond.test C.prog ⟨fn.params.toList, ds, s.plain.varTypes C.prog, gs⟩) = true →
      (DataW.weightsEach C.prog (fn.params.toList ++ s.plain.varTypes C.prog) (ds ++ gs)).all (· ≤ reachBytes) = true → X W args →
      W.ShapedOpen C.prog →
      Calls C.prog f args W fun e W' => ∃ v, e = .returned v ∧ s.post enc C.prog fn apart fresh handsOn again W args v W') :
    ReturnsInHanded a C os f .any (fun w args => (s.pre enc C.prog fn conds apart w args ∧ X w args) ∧ sizedMet enc C.prog fn (OpenSpec.ofChange s) apart w args) (s.post enc C.prog fn apart fresh handsOn again) := by
  refine returnsInHanded_of_calls own started noInit witness ?_
  intro w tape i _ hsh _ hok hpre hholds
  obtain ⟨_, _, _, fn', hfn', _, _, _, _, hval⟩ := hok
  have e : fn' = fn := Option.some.inj (hfn'.symm.trans hfn)
  subst e
  obtain ⟨⟨⟨ds, gs, before, hw, hc⟩, hx⟩, hz⟩ := hpre
  have hw' := DataW.Whole.of_heap (w' := w.forCall tape i) (by rfl) hw
  refine (contract (w.forCall tape i) w.heap.size i.args ds gs before hval hw' hc (hz.weights hw) (hX _ _ _ (by rfl) hx) hsh).mono fun e W' ⟨v, he, hp⟩ => ?_
  subst he
  exact ChangeSpec.post_blind hp

/-! What is laid. -/
theorem star_err : "\x2a" ++ "errors.errorString" = "\x2aerrors.errorString" := by decide
theorem row_err (u : TypeId) (h : Tryd.prog.typeName? 3 u = some "\x2aerrors.errorString") : u = 120 :=
  typeName_ptr_named (nm := "errors.errorString") (by rw [star_err]; kernel_rfl) (by kernel_rfl) (by decide) u (by rw [star_err]; exact h)
theorem lay_of (W : World) {n1 n2 n4 : String} {d1 d2 d4 : DataW Unit} {t1 t2 : List UInt8} {r : List (String × DataW Unit)}
    (hL : laidMet Tryd.prog ((n1, d1) :: (n2, d2) :: (powName, Rows.laid_internal_strconv_uint64pow10) :: (n4, d4) :: ("strconv.ErrRange", .iface "\x2aerrors.errorString" (.ptr (.agg [.lit (.string t1)]))) :: ("strconv.ErrSyntax", .iface "\x2aerrors.errorString" (.ptr (.agg [.lit (.string t2)]))) :: r) W)
    (hS : W.ShapedOpen Tryd.prog) : LayP W := by
  have h1 := laid_sentinel (hL.tail.tail.tail.tail) (g := 2) (ti := 60) (tp := 120) (te := 122) (ts := 9) (by kernel_rfl) (by kernel_rfl) Tryd.underlying60 row_err Tryd.underlying120 Tryd.underlying122 rfl rfl Tryd.underlying9 (by kernel_rfl) (by kernel_rfl)
  have h2 := laid_sentinel (hL.tail.tail.tail.tail.tail) (g := 1) (ti := 60) (tp := 120) (te := 122) (ts := 9) (by kernel_rfl) (by kernel_rfl) Tryd.underlying60 row_err Tryd.underlying120 Tryd.underlying122 rfl rfl Tryd.underlying9 (by kernel_rfl) (by kernel_rfl)
  obtain ⟨a1, s1, v1, -⟩ := h1
  obtain ⟨a2, s2, v2, -⟩ := h2
  have g1 : Tryd.prog.globalNamed "strconv.ErrRange" = some 2 := by kernel_rfl
  have g2 : Tryd.prog.globalNamed "strconv.ErrSyntax" = some 1 := by kernel_rfl
  refine ⟨?_, cell_of_shapedOpen_int (zero := #[.int .i64 0]) (t := 3) hS (of_decide_eq_true (by kernel_rfl)) (by kernel_rfl) rfl (by kernel_rfl) (by kernel_rfl) Tryd.underlying3, ⟨_, (by simpa using World.var?_cell g2 v2 0), .inr ⟨_, _, rfl⟩⟩, ⟨_, (by simpa using World.var?_cell g1 v1 0), .inr ⟨_, _, rfl⟩⟩⟩
  have hm : (powName, Rows.laid_internal_strconv_uint64pow10) ∈ ((n1, d1) :: (n2, d2) :: (powName, Rows.laid_internal_strconv_uint64pow10) :: (n4, d4) :: ("strconv.ErrRange", .iface "\x2aerrors.errorString" (.ptr (.agg [.lit (.string t1)]))) :: ("strconv.ErrSyntax", .iface "\x2aerrors.errorString" (.ptr (.agg [.lit (.string t2)]))) :: r) := .tail _ (.tail _ (.head _))
  obtain ⟨g', t', cs, fuel, p, hg', ht', hvar, hd⟩ := Lib.laidMet.reads hL hm
  have hg : Tryd.prog.globalNamed powName = some 3 := by kernel_rfl
  obtain rfl := Option.some.inj (hg.symm.trans hg')
  have hty : (Tryd.prog.globals[(3 : Nat)]?).map (fun x => x.type) = some 124 := by kernel_rfl
  obtain rfl := Option.some.inj (hty.symm.trans ht')
  refine Lib.tabBelow_of_tabIs ?_
  unfold Lib.TabIs
  rw [hvar, ← Lib.cells_of_tab Tryd.underlying124 Tryd.underlying67 (by kernel_rfl) (by kernel_rfl) (show DataW.trod (fun _ => ()) Tryd.prog W 0 (fun _ => true) false fuel 124 cs.toList = some (Lib.tabData .u64 Lib.pow10Tab, p) from hd)]

/-! A list of plays that comes in. -/
instance : Inhabited PlD := ⟨⟨0, 0, []⟩⟩
section
variable {H : Type} {enc : TypeId × Value → H} {W : World} {sp : Nat → Bool} {hd : Bool}
theorem add_eq (b o j : Nat) : (⟨b, o, none⟩ : Addr).add j = ⟨b, o + j, none⟩ := by
  unfold Addr.add
  split
  · next h => subst h; rfl
  · rfl
theorem addr_at {a : Addr} {v : Value} (h : W.cell? (a.add 0) = some v) : ∃ b o, a = ⟨b, o, none⟩ ∧ b < W.heap.size := by
  have h0 : W.cell? a = some v := by simpa [Addr.add] using h
  have h1 := World.cell?_spot h0
  obtain ⟨b, o, s⟩ := a
  simp only at h1
  subst h1
  exact ⟨b, o, rfl, World.block_lt_of_cell? W ⟨b, o, none⟩ h0⟩
theorem weights_mem_all {P : Program} {e : TypeId} : ∀ {l : List (DataW H)} {d : DataW H} {n : Nat}, d ∈ l → n ∈ d.weights P e → n ∈ DataW.weightsAll P e l
  | d0 :: l, d, n, hd, hn => by
    simp only [DataW.weightsAll, List.mem_append]
    rcases List.mem_cons.1 hd with rfl | hd
    · exact .inl hn
    · exact .inr (weights_mem_all hd hn)
theorem fld {fs : Array Field} {cs : List Value} {xs : List (DataW H × List MemPlace)} {m : Nat} (hf : ∀ (i : Nat) (f : Field), fs[i]? = some f → DataW.trod enc Tryd.prog W 0 sp hd m f.type ((cs.drop f.offset).take (Tryd.prog.cellsOf f.type)) = xs[i]?)
    (i : Nat) (t : TypeId) (o : Nat) (h : (fs[i]?).map (fun f => (f.type, f.offset)) = some (t, o)) : DataW.trod enc Tryd.prog W 0 sp hd m t ((cs.drop o).take (Tryd.prog.cellsOf t)) = xs[i]? := by
  rcases hi : fs[i]? with _ | f
  · rw [hi] at h; simp at h
  · rw [hi] at h
    simp only [Option.map_some, Option.some.injEq, Prod.mk.injEq] at h
    obtain ⟨rfl, rfl⟩ := h
    exact hf i f hi
theorem bytesPl : Tryd.prog.bytesOf 34 = 40 := by kernel_rfl
theorem bts_of_trod {fuel : Nat} {v : Value} {x : DataW H × List MemPlace} (h : DataW.trod enc Tryd.prog W 0 sp hd fuel 32 [v] = some x) : ∃ l, Bts W v l := by
  rcases open_slice Tryd.underlying32 h with ⟨h0, _⟩ | ⟨a, len, cap, m, n, D, Pl, h0, _, hlc, hcm, hm, hxx, hx⟩
  · cases h0
    exact ⟨[], ⟨none, 0, rfl, fun h => by simp at h⟩⟩
  · cases h0
    have hlm : len ≤ m := by rw [hm]; split <;> omega
    have k1 : Tryd.prog.cellsOf 5 = 1 := by kernel_rfl
    have hb : ∀ i, i < len → ∃ y : UInt8, W.cell? (a.add i) = some (.int .u8 (y.toNat : Int)) := by
      intro i hi
      obtain ⟨cs', h1, h2⟩ := hx i (by omega)
      rw [k1, Nat.mul_one] at h1
      have hl := (World.cells?_some h1).2.1
      match cs', hl with
      | [c], _ =>
        obtain ⟨n0, e0, -, wf⟩ := DataW.trod_int Tryd.underlying5 h2
        obtain rfl : c = .int .u8 n0 := by simpa using e0
        have hk : 0 ≤ n0 ∧ n0 ≤ 255 := by simpa [Lit.wf, IntKind.min, IntKind.max, IntKind.signed, IntKind.bits] using wf
        have := (World.cells?_some h1).2.2 0 (by omega)
        refine ⟨UInt8.ofNat n0.toNat, ?_⟩
        have he : ((UInt8.ofNat n0.toNat).toNat : Int) = n0 := by simp; omega
        rw [he]
        simpa [Addr.add] using this
    obtain ⟨q, hq⟩ := choose_lt (α := UInt8) hb
    refine ⟨(List.range len).map q, ⟨some a, cap, by simp, fun hl => ?_⟩⟩
    have hl0 : 0 < len := by simpa using hl
    obtain ⟨b, o, rfl, hbl⟩ := addr_at (hq 0 hl0)
    refine ⟨b, o, rfl, hbl, fun i x hx => ?_⟩
    obtain ⟨hi, rfl⟩ : i < len ∧ q i = x := by
      rw [List.getElem?_map] at hx
      rcases Nat.lt_or_ge i len with hi | hi
      · rw [List.getElem?_range hi] at hx
        exact ⟨hi, by simpa using hx⟩
      · rw [List.getElem?_eq_none (by simpa using hi)] at hx
        simp at hx
    have := hq i hi
    rw [add_eq] at this
    rw [Nat.mul_one]
    exact this
set_option maxRecDepth 100000 in
theorem pl_of_trod {fuel : Nat} {cs : List Value} {x : DataW H × List MemPlace} (h : DataW.trod enc Tryd.prog W 0 sp hd fuel 34 cs = some x) : ∃ y : PlD × Value, cs = prow y ∧ Bts W y.2 y.1.bytes := by
  obtain ⟨zs, m, _, hz, hl, hzl, hf⟩ := DataW.trod_struct Tryd.underlying34 h
  have hl3 : cs.length = 3 := hl.trans (by kernel_rfl)
  have k3 : Tryd.prog.cellsOf 3 = 1 := by kernel_rfl
  have kb : Tryd.prog.cellsOf 32 = 1 := by kernel_rfl
  match cs, hl3 with
  | [c0, c1, c2], _ =>
    match zs, hzl with
    | [z0, z1, z2], _ =>
      have f0 := fld hf 0 3 0 rfl
      have f1 := fld hf 1 3 1 rfl
      have f2 := fld hf 2 32 2 rfl
      simp only [k3] at f0 f1
      simp only [kb] at f2
      obtain ⟨m0, q0, _⟩ := DataW.trod_int Tryd.underlying3 f0
      obtain ⟨m1, q1, _⟩ := DataW.trod_int Tryd.underlying3 f1
      obtain rfl : c0 = .int .i64 m0 := by simpa using q0
      obtain rfl : c1 = .int .i64 m1 := by simpa using q1
      obtain ⟨l, hl⟩ := bts_of_trod (v := c2) (by simpa using f2)
      exact ⟨(⟨m0, m1, l⟩, c2), rfl, hl⟩
instance : Inhabited (PlD × Value) := ⟨(default, .nilIface)⟩
set_option maxRecDepth 100000 in
theorem plays_of_trod {fuel : Nat} {v : Value} {x : DataW H × List MemPlace} (h : DataW.trod enc Tryd.prog W 0 sp hd fuel 24 [v] = some x) (hw : ∀ n ∈ x.1.weights Tryd.prog 24, n ≤ reachBytes) :
    ∃ l, Pls W v l ∧ l.length ≤ 10000000000000 ∧ Room v := by
  rcases open_slice Tryd.underlying24 h with ⟨h0, _⟩ | ⟨a, len, cap, m, n, D, Pl, h0, _, hlc, hcm, hm, hxx, hx⟩
  · cases h0
    exact ⟨[], Pls.emp _, by simp, Room.of (Nat.le_refl _)⟩
  · cases h0
    have hlm : len ≤ m := by rw [hm]; split <;> omega
    have k3 : Tryd.prog.cellsOf 34 = 3 := by kernel_rfl
    rw [hxx] at hw
    have hle : len * 40 ≤ 140737488351232 := by
      have h1 := hw _ (by simp only [DataW.weights, Tryd.underlying24]; exact List.mem_cons_self ..)
      rw [bytesPl, List.length_map, List.length_map, List.length_range, List.length_range] at h1
      have h2 : reachBytes = 140737488351232 := by decide
      rw [h2] at h1
      exact Nat.le_trans (Nat.mul_le_mul_right _ (Nat.le_add_right _ _)) h1
    have hacts : ∀ i, i < len → ∃ y : PlD × Value, W.cells? 0 (a.add (i * 3)) 3 = some (prow y) ∧ Bts W y.2 y.1.bytes := by
      intro i hi
      obtain ⟨cs', h1, h2⟩ := hx i (by omega)
      rw [k3] at h1
      obtain ⟨y, rfl, hy⟩ := pl_of_trod h2
      exact ⟨y, h1, hy⟩
    obtain ⟨q, hq⟩ := choose_lt (α := PlD × Value) hacts
    refine ⟨(List.range len).map fun i => (q i).1, ⟨some a, cap, by simp, fun hl => ?_⟩, by simp; omega, Room.of hlc⟩
    have hl0 : 0 < len := by simpa using hl
    have h00 := (World.cells?_some (hq 0 hl0).1).2.2 0 (by omega)
    rw [Nat.zero_mul] at h00
    have h01 : W.cell? (a.add 0) = some (.int .i64 (q 0).1.kind) := by simpa [Addr.add, prow] using h00
    obtain ⟨b, o, rfl, hb⟩ := addr_at h01
    refine ⟨b, o, rfl, hb, fun i x hx => ?_⟩
    obtain ⟨hi, rfl⟩ : i < len ∧ (q i).1 = x := by
      rw [List.getElem?_map] at hx
      rcases Nat.lt_or_ge i len with hi | hi
      · rw [List.getElem?_range hi] at hx
        exact ⟨hi, by simpa using hx⟩
      · rw [List.getElem?_eq_none (by simpa using hi)] at hx
        simp at hx
    refine ⟨(q i).2, fun j c hc => ?_, (hq i hi).2⟩
    have hj : j < 3 := by
      have := (List.getElem?_eq_some_iff.1 hc).1
      simpa using this
    have := (World.cells?_some (hq i hi).1).2.2 j hj
    rw [add_eq, add_eq] at this
    exact this.trans hc
end
end Go.Proofs.YtbjlnllbcgghlaaDoor
