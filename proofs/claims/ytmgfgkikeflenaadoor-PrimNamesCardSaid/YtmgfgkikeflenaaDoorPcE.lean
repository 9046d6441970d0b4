/- Names that the table does not have: prim.Apply, Simple, Takes, Strict; and the document's. -/
import Derived.Test.YtmgfgkikeflenaaDoorPcD
namespace Go.Proofs.YtmgfgkikeflenaaDoor
open Go.RowKit Go.Shelf
open Ev (AV Mem AObj V VL MR BinF table table_ok alookup)
set_option linter.unusedSimpArgs false
set_option linter.unusedVariables false
set_option maxRecDepth 100000

namespace Tab
def isOther : AV → Bool
  | .str l => (List.range 24).any fun k => decide (l = nameN k)
  | _ => false
def keysO : List (AV × AV) → Bool
  | [] => true
  | e :: es => isOther e.1 && keysO es
def keysM : List (AV × AV × Nat) → Bool
  | [] => true
  | e :: es => isOther e.1 && keysM es
noncomputable def oneO : AV × Mem → Bool
  | (.map b, M) => match M.get b with
    | some (.umap es) => keysO es
    | some (.map es _) => keysM es
    | _ => false
  | _ => false
noncomputable def allO : List (AV × Mem) → Bool
  | [] => true
  | r :: l => oneO r && allO l
noncomputable def ansO : Option (List (AV × Mem)) → Bool
  | some l => allO l
  | none => false
set_option maxRecDepth 1000000 in
theorem runsO : ansO (Ev.calls Tryd.prog Ev.noFacts 100000 60 27 [] Mem.start) = true := by kernel_rfl
theorem allO_mem : ∀ {l : List (AV × Mem)}, allO l = true → ∀ r ∈ l, oneO r = true
  | [], _, r, hr => by cases hr
  | q :: l, h, r, hr => by
    rw [allO, Bool.and_eq_true] at h
    rcases List.mem_cons.1 hr with rfl | hr
    · exact h.1
    · exact allO_mem h.2 r hr
theorem oneO_inv {v : AV} {M : Mem} (h : oneO (v, M) = true) : ∃ b, v = .map b ∧ ((∃ es, M.get b = some (.umap es) ∧ keysO es = true) ∨ ∃ es ck, M.get b = some (.map es ck) ∧ keysM es = true) := by
  cases v <;> first | (simp only [oneO] at h; cases h; done) | skip
  rename_i b
  simp only [oneO] at h
  split at h
  · rename_i es e
    exact ⟨b, rfl, .inl ⟨es, e, h⟩⟩
  · rename_i es ck e
    exact ⟨b, rfl, .inr ⟨es, ck, e, h⟩⟩
  · cases h
theorem isOther_inv {a : AV} (h : isOther a = true) : ∃ k, k < 24 ∧ a = .str (nameN k) := by
  cases a <;> first | (simp only [isOther] at h; cases h; done) | skip
  rename_i l
  simp only [isOther] at h
  rw [List.any_eq_true] at h
  obtain ⟨k, hk, hd⟩ := h
  exact ⟨k, List.mem_range.1 hk, by rw [of_decide_eq_true hd]⟩
theorem keysM_at : ∀ {es : List (AV × AV × Nat)} {ms : List MapEntry} {ν : Nat → Value} {E : Ev.Env}, keysM es = true → Ev.ME ν E es ms → ∀ m ∈ ms, ∃ k, k < 24 ∧ m.key = .string (Ev.bytes (nameN k))
  | [], ms, ν, E, _, hm, m, hmm => by simp only [Ev.ME] at hm; subst hm; cases hmm
  | e :: es, ms, ν, E, h, hm, m, hmm => by
    rw [keysM, Bool.and_eq_true] at h
    simp only [Ev.ME] at hm
    obtain ⟨m', ms', rfl, h1, _, _, h4⟩ := hm
    rcases List.mem_cons.1 hmm with rfl | hmm
    · obtain ⟨k, hk, ek⟩ := isOther_inv h.1
      rw [ek] at h1
      simp only [V] at h1
      exact ⟨k, hk, h1.1⟩
    · exact keysM_at h.2 h4 m hmm
theorem keysO_at : ∀ {es : List (AV × AV)}, keysO es = true → ∀ e ∈ es, ∃ k, k < 24 ∧ e.1 = .str (nameN k)
  | [], _, e, he => by cases he
  | q :: es, h, e, he => by
    rw [keysO, Bool.and_eq_true] at h
    rcases List.mem_cons.1 he with rfl | he
    · exact isOther_inv h.1
    · exact keysO_at h.2 e he
end Tab
theorem others_any (s : ByteArray) (hs : ∀ k, k < 24 → s ≠ nameB k) (w : World) : Calls Tryd.prog 27 #[] w fun e w' => ∃ b, e = .returned (.map (some b)) ∧ Below w.heap.size w w' ∧
    (Instr.lookup 53 (.map (some b)) (.string s) true).run Tryd.prog w' = .ok (.tuple #[.int .i64 0, .bool false]) w' := by
  have h := Tab.runsO
  cases e : Ev.calls Tryd.prog Ev.noFacts 100000 60 27 [] Mem.start with
  | none => rw [e] at h; cases h
  | some l =>
    rw [e] at h
    have hall := Tab.allO_mem (show Tab.allO l = true from h)
    refine Calls.mono (Ev.calls_ok (ν := fun _ => undef) mix 100000 60 _ _ 27 [] Mem.start l e rfl (fun _ => none) #[] w (by simp only [VL]) (MR.start w)) fun e w' he => ?_
    obtain ⟨⟨v, M⟩, hr, E', x, _, rfl, hx, hM, _⟩ := he
    obtain ⟨b, rfl, hmap⟩ := Tab.oneO_inv (hall _ hr)
    simp only [V] at hx
    obtain ⟨q, hq, rfl⟩ := hx
    refine ⟨q.1, rfl, hM.low, ?_⟩
    obtain ⟨ms, ck, h1, hkey⟩ : ∃ ms ck, w'.heap[q.1]? = some (.map ms ck) ∧ ∀ m ∈ ms.toList, ∃ k, k < 24 ∧ m.key = .string (Ev.bytes (nameN k)) := by
      rcases hmap with ⟨es, hg, hk⟩ | ⟨es, ck, hg, hk⟩
      · obtain ⟨p, hp, ho⟩ := hM.obj b _ hg
        rw [hq] at hp
        obtain rfl := Option.some.inj hp
        obtain ⟨ms, ck, h1, h2, _⟩ := ho
        refine ⟨ms, ck, h1, fun m hm => ?_⟩
        obtain ⟨e, he, hke, _⟩ := h2.1 m hm
        obtain ⟨k, hk15, ek⟩ := Tab.keysO_at hk e he
        rw [ek] at hke
        simp only [V] at hke
        exact ⟨k, hk15, hke.1⟩
      · obtain ⟨p, hp, ho⟩ := hM.obj b _ hg
        rw [hq] at hp
        obtain rfl := Option.some.inj hp
        obtain ⟨ms, h1, h2⟩ := ho
        exact ⟨ms, ck, h1, Tab.keysM_at hk h2⟩
    have hn : Instr.findNow .string (.string s) ms.toList 0 = some none := Ev.findNow_none fun m hm => by
      obtain ⟨k, hk15, ek⟩ := hkey m hm
      rw [ek, same_str]
      have : ¬ s = Ev.bytes (nameN k) := hs k hk15
      rw [decide_eq_false this]
    simp only [Instr.lookup, Sem.run_bind, run_underlying Tryd.underlying53, Result.andThen_ok, Ev.run_getMap h1, Sem.run_pure, Ev.run_checkKey keyS]
    simp [Ev.run_findKey keyS hn, Tryd.zeroValue3]

theorem noT (s : ByteArray) (hs : ∀ k, k < 15 → s ≠ nameB k) (w : World) : Calls Tryd.prog 25 #[] w fun e w' => ∃ b, e = .returned (.map (some b)) ∧ Below w.heap.size w w' ∧ (Instr.lookup 46 (.map (some b)) (.string s) true).run Tryd.prog w' = .ok (.tuple #[.agg #[.slice none 0 0, .nilFunc], .bool false]) w' ∧ (Instr.lookup 46 (.map (some b)) (.string s) false).run Tryd.prog w' = .ok (.agg #[.slice none 0 0, .nilFunc]) w' :=
  (table_any w).mono (by
    rintro e w' ⟨b, he, hb, _, h2⟩
    exact ⟨b, he, hb, h2 s hs⟩)
theorem store_nilfn (W : World) (x : Value) (t : TypeId) : (Go.store ⟨W.heap.size, 1, none⟩ .nilFunc).run Tryd.prog (W.alloc (.cells #[x, .nilFunc] t)) = .ok () (W.alloc (.cells #[x, .nilFunc] t)) := by
  have h := run_store Tryd.prog (W.alloc (.cells #[x, .nilFunc] t)) ⟨W.heap.size, 1, none⟩ .nilFunc .plain rfl
  have B := Blk.new W #[x, .nilFunc] t
  have c := B.cell 1
  simp only [List.getElem?_toArray, List.getElem?_cons_zero, List.getElem?_cons_succ] at c
  rw [c, B.free 1] at h
  simp only [Bool.false_eq_true, if_false] at h
  refine h.trans ?_
  rw [World.setCell_alloc_at _ _ _ _ _ rfl]
  simp

set_option maxRecDepth 1000000 in
theorem fld_none (W : World) : (Instr.field 50 (.agg #[.slice none 0 0, .nilFunc]) 0).run Tryd.prog W = .ok (.slice none 0 0) W := by
  obtain ⟨y, h1, h2⟩ := Ev.afield_ok (P := Tryd.prog) (ν := ν0) (E := fun _ => none) (t := 50) (v := .agg [.nslice, .nfn]) (x := .agg #[.slice none 0 0, .nilFunc]) (f := 0) (by simp only [V, VL]; exact ⟨_, rfl, _, _, rfl, rfl, _, _, rfl, rfl, rfl⟩) (r := .nslice) (by kernel_rfl)
  simp only [V] at h2
  rw [h1 W, h2]

set_option maxRecDepth 100000 in
set_option maxHeartbeats 8000000 in
theorem apply_none (s : ByteArray) (hs : ∀ k, k < 15 → s ≠ nameB k) (v : Value) (ps : List PT) (w : World) (h : PRd w v ps) :
    Calls Tryd.prog 8 #[.string s, v] w fun e w' => e = .returned (.tuple #[pV 0 0 [], .int .i64 2]) ∧ Below w.heap.size w w' := by
  obtain ⟨a, cap, rfl, _⟩ := h
  have B0 := Blk.new w zeroP 26
  have l0 : Below w.heap.size w (w.alloc (.cells zeroP 26)) := (Below.refl _ w).alloc (Nat.le_refl _) _
  have HT := Lib.hid (fun w => noT s hs w)
  clear hs
  go_enter Tryd.func8, Tryd.ntmps8
  go_wp2_with (go_at_call 25; refine (HT.out _).mono ?_; rintro e w1 ⟨b, rfl, b1, hlk, _⟩; have hst := store_nilfn w1 (.slice none 0 0) 50; have hR := (B0.below b1 B0.lt).alloc (.cells #[.slice none 0 0, .nilFunc] 50); have hB1 := (chain l0 b1).alloc (chain l0 b1).size (.cells #[.slice none 0 0, .nilFunc] 50); have c0 := hR.cell 0; have c1 := hR.cell 1; have c2 := hR.cell 2; have g := hR.free; simp only [zeroP, List.getElem?_toArray, List.getElem?_cons_zero, List.getElem?_cons_succ] at c0 c1 c2)
  have hR2 := stored hR 0 0 ⟨#[]⟩
  have hb := stored_below hB1 (Nat.le_refl _) (.int .i64 0) (.int .i64 0) (.string ⟨#[]⟩)
  generalize (((w1.alloc (.cells #[.slice none 0 0, .nilFunc] 50)).setCell ⟨w.heap.size, 0, none⟩ (.int .i64 0)).setCell ⟨w.heap.size, 1, none⟩ (.int .i64 0)).setCell ⟨w.heap.size, 2, none⟩ (.string ⟨#[]⟩) = W2 at hR2 hb ⊢
  have f0 := hR2.cell 0
  have f1 := hR2.cell 1
  have f2 := hR2.cell 2
  simp only [List.getElem?_toArray, List.getElem?_cons_zero, List.getElem?_cons_succ] at f0 f1 f2
  refine bodyPost_ret (v := .tuple #[.agg #[.int .i64 0, .int .i64 0, .string ⟨#[]⟩], .int .i64 2]) (by simp [results, Tryd.results8, go_sem, f0, f1, f2]) rfl ?_
  exact ⟨rfl, hb⟩
set_option maxRecDepth 100000 in
set_option maxHeartbeats 8000000 in
theorem simple_none (s : ByteArray) (hs : ∀ k, k < 15 → s ≠ nameB k) (w : World) :
    Calls Tryd.prog 13 #[.string s] w fun e w' => e = .returned (.bool false) ∧ Below w.heap.size w w' := by
  have HT := Lib.hid (fun w => noT s hs w)
  clear hs
  go_enter Tryd.func13, Tryd.ntmps13
  go_wp2_with (go_at_call 25; refine (HT.out _).mono ?_; rintro e w1 ⟨b, rfl, b1, hlk, _⟩; have hst := store_nilfn w1 (.slice none 0 0) 50)
  go_ret
  exact ⟨rfl, b1.alloc b1.size _⟩
set_option maxRecDepth 100000 in
set_option maxHeartbeats 8000000 in
theorem strict_none (s : ByteArray) (hs : ∀ k, k < 24 → s ≠ nameB k) (w : World) :
    Calls Tryd.prog 10 #[.string s] w fun e w' => e = .returned (.int .i64 (-1)) ∧ Below w.heap.size w w' := by
  have HT := Lib.hid (fun w => noT s (fun k hk => hs k (by omega)) w)
  have HO := Lib.hid (fun w => others_any s hs w)
  clear hs
  go_enter Tryd.func10, Tryd.ntmps10
  go_wp2_with (first | (go_at_call 25; refine (HT.out _).mono ?_; rintro e w1 ⟨b, rfl, b1, hlk, _⟩; have hst := store_nilfn w1 (.slice none 0 0) 50; have hB1 := b1.alloc b1.size (.cells #[.slice none 0 0, .nilFunc] 50)) | (go_at_call 27; refine (HO.out _).mono ?_; rintro e w2 ⟨b', rfl, b2, hlk2⟩))
  go_ret
  exact ⟨rfl, chain hB1 b2⟩
set_option maxRecDepth 100000 in
set_option maxHeartbeats 8000000 in
theorem takes_none (s : ByteArray) (hs : ∀ k, k < 15 → s ≠ nameB k) (i : Int) (w : World) :
    Calls Tryd.prog 16 #[.string s, .int .i64 i] w fun e w' => e = .returned (.int .i64 0) ∧ Below w.heap.size w w' := by
  have HT := Lib.hid (fun w => noT s hs w)
  have hi : decide (i < 0) = true ∨ (decide (i < 0) = false ∧ decide (0 ≤ i) = true) := by
    by_cases h : i < 0
    · exact .inl (decide_eq_true h)
    · exact .inr ⟨decide_eq_false h, decide_eq_true (by omega)⟩
  have hf := fun W => fld_none W
  clear hs
  rcases hi with h1 | ⟨h1, h2⟩
  all_goals
    go_enter Tryd.func16, Tryd.ntmps16
    go_wp2_with (go_at_call 25; refine (HT.out _).mono ?_; rintro e w1 ⟨b, rfl, b1, _, hlk⟩)
    go_ret
    exact ⟨rfl, b1⟩

/-! ## The document's, at a name that nobody knows -/
def noBins : Nat → List BinF
  | 0 => []
  | n + 1 => ⟨.eql, .opq 0, .str (nameN n), .bool false⟩ :: noBins n
def Φno : Ev.Facts := table (noBins 24) []
theorem str_ok {P : Program} {ν : Nat → Value} {i : Nat} {s : ByteArray} {l : List Nat} (hi : ν i = .string s) (h : s ≠ Ev.bytes l) : (⟨.eql, .opq i, .str l, .bool false⟩ : BinF).Ok P ν := by
  refine ⟨fun {E t xo yo x y} hx hy => ?_⟩
  simp only [V] at hx hy
  obtain ⟨rfl, _⟩ := hx
  obtain ⟨rfl, _⟩ := hy
  rw [hi]
  refine ⟨.bool false, fun w => ?_, by simp only [V]⟩
  have hg := fun w => Ev.run_eqGuard (P := P) .eql t xo yo (.string s) (.string (Ev.bytes l)) (by simp) (by simp) w
  have hne : (s.toList == (Ev.bytes l).toList) = false := by
    rw [beq_eq_false_iff_ne]
    intro e
    apply h
    have h1 : s.data.toList = (Ev.bytes l).data.toList := by rw [← ByteArray.toList_eq, ← ByteArray.toList_eq]; exact e
    cases s with | mk a => cases hb : Ev.bytes l with | mk c => rw [hb] at h1; congr 1; exact Array.ext' h1
  simp only [Sem.run_bind, hg, Result.andThen_ok]
  simp [binOp, Op.stringOp, hne]
theorem no_ok (s : ByteArray) (hs : ∀ k, k < 24 → s ≠ nameB k) (ν : Nat → Value) (h0 : ν 0 = .string s) : Ev.FactsOk Tryd.prog ν Φno := by
  refine table_ok (fun f hf => ?_) (fun f hf => by cases hf)
  have key : ∀ n, n ≤ 24 → ∀ f ∈ noBins n, f.Ok Tryd.prog ν := by
    intro n
    induction n with
    | zero => intro _ f hf; cases hf
    | succ n ih =>
      intro hn f hf
      rcases List.mem_cons.1 hf with rfl | hf
      · exact str_ok h0 (hs n (by omega))
      · exact ih (by omega) f hf
  exact key 24 (Nat.le_refl _) f hf
set_option maxRecDepth 1000000 in
theorem rSimple_runsN : ansV (.bool false) (Ev.calls Tryd.prog Φno 100000 60 14 [.opq 0] Mem.start) = true := by kernel_rfl
set_option maxRecDepth 1000000 in
theorem rStrict_runsN : ansV (.int .i64 (-1)) (Ev.calls Tryd.prog Φno 100000 60 15 [.opq 0] Mem.start) = true := by kernel_rfl
set_option maxRecDepth 1000000 in
theorem rTakes_runsN : ansV (.int .i64 0) (Ev.calls Tryd.prog Φno 100000 60 17 [.opq 0, .opq 1] Mem.start) = true := by kernel_rfl
theorem rSimple_none (s : ByteArray) (hs : ∀ k, k < 24 → s ≠ nameB k) (w : World) : Calls Tryd.prog 14 #[.string s] w fun e w' => e = .returned (.bool false) ∧ Below w.heap.size w w' := by
  haveI := no_ok s hs (fun _ => .string s) rfl
  exact valued (ν := fun _ => .string s) rSimple_runsN (vl_opq _ 0 rfl rfl (vl_nil _)) is_bool w
theorem rStrict_none (s : ByteArray) (hs : ∀ k, k < 24 → s ≠ nameB k) (w : World) : Calls Tryd.prog 15 #[.string s] w fun e w' => e = .returned (.int .i64 (-1)) ∧ Below w.heap.size w w' := by
  haveI := no_ok s hs (fun _ => .string s) rfl
  exact valued (ν := fun _ => .string s) rStrict_runsN (vl_opq _ 0 rfl rfl (vl_nil _)) is_int w
theorem rTakes_none (s : ByteArray) (hs : ∀ k, k < 24 → s ≠ nameB k) (i : Int) (w : World) : Calls Tryd.prog 17 #[.string s, .int .i64 i] w fun e w' => e = .returned (.int .i64 0) ∧ Below w.heap.size w w' := by
  haveI := no_ok s hs (fun n => match n with | 0 => .string s | _ => .int .i64 i) rfl
  exact valued (ν := fun n => match n with | 0 => .string s | _ => .int .i64 i) rTakes_runsN (vl_opq _ 0 rfl rfl (vl_opq _ 1 rfl rfl (vl_nil _))) is_int w
end Go.Proofs.YtmgfgkikeflenaaDoor
