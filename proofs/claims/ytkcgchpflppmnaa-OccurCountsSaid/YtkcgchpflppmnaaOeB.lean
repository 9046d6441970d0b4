/- Occurrence, count and freedom: the plain law. core: a let's names, whether an expression fits, scopes. -/
import Derived.Test.YtkcgchpflppmnaaOdE
namespace Go.Proofs.Ytkcgchpflppmnaa
open Go.RowKit
set_option linter.unusedSimpArgs false
set_option linter.unusedVariables false

/-- At how many places a name stands. -/
def cN (s : ByteArray) : (d : Nat) → Ex d → Nat
  | 0, e => nomatch (e : Empty)
  | d + 1, (e : ExN (Ex d)) => if hidesK e s then 0 else
      (if e.kind = 1 ∧ e.name = s then 1 else 0) + (e.binds.map fun x => cN s d x.2).sum + (e.args.map (cN s d)).sum + (e.alts.map fun x => if s ∈ x.vars then 0 else cN s d x.e).sum
theorem cN_succ (s : ByteArray) (d : Nat) (e : ExN (Ex d)) : cN s (d + 1) e = if hidesK e s then 0 else
      (if e.kind = 1 ∧ e.name = s then 1 else 0) + (e.binds.map fun x => cN s d x.2).sum + (e.args.map (cN s d)).sum + (e.alts.map fun x => if s ∈ x.vars then 0 else cN s d x.e).sum := rfl
theorem sum_le {β : Type} {f g : β → Nat} : ∀ {l : List β}, (∀ x ∈ l, f x ≤ g x) → (l.map f).sum ≤ (l.map g).sum
  | [], _ => by simp
  | x :: l, h => by
    have h1 := h x (List.mem_cons_self ..)
    have h2 := sum_le (fun y hy => h y (List.mem_cons_of_mem _ hy)) (l := l)
    simp only [List.map_cons, List.sum_cons]
    omega
theorem cN_le (s : ByteArray) : ∀ (d : Nat) (x : Ex d), cN s d x ≤ sizeK d x
  | 0, x => nomatch (x : Empty)
  | d + 1, (e : ExN (Ex d)) => by
    rw [cN_succ, size_succ]
    have h1 : (e.binds.map fun x => cN s d x.2).sum ≤ (e.binds.map fun x => sizeK d x.2).sum := sum_le fun x _ => cN_le s d x.2
    have h2 : (e.args.map (cN s d)).sum ≤ (e.args.map (sizeK d)).sum := sum_le fun x _ => cN_le s d x
    have h3 : (e.alts.map fun x => if s ∈ x.vars then 0 else cN s d x.e).sum ≤ (e.alts.map fun x => sizeK d x.e).sum := sum_le fun x _ => by
      have := cN_le s d x.e
      split <;> omega
    split
    · omega
    · split <;> omega
theorem addW_nat {a b : Nat} (h : a + b ≤ 1000000) : addW (a : Int) (b : Int) = ((a + b : Nat) : Int) := by
  unfold addW
  rw [IntWalk.wrap64_in _ ⟨by omega, by omega⟩]
  omega
theorem fold_sum {β : Type} (r : β → Int) (f : β → Nat) : ∀ (l : List β) (o : Nat), (∀ x ∈ l, r x = (f x : Int)) → o + (l.map f).sum ≤ 1000000 → l.foldl (fun o x => addW o (r x)) (o : Int) = ((o + (l.map f).sum : Nat) : Int)
  | [], o, _, _ => by simp
  | x :: l, o, h, hl => by
    simp only [List.map_cons, List.sum_cons] at hl ⊢
    rw [List.foldl_cons, h x (List.mem_cons_self ..), addW_nat (by omega), fold_sum r f l (o + f x) (fun y hy => h y (List.mem_cons_of_mem _ hy)) (by omega)]
    congr 1
    omega
theorem fold_alt (s : ByteArray) (d : Nat) : ∀ (l : List (AltN (Ex d))) (o : Nat), (∀ x ∈ l, cntK s d x.e = (cN s d x.e : Int)) → o + (l.map fun x => if s ∈ x.vars then 0 else cN s d x.e).sum ≤ 1000000 →
    l.foldl (fun o x => if s ∈ x.vars then o else addW o (cntK s d x.e)) (o : Int) = ((o + (l.map fun x => if s ∈ x.vars then 0 else cN s d x.e).sum : Nat) : Int)
  | [], o, _, _ => by simp
  | x :: l, o, h, hl => by
    simp only [List.map_cons, List.sum_cons] at hl ⊢
    rw [List.foldl_cons]
    by_cases hv : s ∈ x.vars
    · rw [if_pos hv] at hl
      rw [if_pos hv, if_pos hv, fold_alt s d l o (fun y hy => h y (List.mem_cons_of_mem _ hy)) (by omega)]
      congr 1
      omega
    · rw [if_neg hv] at hl
      rw [if_neg hv, if_neg hv, h x (List.mem_cons_self ..), addW_nat (by omega), fold_alt s d l _ (fun y hy => h y (List.mem_cons_of_mem _ hy)) (by omega)]
      congr 1
      omega
/-- The program's count, wrapped as it is taken, is that number. -/
theorem cnt_is (s : ByteArray) : ∀ (d : Nat) (x : Ex d), sizeK d x ≤ 4096 → cntK s d x = (cN s d x : Int)
  | 0, x, _ => nomatch (x : Empty)
  | d + 1, (e : ExN (Ex d)), hz => by
    rw [size_succ] at hz
    have b1 : ∀ x ∈ e.binds, sizeK d x.2 ≤ 4096 := fun x hx => by have := le_sum (fun x : ByteArray × Ex d => sizeK d x.2) hx; omega
    have b2 : ∀ x ∈ e.args, sizeK d x ≤ 4096 := fun x hx => by have := le_sum (sizeK d) hx; omega
    have b3 : ∀ x ∈ e.alts, sizeK d x.e ≤ 4096 := fun x hx => by have := le_sum (fun x : AltN (Ex d) => sizeK d x.e) hx; omega
    have s1 : (e.binds.map fun x => cN s d x.2).sum ≤ (e.binds.map fun x => sizeK d x.2).sum := sum_le fun x _ => cN_le s d x.2
    have s2 : (e.args.map (cN s d)).sum ≤ (e.args.map (sizeK d)).sum := sum_le fun x _ => cN_le s d x
    have s3 : (e.alts.map fun x => if s ∈ x.vars then 0 else cN s d x.e).sum ≤ (e.alts.map fun x => sizeK d x.e).sum := sum_le fun x _ => by
      have := cN_le s d x.e
      split <;> omega
    rw [cN_succ]
    show (if hidesK e s = true then (0 : Int) else cntIn (cntK s d) e s) = _
    split
    · rfl
    · unfold cntIn
      have h0 : (if e.kind = 1 ∧ e.name = s then (1 : Int) else 0) = (((if e.kind = 1 ∧ e.name = s then 1 else 0) : Nat) : Int) := by split <;> rfl
      have hk : (if e.kind = 1 ∧ e.name = s then 1 else 0 : Nat) ≤ 1 := by split <;> omega
      rw [h0, fold_sum (fun x => cntK s d x.2) (fun x => cN s d x.2) e.binds _ (fun x hx => cnt_is s d x.2 (b1 x hx)) (by omega),
        fold_sum (cntK s d) (cN s d) e.args _ (fun x hx => cnt_is s d x (b2 x hx)) (by omega)]
      exact fold_alt s d e.alts _ (fun x hx => cnt_is s d x.e (b3 x hx)) (by omega)
/-- An occurrence fits a count. -/
def Rel (o : Int) (n : Nat) : Prop := (o = 1 ∧ n = 0) ∨ (o = 2 ∧ n = 1) ∨ (o = 4 ∧ n = 1) ∨ (o = 3 ∧ 2 ≤ n) ∨ (o = 5 ∧ 2 ≤ n)
theorem Rel.both {a b : Int} {m n : Nat} (h : Rel a m) (k : Rel b n) : Rel (bothK a b) (m + n) := by
  unfold Rel bothK at *
  split
  · omega
  · split <;> omega
theorem Rel.either {a b : Int} {m n : Nat} (h : Rel a m) (k : Rel b n) : Rel (eitherK a b) (m + n) := by
  unfold eitherK
  split
  · exact h.both k
  · unfold Rel at *
    split <;> omega
theorem Rel.within {a : Int} {m : Nat} (h : Rel a m) : Rel (withinK a) m := by
  unfold Rel withinK at *
  split
  · omega
  · split <;> omega
theorem rel_fold {β : Type} (r : β → Int) (f : β → Nat) : ∀ (l : List β) (o : Int) (n : Nat), Rel o n → (∀ x ∈ l, Rel (r x) (f x)) → Rel (l.foldl (fun o x => bothK o (r x)) o) (n + (l.map f).sum)
  | [], o, n, h, _ => by simpa using h
  | x :: l, o, n, h, hx => by
    simp only [List.foldl_cons, List.map_cons, List.sum_cons]
    rw [← Nat.add_assoc]
    exact rel_fold r f l _ _ (h.both (hx x (List.mem_cons_self ..))) (fun y hy => hx y (List.mem_cons_of_mem _ hy))
theorem rel_alts (s : ByteArray) {α : Type} (r : α → Int) (f : α → Nat) : ∀ (l : List (AltN α)) (o : Int) (n : Nat), Rel o n → (∀ x ∈ l, Rel (r x.e) (f x.e)) → Rel (l.foldl (fun o x => if s ∈ x.vars then o else eitherK o (r x.e)) o) (n + (l.map fun x => if s ∈ x.vars then 0 else f x.e).sum)
  | [], o, n, h, _ => by simpa using h
  | x :: l, o, n, h, hx => by
    simp only [List.foldl_cons, List.map_cons, List.sum_cons]
    rw [← Nat.add_assoc]
    refine rel_alts s r f l _ _ ?_ (fun y hy => hx y (List.mem_cons_of_mem _ hy))
    split
    · exact h
    · exact h.either (hx x (List.mem_cons_self ..))
/-- Whatever an expression is, the occurrence of a name fits its count. -/
theorem of_rel (s : ByteArray) : ∀ (d : Nat) (x : Ex d), Rel (ofK 1 5 s d x) (cN s d x)
  | 0, x => nomatch (x : Empty)
  | d + 1, (e : ExN (Ex d)) => by
    rw [cN_succ]
    show Rel (if hidesK e s then 1 else insideK (ofK 1 5 s d) 1 5 e s) _
    split
    · exact .inl ⟨rfl, rfl⟩
    · have h0 : Rel (if e.kind = 1 ∧ e.name = s then 2 else 1) (if e.kind = 1 ∧ e.name = s then 1 else 0) := by
        split
        · exact .inr (.inl ⟨rfl, rfl⟩)
        · exact .inl ⟨rfl, rfl⟩
      have h1 := rel_fold (fun x : ByteArray × Ex d => ofK 1 5 s d x.2) (fun x => cN s d x.2) e.binds _ _ h0 (fun x _ => of_rel s d x.2)
      have h2 := rel_fold (ofK 1 5 s d) (cN s d) e.args _ _ h1 (fun x _ => of_rel s d x)
      have h3 := rel_alts s (ofK 1 5 s d) (cN s d) e.alts 1 0 (.inl ⟨rfl, rfl⟩) (fun x _ => of_rel s d x.e)
      have h4 := h2.both h3
      rw [Nat.zero_add] at h4
      unfold insideK
      split
      · exact h4.within
      · exact h4
/-- What is free stands somewhere. -/
theorem cN_pos (s : ByteArray) (d : Nat) (e : ExN (Ex d)) : 0 < cN s (d + 1) e ↔ hidesK e s = false ∧ ((e.kind = 1 ∧ e.name = s) ∨ (∃ x ∈ e.binds, 0 < cN s d x.2) ∨ (∃ x ∈ e.args, 0 < cN s d x) ∨ (∃ x ∈ e.alts, s ∉ x.vars ∧ 0 < cN s d x.e)) := by
  have hsum : ∀ {β : Type} (f : β → Nat) (l : List β), 0 < (l.map f).sum ↔ ∃ x ∈ l, 0 < f x := by
    intro β f l
    induction l with
    | nil => simp
    | cons x l ih =>
      simp only [List.map_cons, List.sum_cons, List.mem_cons, exists_eq_or_imp]
      rw [← ih]
      omega
  rw [cN_succ]
  cases hh : hidesK e s with
  | true => simp
  | false =>
    simp only [Bool.false_eq_true, if_false, true_and]
    have a1 := hsum (fun x : ByteArray × Ex d => cN s d x.2) e.binds
    have a2 := hsum (cN s d) e.args
    have a3 := hsum (fun x : AltN (Ex d) => if s ∈ x.vars then 0 else cN s d x.e) e.alts
    have a4 : (∃ x ∈ e.alts, 0 < (if s ∈ x.vars then 0 else cN s d x.e)) ↔ ∃ x ∈ e.alts, s ∉ x.vars ∧ 0 < cN s d x.e := by
      refine exists_congr fun x => and_congr_right fun _ => ?_
      split
      · next h => simp [h]
      · next h => simp [h]
    rw [← a1, ← a2, ← a4, ← a3]
    split
    · next h => simp [h]; omega
    · next h => simp [h]; omega
end Go.Proofs.Ytkcgchpflppmnaa

namespace Go.Proofs.Ytkcgchpflppmnaa
open Go.RowKit
set_option linter.unusedSimpArgs false
set_option linter.unusedVariables false
set_option maxRecDepth 100000 in
set_option maxHeartbeats 8000000 in
theorem cbinds_any (v : Value) (l : List ByteArray) (w : World) (h : BNs w v l) (hn : l.length ≤ 10000000) :
    Calls Try.prog 37 #[v] w fun e w' => ∃ v', e = .returned v' ∧ SOwn w' w.heap.size v' l ∧ Below w.heap.size w w' := by
  obtain ⟨a, ca, rfl, ha⟩ := h
  obtain ⟨N, hN⟩ : ∃ N, l.length = N := ⟨_, rfl⟩
  have HN := Lib.hid hN
  rw [hN] at hn ⊢
  have Ha := Lib.hid ha
  obtain ⟨i0, hi, hz0, hz1, hz2⟩ := info_parts infoS
  clear ha hN
  go_enter Try.func37, Try.ntmps37
  go_wp2
  go_loopw [3, 5, 8] (fun v _ i wr => ∃ k : Nat, i = .int .i64 k ∧ k ≤ N ∧ Hid (SOwn wr w.heap.size v (l.take k)) ∧ Below w.heap.size w wr) (fun _ _ i _ => N - (intOf i).toNat)
  case atStart => exact ⟨0, rfl, Nat.zero_le _, Lib.hid (World.ownsRow_nil _ _ _ _), Below.refl _ _⟩
  case round =>
    obtain ⟨k, rfl, hk, HO, hB⟩ := hrel
    by_cases hlt : k < N
    · have hlt2 : decide ((k : Int) < (N : Int)) = true := by simp; omega
      have hlt3 : decide (k < N) = true := by simp; omega
      have hkt : k < l.length := by rw [HN.out]; exact hlt
      obtain ⟨p, o, rfl, hp, hat⟩ := Ha.out (by omega)
      obtain ⟨x, hx⟩ : ∃ x, l[k]? = some x := ⟨_, List.getElem?_eq_getElem hkt⟩
      obtain ⟨y1, y3, y2, q4, q5, q6, q7, a4, b4, a5, b5, a6, b6, a7, b7, hcs⟩ := hat k x hx
      have c0 := (hB.cell (p := ⟨p, o + k * 8 + 0, none⟩) hp).trans (hcs 0 _ rfl)
      have c1 := (hB.cell (p := ⟨p, o + k * 8 + 1, none⟩) hp).trans (hcs 1 _ rfl)
      have c2 := (hB.cell (p := ⟨p, o + k * 8 + 2, none⟩) hp).trans (hcs 2 _ rfl)
      have c3 := (hB.cell (p := ⟨p, o + k * 8 + 3, none⟩) hp).trans (hcs 3 _ rfl)
      have c4 := (hB.cell (p := ⟨p, o + k * 8 + 4, none⟩) hp).trans (hcs 4 _ rfl)
      have c5 := (hB.cell (p := ⟨p, o + k * 8 + 5, none⟩) hp).trans (hcs 5 _ rfl)
      have c6 := (hB.cell (p := ⟨p, o + k * 8 + 6, none⟩) hp).trans (hcs 6 _ rfl)
      have c7 := (hB.cell (p := ⟨p, o + k * 8 + 7, none⟩) hp).trans (hcs 7 _ rfl)
      rw [Nat.add_zero] at c0
      have hi0 : (0 : Int) ≤ (k : Int) := by omega
      have HX := Lib.hid hx
      have hlen : (l.take k).length = k := by rw [List.length_take, HN.out]; omega
      have HLen := Lib.hid hlen
      have hs := hB.size
      have HB := Lib.hid hB
      clear hat hx hcs hlen
      go_upto_region 5 with fail
      have R2 := Blk.new wr #[.string x, .int .i64 y1, .string y2, .int .i64 y3, .slice q4 a4 b4, .slice q5 a5 b5, .slice q6 a6 b6, .slice q7 a7 b7] 56
      have B2 := hB.alloc hs (.cells #[.string x, .int .i64 y1, .string y2, .int .i64 y3, .slice q4 a4 b4, .slice q5 a5 b5, .slice q6 a6 b6, .slice q7 a7 b7] 56)
      have O2 := Lib.hid (show SOwn (wr.alloc (.cells #[.string x, .int .i64 y1, .string y2, .int .i64 y3, .slice q4 a4 b4, .slice q5 a5 b5, .slice q6 a6 b6, .slice q7 a7 b7] 56)) w.heap.size _ (l.take k) from HO.out.alloc _)
      generalize wr.alloc (.cells #[.string x, .int .i64 y1, .string y2, .int .i64 y3, .slice q4 a4 b4, .slice q5 a5 b5, .slice q6 a6 b6, .slice q7 a7 b7] 56) = W2 at R2 B2 O2 ⊢
      generalize wr.heap.size = r2 at R2 ⊢
      have d0 := R2.cell 0
      simp only [List.getElem?_toArray, List.getElem?_cons_zero, List.getElem?_cons_succ] at d0
      have hs2 := B2.size
      have HB2 := Lib.hid B2
      clear R2 B2 c0 c1 c2 c3 c4 c5 c6 c7
      go_wp2_with (at_builtin; refine wpList_append_own _ rfl _ _ 24 rfl w.heap.size 9 i0 (.string ⟨#[]⟩) 1 16 Try.underlying24 hi hz0 hz1 hz2 rfl (by decide) _ (l.take k).length (strV (l.take k)) rfl (O2.out.alloc _) ⟨W2.heap.size, 0, none⟩ 1 1 [.string x] rfl rfl ?news (by intro u hu; simp at hu; subst hu; rfl) (by rw [HLen.out]; unfold maxLen; omega) (by rw [HLen.out]; omega) (by simp; omega) ?_)
      case news =>
        intro j u hj
        have := (Blk.new W2 #[.string x] 9).cell j
        rw [show (⟨W2.heap.size, 0, none⟩ : Addr).add j = ⟨W2.heap.size, j, none⟩ from by unfold Addr.add; split <;> simp_all]
        rw [this]
        simpa using hj
      intro v' w6 o6 g6 n6
      have e6 : l.take (k + 1) = l.take k ++ [x] := by rw [List.take_add_one, HX.out]; rfl
      have B6 : Below w.heap.size w w6 := (HB2.out.alloc hs2 _).grown g6 (by simp; omega) (fun i e => own_from O2.out i e)
      have HO6 := Lib.hid (show SOwn w6 w.heap.size v' (l.take (k + 1)) by
        unfold SOwn strV
        rw [e6, List.length_append, List.map_append, List.length_take]
        exact o6)
      clear o6 g6 n6 e6
      go_wp2
      go_roundw
      case rel => exact ⟨k + 1, by go_num, by omega, HO6, B6⟩
      case measure => simp [intOf]; omega
    · have hlt2 : decide ((k : Int) < (N : Int)) = false := by simp; omega
      have hlt3 : decide (k < N) = false := by simp; omega
      obtain rfl : k = N := by omega
      have HO := Lib.hid (show SOwn wr w.heap.size _ l by have := HO.out; rwa [take_all HN.out] at this)
      go_wp2
      go_ret
      exact ⟨_, rfl, HO.out, hB⟩
set_option maxRecDepth 100000 in
set_option maxHeartbeats 8000000 in
theorem fits_step (d : Nat) (v : Value) (e : ExN (Ex d)) (w : World) (h : ExIs w (d + 1) v e) (hs : Sm (d + 1) e) (hz : sizeK (d + 1) e ≤ 4096) :
    Calls Try.prog 34 #[v] w fun r w' => r = .returned (.bool true) ∧ Below w.heap.size w w' := by
  obtain ⟨l0, rfl, hp⟩ := h
  obtain ⟨pa, pb, pc, pd, pa2, pb2, pc2, pd2, rfl⟩ := parts_form hp
  have hx0 : ExIs w (d + 1) (.agg #[.int .i64 e.kind, .string e.name, .int .i64 e.num, .slice pa e.params.length pa2, .slice pb e.binds.length pb2, .slice pc e.args.length pc2, .slice pd e.alts.length pd2]) e := ⟨_, rfl, hp⟩
  have hbx : ExAt (w.alloc (.cells #[.int .i64 e.kind, .string e.name, .int .i64 e.num, .slice pa e.params.length pa2, .slice pb e.binds.length pb2, .slice pc e.args.length pc2, .slice pd e.alts.length pd2] 29)) (d + 1) w.heap.size 0 e := ExIs.boxed (t := 29) (d := d + 1) (W := w) (x := e) ⟨_, rfl, hp⟩
  have R0 := Blk.new w #[.int .i64 e.kind, .string e.name, .int .i64 e.num, .slice pa e.params.length pa2, .slice pb e.binds.length pb2, .slice pc e.args.length pc2, .slice pd e.alts.length pd2] 29
  have hB0 : Below w.heap.size w (w.alloc (.cells #[.int .i64 e.kind, .string e.name, .int .i64 e.num, .slice pa e.params.length pa2, .slice pb e.binds.length pb2, .slice pc e.args.length pc2, .slice pd e.alts.length pd2] 29)) := (Below.refl _ w).alloc (Nat.le_refl _) _
  have HX0 := Lib.hid hx0
  have HBX := Lib.hid hbx
  have HS := Lib.hid hs
  unfold exV
  clear hp hx0 hbx hs
  generalize e.kind = kd at R0 hB0 HX0 HBX ⊢
  generalize e.name = nm at R0 hB0 HX0 HBX ⊢
  generalize e.num = nu at R0 hB0 HX0 HBX ⊢
  generalize e.params.length = n3 at R0 hB0 HX0 HBX ⊢
  generalize e.binds.length = n4 at R0 hB0 HX0 HBX ⊢
  generalize e.args.length = n5 at R0 hB0 HX0 HBX ⊢
  generalize e.alts.length = n6 at R0 hB0 HX0 HBX ⊢
  go_enter Try.func34, Try.ntmps34
  go_upto_region 1 with fail
  generalize w.alloc (.cells #[.int .i64 kd, .string nm, .int .i64 nu, .slice pa n3 pa2, .slice pb n4 pb2, .slice pc n5 pc2, .slice pd n6 pd2] 29) = W0 at R0 hB0 HBX ⊢
  have HB0 := Lib.hid hB0
  have HR0 := Lib.hid R0
  generalize hbq : w.heap.size = b at R0 HBX HR0 ⊢
  have x0 : W0.cell? ⟨b, 0, none⟩ = _ := R0.cell 0
  have x1 : W0.cell? ⟨b, 1, none⟩ = _ := R0.cell 1
  have x2 : W0.cell? ⟨b, 2, none⟩ = _ := R0.cell 2
  have x3 : W0.cell? ⟨b, 3, none⟩ = _ := R0.cell 3
  have x4 : W0.cell? ⟨b, 4, none⟩ = _ := R0.cell 4
  have x5 : W0.cell? ⟨b, 5, none⟩ = _ := R0.cell 5
  have x6 : W0.cell? ⟨b, 6, none⟩ = _ := R0.cell 6
  simp only [List.getElem?_toArray, List.getElem?_cons_zero, List.getElem?_cons_succ] at x0 x1 x2 x3 x4 x5 x6
  have hb := R0.lt
  clear R0 hB0
  have s0 := HB0.out.size
  have KC0 := ccount_any (d + 1) e b 0 W0 (W0.alloc (.cells #[.int .i64 ((0 : Nat) : Int), .bool false] 85)) W0.heap.size 0 1 hb HBX.out ((Below.refl _ _).alloc (Nat.le_refl _) _) (Nat.le_refl _) (Blk.new _ _ _) HS.out (by omega) (by omega)
  rw [Nat.zero_add, show ((0 : Nat) : Int) = 0 from rfl, show ((1 : Nat) : Int) = 1 from rfl] at KC0
  have KC := Lib.hid KC0
  clear KC0
  go_wp2_with (go_at_call 51; refine KC.out.mono ?_; rintro r1 w1 ⟨rfl, q1, k1⟩; have z0 : w1.cell? ⟨W0.heap.size, 0, none⟩ = _ := q1.cell 0; simp only [List.getElem?_toArray, List.getElem?_cons_zero] at z0; have K1 := Lib.hid k1; clear q1 k1)
  go_ret
  exact ⟨rfl, HB0.out.trans (K1.out.mono (hbq ▸ s0))⟩
theorem fits_any : ∀ (d : Nat) (x : Ex d) (v : Value) (w : World), ExIs w d v x → Sm d x → sizeK d x ≤ 4096 → Calls Try.prog 34 #[v] w fun r w' => r = .returned (.bool true) ∧ Below w.heap.size w w'
  | 0, x, _, _, _, _, _ => nomatch (x : Empty)
  | d + 1, x, v, w, h, hs, hz => fits_step d v x w h hs hz

/-- A scope, and those outside. -/
def FrAt (W : World) : Value → List (List ByteArray) → Prop
  | v, [] => v = .pointer none
  | v, ns :: r => ∃ b vs vo, v = .pointer (some ⟨b, 0, none⟩) ∧ b < W.heap.size ∧ W.cell? ⟨b, 0, none⟩ = some vs ∧ W.cell? ⟨b, 1, none⟩ = some vo ∧ Txs W vs ns ∧ FrAt W vo r
theorem FrAt.below {W W' : World} (hb : Below W.heap.size W W') : ∀ (fs : List (List ByteArray)) (v : Value), FrAt W v fs → FrAt W' v fs
  | [], _, h => h
  | ns :: r, v, ⟨b, vs, vo, h1, h2, h3, h4, h5, h6⟩ => ⟨b, vs, vo, h1, Nat.lt_of_lt_of_le h2 hb.size, (hb.cell (p := ⟨b, 0, none⟩) h2).trans h3, (hb.cell (p := ⟨b, 1, none⟩) h2).trans h4, h5.below hb, FrAt.below hb r vo h6⟩
theorem FrAt.len {W : World} : ∀ (fs gs : List (List ByteArray)) (v : Value), FrAt W v fs → FrAt W v gs → fs.length = gs.length
  | [], [], _, _, _ => rfl
  | [], g :: gs, v, h, k => by
    obtain ⟨b, vs, vo, k1, -⟩ := k
    rw [show v = .pointer none from h] at k1; cases k1
  | f :: fs, [], v, h, k => by
    obtain ⟨b, vs, vo, k1, -⟩ := h
    rw [show v = .pointer none from k] at k1; cases k1
  | f :: fs, g :: gs, v, ⟨b, vs, vo, h1, h2, h3, h4, h5, h6⟩, ⟨b', vs', vo', k1, k2, k3, k4, k5, k6⟩ => by
    rw [h1] at k1
    obtain rfl : b = b' := by simpa using k1
    rw [h4] at k4
    obtain rfl := Option.some.inj k4
    have := FrAt.len fs gs vo h6 k6
    simp [this]
open Classical in
/-- How many scopes there are. -/
noncomputable def frLen (W : World) (v : Value) : Nat := if h : ∃ fs, FrAt W v fs then (Classical.choose h).length else 0
theorem frLen_of {W : World} {v : Value} {fs : List (List ByteArray)} (h : FrAt W v fs) : frLen W v = fs.length := by
  unfold frLen
  rw [dif_pos ⟨fs, h⟩]
  exact FrAt.len _ _ v (Classical.choose_spec (⟨fs, h⟩ : ∃ fs, FrAt W v fs)) h
/-- No list of names is longer than a bound. -/
def FrSm (fs : List (List ByteArray)) : Prop := ∀ ns ∈ fs, ns.length ≤ 10000000000000
set_option maxRecDepth 100000 in
set_option maxHeartbeats 8000000 in
theorem frHas_any (v : Value) (fs : List (List ByteArray)) (s : ByteArray) (w : World) (h : FrAt w v fs) (hn : FrSm fs) :
    Calls Try.prog 56 #[v, .string s] w fun e w' => e = .returned (.bool (fs.any fun ns => decide (s ∈ ns))) ∧ Below w.heap.size w w' := by
  have H0 := Lib.hid h
  have HN := Lib.hid hn
  have hsh : ∃ p, v = .pointer p := by
    rcases fs with _ | ⟨ns, r⟩
    · exact ⟨none, h⟩
    · obtain ⟨b, vs, vo, h1, -⟩ := h; exact ⟨_, h1⟩
  obtain ⟨p, rfl⟩ := hsh
  clear h hn
  go_enter Try.func56, Try.ntmps56
  go_wp2
  go_loopw [0] (fun o wr => ∃ gs : List (List ByteArray), Hid (FrAt wr o gs) ∧ Hid (FrSm gs) ∧ Hid ((fs.any fun ns => decide (s ∈ ns)) = gs.any fun ns => decide (s ∈ ns)) ∧ Below w.heap.size w wr) (fun o wr => frLen wr o)
  case atStart => exact ⟨fs, H0, HN, Lib.hid rfl, Below.refl _ _⟩
  case round =>
    obtain ⟨gs, HG, HM, HE, hB⟩ := hrel
    have HB := Lib.hid hB
    clear hB
    rcases gs with _ | ⟨ns, r⟩
    · obtain h0 := HG.out
      have h0 := show _ = Value.pointer none from h0
      subst h0
      go_wp2
      go_ret
      exact ⟨by rw [HE.out]; rfl, HB.out⟩
    · obtain ⟨b, vs, vo, h1, h2, h3, h4, h5, h6⟩ := HG.out
      subst h1
      obtain ⟨qa, qc, rfl, -⟩ := id h5
      have hvo : ∃ q, vo = .pointer q := by
        rcases r with _ | ⟨ns2, r2⟩
        · exact ⟨none, h6⟩
        · obtain ⟨b2, vs2, vo2, k1, -⟩ := h6; exact ⟨_, k1⟩
      obtain ⟨qo, rfl⟩ := hvo
      have KC := contains_any _ ns s wr h5 (HM.out ns (List.mem_cons_self ..))
      have H6 := Lib.hid h6
      have H4 := Lib.hid (And.intro h2 h4)
      have hlen := frLen_of HG.out
      have HL := Lib.hid hlen
      cases hm : decide (s ∈ ns) with
      | true =>
        rw [hm] at KC
        have HR := Lib.hid (show (fs.any fun ns => decide (s ∈ ns)) = true by rw [HE.out, List.any_cons, hm]; rfl)
        clear h5 h6 hlen hm
        go_wp2_with (go_at_call 48; refine KC.mono ?_; rintro r1 w1 ⟨rfl, b1⟩; have B1 := Lib.hid (chain HB.out b1); clear b1)
        go_ret
        exact ⟨by rw [HR.out]; rfl, B1.out⟩
      | false =>
        rw [hm] at KC
        have HR := Lib.hid (show (fs.any fun ns => decide (s ∈ ns)) = r.any fun ns => decide (s ∈ ns) by rw [HE.out, List.any_cons, hm]; rfl)
        clear h5 h6 hlen hm
        go_wp2_with (go_at_call 48; refine KC.mono ?_; rintro r1 w1 ⟨rfl, b1⟩; have B1 := Lib.hid (chain HB.out b1); have k4 : w1.cell? ⟨b, 1, none⟩ = _ := (b1.cell (p := ⟨b, 1, none⟩) H4.out.1).trans H4.out.2; have G1 := Lib.hid (FrAt.below b1 _ _ H6.out); clear b1)
        go_roundw
        case rel => exact ⟨r, G1, Lib.hid (fun x hx => HM.out x (List.mem_cons_of_mem _ hx)), HR, B1.out⟩
        case measure =>
          rw [frLen_of G1.out, HL.out]
          simp
end Go.Proofs.Ytkcgchpflppmnaa
