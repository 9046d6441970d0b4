/- Contract of lex.All. -/
import Derived.Test.YtnidkdjapieinaaDoorLxM
import Derived.Test.YtnidkdjapieinaaDoorLxJ
import Derived.Test.YtnidkdjapieinaaDoorLxO
import Derived.Test.YtnidkdjapieinaaDoorLxR
import Derived.BigRegion
namespace Go.Proofs.YtnidkdjapieinaaDoor
open Go.RowKit Go.Shelf
set_option linter.unusedSimpArgs false

def tpC (x : Tp) : List Value := [.int .i64 x.t.kind, .string ⟨x.t.text.toArray⟩, .int .i64 x.t.num, .int .i64 x.at_, .int .i64 x.line, .int .i64 x.col, .bool x.first]
def tflat (ts : List Tp) : List Value := ts.flatMap tpC
theorem tflat_app (a b : List Tp) : tflat (a ++ b) = tflat a ++ tflat b := by simp [tflat]
abbrev TOwn (W : World) (base : Nat) (v : Value) (ts : List Tp) : Prop := W.ownsRow base 35 7 v ts.length (tflat ts)
theorem infoT : (Tryd.prog.info? 35).map (fun i => (i.zero, i.size, i.bytes)) = some (some (.agg #[.int .i64 0, .string ⟨#[]⟩, .int .i64 0, .int .i64 0, .int .i64 0, .int .i64 0, .bool false]), 7, 64) := by kernel_rfl

def allF (l : List UInt8) : (Int × Int) × List Tp :=
  if checkF l = (0, 0) then (match allK l with | .ok ts => ((0, 0), ts) | .error i => ((4, (i : Int)), [])) else (checkF l, [])

/-- What a round of All leaves. -/
structure AllI (W : World) (fb pb base : Nat) (i : Nat) (p : Nat × Nat) (v : Value) (ts : List Tp) : Prop where
  blkF : Blk W fb #[.int .i64 0, .int .i64 0]
  blkP : Blk W pb (plC i p)
  own : TOwn W base v ts
  lf : fb < base
  lp : pb < base
  ne : fb ≠ pb
  lb : base ≤ W.heap.size
theorem AllI.below {W W' : World} {fb pb base i : Nat} {p : Nat × Nat} {v : Value} {ts : List Tp} (h : AllI W fb pb base i p v ts) (hb : Below W.heap.size W W') : AllI W' fb pb base i p v ts :=
  ⟨h.blkF.below hb h.blkF.lt, h.blkP.below hb h.blkP.lt, own_on h.own hb (own_lt h.own), h.lf, h.lp, h.ne, Nat.le_trans h.lb hb.size⟩
theorem AllI.only {W W' : World} {fb pb base i i' : Nat} {p p' : Nat × Nat} {v : Value} {ts : List Tp} (h : AllI W fb pb base i p v ts) (ho : Only pb W W') (hp : Blk W' pb (plC i' p')) : AllI W' fb pb base i' p' v ts :=
  ⟨ho.blk h.blkF h.ne, hp, ho.own h.own (fun e => by have := own_from h.own pb e; have := h.lp; omega), h.lf, h.lp, h.ne, by rw [ho.size]; exact h.lb⟩

theorem remark_known (s : ByteArray) (hs : s.size ≤ 100000) (m : Int) (h : remarkK s.data.toList = m) (w : World) :
    Calls Tryd.prog 14 #[.string s] w fun e w' => e = .returned (.int .i64 m) ∧ Below w.heap.size w w' := by
  rw [← h]; exact remark_any s hs w

theorem chkGo_sort : ∀ (l : List UInt8) (i : Nat), chkGo i l = (0, 0) ∨ ∃ k : Nat, chkGo i l = (4, (k : Int))
  | [], _ => .inl rfl
  | c :: l, i => by
    rw [chkGo]
    split
    · exact .inr ⟨i, rfl⟩
    · exact chkGo_sort l (i + 1)
theorem checkF_sort (l : List UInt8) (h : checkF l ≠ (0, 0)) : (checkF l).1 ≠ 0 := by
  unfold checkF at h ⊢
  split
  · simp
  · rename_i hl
    rw [if_neg hl] at h
    rcases chkGo_sort l 0 with e | ⟨k, e⟩
    · exact absurd e h
    · rw [e]; simp
theorem checkF_len (l : List UInt8) (h : checkF l = (0, 0)) : l.length ≤ 65536 := by
  unfold checkF at h
  split at h
  · cases h
  · omega

set_option maxRecDepth 100000 in
set_option maxHeartbeats 8000000 in
theorem All_bad (s : ByteArray) (hs : s.size ≤ 9223372036854775807) (hc : checkF s.data.toList ≠ (0, 0)) (w : World) :
    Calls Tryd.prog 5 #[.string s] w fun e w' => e = .returned (.tuple #[.slice none 0 0, faultV (checkF s.data.toList)]) ∧ Below w.heap.size w w' := by
  have K := Lib.hid (fun w => check_any s hs w)
  have ha := checkF_sort _ hc
  obtain ⟨⟨a, b⟩, hab⟩ : ∃ x, checkF s.data.toList = x := ⟨_, rfl⟩
  rw [hab] at K ha ⊢
  have ha : (a == 0) = false := by rw [beq_eq_false_iff_ne]; exact ha
  clear hab hc
  rw [show faultV (a, b) = .agg #[.int .i64 a, .int .i64 b] from rfl] at K ⊢
  have B0 := Blk.new w #[.int .i64 0, .int .i64 0] 25
  go_enter Tryd.func5, Tryd.ntmps5
  go_wp2_with (go_at_call 10; refine (K.out _).mono ?_; rintro e w1 ⟨rfl, b1⟩; have B1 := B0.below b1 (by simp); have l1 := B1.lt)
  have BA := B1.alloc (.cells #[.int .i64 a, .int .i64 b] 25)
  have BN := Blk.new w1 #[.int .i64 a, .int .i64 b] 25
  have l2 : Below w.heap.size w (w1.alloc (.cells #[.int .i64 a, .int .i64 b] 25)) := (chain ((Below.refl _ w).alloc (Nat.le_refl _) _) b1).alloc (Nat.le_of_lt l1) _
  generalize w1.alloc (.cells #[.int .i64 a, .int .i64 b] 25) = W1 at BA BN l2 ⊢
  generalize w1.heap.size = n1 at BN l1 ⊢
  have c0 := BA.cell 0
  have c1 := BA.cell 1
  have f0 := BA.free 0
  have f1 := BA.free 1
  have d0 := BN.cell 0
  have d1 := BN.cell 1
  simp only [List.getElem?_toArray, List.getElem?_cons_zero, List.getElem?_cons_succ] at c0 c1 d0 d1
  clear K BA BN b1 B1 B0
  go_still_tail 2, (by kernel_rfl)
  change wpList _ _ _ _ _ W1.drew
  go_wp2
  exact bodyPost_ret (v := .tuple #[.slice none 0 0, .agg #[.int .i64 a, .int .i64 b]]) (by simp [results, Tryd.results5, go_sem, c0, c1]) rfl ⟨rfl, ((l2.setCell (p := ⟨w.heap.size, 0, none⟩) (Nat.le_refl _) _).setCell (p := ⟨w.heap.size, 1, none⟩) (Nat.le_refl _) _).drew⟩

theorem all_at (g : Nat) (l : List UInt8) (i j : Nat) (q : Nat × Nat) (last : Nat) (ts : List Tp) (h : i < l.length) :
    allGo (g + 1) (l.drop i) j q last ts = (match step1 (l.drop i) with
      | .bad => .error j
      | .skip n => allGo g ((l.drop i).drop n) (j + n) (overL q ((l.drop i).take n)) last ts
      | .tok t n => allGo g ((l.drop i).drop n) (j + n) (overL q ((l.drop i).take n)) q.1 (ts ++ [⟨t, j, q.1, q.2, q.1 != last⟩])) := by
  rw [List.drop_eq_getElem_cons h, allGo]
  rfl
theorem one_known (s : ByteArray) (hs : s.size ≤ 100000) (h0 : 0 < s.size) (v : Value) (h : endV (oneK s.data.toList) = v) (w : World) :
    Calls Tryd.prog 15 #[.string s] w fun e w' => e = .returned v ∧ Below w.heap.size w w' := by
  rw [← h]; exact one_any s hs h0 w
theorem AllI.alloc {W : World} {fb pb base i : Nat} {p : Nat × Nat} {v : Value} {ts : List Tp} (h : AllI W fb pb base i p v ts) (o : Obj) : AllI (W.alloc o) fb pb base i p v ts :=
  h.below ((Below.refl _ _).alloc (Nat.le_refl _) _)
theorem over_known (pb i : Nat) (q q' : Nat × Nat) (u : ByteArray) (n : Nat) (hn : u.size = n) (hq : overL q u.data.toList = q') (hs : n ≤ 100000) (hi : i ≤ 1000000) (hp1 : q.1 ≤ 1000000) (hp2 : q.2 ≤ 100000000) (hp0 : 1 ≤ q.2) (w : World) (hb : Blk w pb (plC i q)) :
    Calls Tryd.prog 13 #[.pointer (some ⟨pb, 0, none⟩), .string u] w fun e w' => e = .returned (.tuple #[]) ∧ Blk w' pb (plC (i + n) q') ∧ Only pb w w' := by
  rw [← hn] at hs ⊢
  rw [← hq]; exact over_any pb i q u hs hi hp1 hp2 hp0 w hb

theorem AllI.other {W W' : World} {fb pb base i tb : Nat} {p : Nat × Nat} {v : Value} {ts : List Tp} (h : AllI W fb pb base i p v ts) (ho : Only tb W W') (h1 : fb ≠ tb) (h2 : pb ≠ tb) (h3 : v.ownBlock ≠ some tb) : AllI W' fb pb base i p v ts :=
  ⟨ho.blk h.blkF h1, ho.blk h.blkP h2, ho.own h.own h3, h.lf, h.lp, h.ne, by rw [ho.size]; exact h.lb⟩
theorem AllI.drew {W : World} {fb pb base i : Nat} {p : Nat × Nat} {v : Value} {ts : List Tp} (h : AllI W fb pb base i p v ts) : AllI W.drew fb pb base i p v ts :=
  h.below ((Below.refl _ _).drew)
theorem cells_new (W : World) (c : Array Value) (t : TypeId) : ∀ (j : Nat) (u : Value), c.toList[j]? = some u → (W.alloc (.cells c t)).cell? ((⟨W.heap.size, 0, none⟩ : Addr).add j) = some u := by
  intro j u hj
  have h := (Blk.new W c t).cell j
  rw [← Array.getElem?_toList, hj] at h
  cases j with
  | zero => simpa [Addr.add] using h
  | succ j => simpa [Addr.add] using h

theorem AllI.append {W W6 : World} {fb pb base i : Nat} {p : Nat × Nat} {v v6 : Value} {ts : List Tp} (h : AllI W fb pb base i p v ts) (o : Obj) (hg : (W.alloc o).grownBy W6 v.ownBlock) (x : Tp)
    (h6 : W6.ownsRow base 35 7 v6 (ts.length + 1) (tflat ts ++ tpC x)) : AllI W6 fb pb base i p v6 (ts ++ [x]) := by
  have hsz := hg.size
  have l0 := h.lf
  have l1 := h.lp
  have l2 := h.lb
  simp at hsz
  have hf := h.blkF.lt
  have hp := h.blkP.lt
  refine ⟨(h.blkF.alloc o).of_same (hg.block fb (by simp; omega) (fun e => by have := own_from h.own fb e.symm; omega)) (by simpa using hsz), (h.blkP.alloc o).of_same (hg.block pb (by simp; omega) (fun e => by have := own_from h.own pb e.symm; omega)) (by simpa using hsz), ?_, l0, l1, h.ne, by omega⟩
  show W6.ownsRow _ _ _ _ _ _
  rw [List.length_append, tflat_app]
  simpa [tflat] using h6

set_option maxRecDepth 100000 in
set_option maxHeartbeats 40000000 in
theorem All_good (s : ByteArray) (hc : checkF s.data.toList = (0, 0)) (w : World) :
    Calls Tryd.prog 5 #[.string s] w fun e w' => ∃ v, e = .returned (.tuple #[v, faultV (allF s.data.toList).1]) ∧ TOwn w' w.heap.size v (allF s.data.toList).2 ∧ Below w.heap.size w w' := by
  have hs : s.size ≤ 65536 := checkF_len _ hc
  have hsl : s.data.toList.length = s.size := rfl
  have K := Lib.hid (fun w => check_any s (by omega) w)
  have hF : allF s.data.toList = (match allK s.data.toList with | .ok ts => ((0, 0), ts) | .error i => ((4, (i : Int)), [])) := by unfold allF; rw [if_pos hc]
  have HF := Lib.hid hF
  rw [hc, show faultV (0, 0) = .agg #[.int .i64 0, .int .i64 0] from rfl] at K
  obtain ⟨i0, hinf, hz0, hz1, hz2⟩ := info_parts infoT
  clear hc hF
  have B0 := Blk.new w #[.int .i64 0, .int .i64 0] 25
  go_enter Tryd.func5, Tryd.ntmps5
  go_wp2_with (go_at_call 10; refine (K.out _).mono ?_; rintro e w1 ⟨rfl, b1⟩; have B1 := B0.below b1 (by simp); have l1 := B1.lt)
  have l2 : Below w.heap.size w ((w1.alloc (.cells #[.int .i64 0, .int .i64 0] 25)).alloc (.cells #[.int .i64 0, .int .i64 1, .int .i64 1] 42)) := ((chain ((Below.refl _ w).alloc (Nat.le_refl _) _) b1).alloc (Nat.le_of_lt l1) _).alloc (by simp; omega) _
  have BN := Blk.new (w1.alloc (.cells #[.int .i64 0, .int .i64 0] 25)) #[.int .i64 0, .int .i64 1, .int .i64 1] 42
  have BF := (B1.alloc (.cells #[.int .i64 0, .int .i64 0] 25)).alloc (.cells #[.int .i64 0, .int .i64 1, .int .i64 1] 42)
  have A0 : AllI ((w1.alloc (.cells #[.int .i64 0, .int .i64 0] 25)).alloc (.cells #[.int .i64 0, .int .i64 1, .int .i64 1] 42)) w.heap.size (w1.heap.size + 1) (w1.heap.size + 2) 0 (1, 1) (.slice none 0 0) [] :=
    ⟨BF, by rw [World.size_alloc] at BN; exact BN, World.ownsRow_nil _ _ _ _, by omega, by omega, by omega, by simp⟩
  generalize (w1.alloc (.cells #[.int .i64 0, .int .i64 0] 25)).alloc (.cells #[.int .i64 0, .int .i64 1, .int .i64 1] 42) = W0 at A0 l2 ⊢
  have hle : w.heap.size ≤ w1.heap.size := Nat.le_of_lt l1
  have hfb : w.heap.size ≤ w.heap.size := Nat.le_refl _
  obtain ⟨fb, hfbe⟩ : ∃ fb, fb = w.heap.size := ⟨_, rfl⟩
  rw [← hfbe] at A0
  have hpb : w.heap.size ≤ w1.heap.size + 1 := by omega
  generalize w1.heap.size + 1 = pb at A0 hpb ⊢
  have hbs : w.heap.size ≤ w1.heap.size + 2 := by omega
  generalize w1.heap.size + 2 = base at A0 hbs ⊢
  clear BN BF B1 B0 b1 l1 hle hfb K
  rw [← hfbe]
  have Hfb := Lib.hid hfbe
  clear hfbe
  go_loopw [5, 7] (fun v la wr => ∃ (i last f : Nat) (q : Nat × Nat) (ts : List Tp), la = .int .i64 last ∧ i ≤ s.size ∧ ts.length ≤ i ∧ s.size ≤ f + i ∧ 1 ≤ q.1 ∧ 1 ≤ q.2 ∧ q.1 ≤ 1 + i ∧ q.2 ≤ 1 + 8 * i ∧ last ≤ 1 + i ∧ AllI wr fb pb base i q v ts ∧ Below w.heap.size w wr ∧ Hid (allK s.data.toList = allGo f (s.data.toList.drop i) i q last ts))
    (fun _ _ wr => s.size - (match wr.cell? ⟨pb, 0, none⟩ with | some x => (intOf x).toNat | none => 0))
  case atStart => exact ⟨0, 0, s.data.toList.length, (1, 1), [], rfl, Nat.zero_le _, by simp, by omega, by simp, by simp, by simp, by simp, by simp, A0, l2, Lib.hid rfl⟩
  case round =>
    obtain ⟨i, last, f, q, ts, rfl, hi, hts, hf, q1, q2, q3, q4, q5, hA, hB, Hk⟩ := hrel
    clear A0 l2
    have c0 := hA.blkP.cell 0
    simp only [plC, List.getElem?_toArray, List.getElem?_cons_zero] at c0
    by_cases hlt : i < s.size
    · have hlt2 : decide ((i : Int) < s.size) = true := by simp; omega
      have hlt3 : decide (i < s.size) = true := by simp; omega
      obtain ⟨g, rfl⟩ : ∃ g, f = g + 1 := ⟨f - 1, by omega⟩
      have Ht := Hk.out.trans (all_at g s.data.toList i i q last ts hlt)
      obtain ⟨rest, hrest⟩ : ∃ u, s.extract i s.size = u := ⟨_, rfl⟩
      have hrd : rest.data.toList = s.data.toList.drop i := by rw [← hrest, drop_data]
      have hrz : rest.size = s.size - i := by show rest.data.toList.length = _; rw [hrd, List.length_drop, hsl]
      rw [← hrd] at Ht
      obtain ⟨n, hn⟩ : ∃ n, spanB blankN rest.data.toList = n := ⟨_, rfl⟩
      have hnz : n ≤ rest.size := by rw [← hn]; exact spanB_le _ _
      have Hn := Lib.hid (fun w => run_known 12 blank_enter blankN blank_any rest (by omega) n hn w)
      by_cases hn0 : 0 < n
      · have hst : step1 rest.data.toList = .skip n := by unfold step1; rw [hn, if_pos hn0]
        rw [hst] at Ht
        simp only at Ht
        obtain ⟨u, hu⟩ : ∃ u, rest.extract 0 n = u := ⟨_, rfl⟩
        have hud : u.data.toList = rest.data.toList.take n := by rw [← hu, take_data]
        have huz : u.size = n := by show u.data.toList.length = _; rw [hud, List.length_take]; show min n rest.size = n; omega
        obtain ⟨q', hq'⟩ : ∃ q', overL q u.data.toList = q' := ⟨_, rfl⟩
        obtain ⟨ov1, ov2, ov3⟩ := over_bound u.data.toList q
        have ov4 := (overL_pos u.data.toList q ⟨q1, q2⟩).1
        rw [hq', show u.data.toList.length = n from huz] at ov1 ov2
        rw [hq'] at ov3 ov4
        have ov3 := ov3 q2
        have Hov := Lib.hid (fun w hb => over_known pb i q q' u n huz hq' (by omega) (by omega) (by omega) (by omega) q2 w hb)
        rw [← hud, hq', hrd, List.drop_drop] at Ht
        have Hn2 := Lib.hid Ht
        have d1 : decide (0 < n) = true := by simp; omega
        have hin : i + n ≤ s.size := by omega
        clear Ht hrd hrz hn hst hud huz hq' hlt
        go_wp2_with (first | (go_at_call 11; refine (Hn.out _).mono ?_; rintro e w1 ⟨rfl, b1⟩; have hA1 := hA.below b1) | (go_at_call 13; refine (Hov.out _ hA1.blkP).mono ?_; rintro e w2 ⟨rfl, k2, o2⟩))
        have hB2 := (chain hB b1).trans (o2.below hpb)
        have m0 := k2.cell 0
        simp only [plC, List.getElem?_toArray, List.getElem?_cons_zero] at m0
        go_roundw
        case rel => exact ⟨i + n, last, g, q', ts, rfl, by omega, by omega, by omega, ov4, ov3, by omega, by omega, by omega, hA1.only o2 k2, hB2, Hn2⟩
        case measure => rw [c0, m0]; simp [intOf]; omega
      · obtain rfl : n = 0 := by omega
        have d1 : decide ((0 : Int) < ((0 : Nat) : Int)) = false := rfl
        obtain ⟨m, hm⟩ : ∃ m, remarkK rest.data.toList = m := ⟨_, rfl⟩
        have Hm := Lib.hid (fun w => remark_known rest (by omega) m hm w)
        have hbl : ¬ 0 < spanB blankN rest.data.toList := by rw [hn]; exact hn0
        clear hn0
        by_cases hm1 : 0 < m
        · obtain ⟨k, rfl⟩ := Int.eq_ofNat_of_zero_le (Int.le_of_lt hm1)
          have hst : step1 rest.data.toList = .skip k := by unfold step1; rw [if_neg hbl, hm, if_pos hm1]; try rfl
          have hkl := (remark_take rest.data.toList k (by omega) hm).1
          rw [hst] at Ht
          simp only at Ht
          obtain ⟨u, hu⟩ : ∃ u, rest.extract 0 k = u := ⟨_, rfl⟩
          have hkr : k ≤ rest.size := hkl
          have hud : u.data.toList = rest.data.toList.take k := by rw [← hu, take_data]
          have huz : u.size = k := by show u.data.toList.length = _; rw [hud, List.length_take]; show min k rest.size = k; omega
          obtain ⟨q', hq'⟩ : ∃ q', overL q u.data.toList = q' := ⟨_, rfl⟩
          obtain ⟨ov1, ov2, ov3⟩ := over_bound u.data.toList q
          have ov4 := (overL_pos u.data.toList q ⟨q1, q2⟩).1
          rw [hq', show u.data.toList.length = k from huz] at ov1 ov2
          rw [hq'] at ov3 ov4
          have ov3 := ov3 q2
          have Hov := Lib.hid (fun w hb => over_known pb i q q' u k huz hq' (by omega) (by omega) (by omega) (by omega) q2 w hb)
          rw [← hud, hq', hrd, List.drop_drop] at Ht
          have Hn2 := Lib.hid Ht
          have d2 : ((k : Int) == 0) = false := by rw [beq_eq_false_iff_ne]; omega
          have d3 : decide ((k : Int) < 0) = false := decide_eq_false (by omega)
          have hk1 : 1 ≤ k := by omega
          have hin : i + k ≤ s.size := by omega
          clear Ht hrd hrz hn hst hud huz hq' hlt hm hbl hkl hm1
          go_wp2_with (first | (go_at_call 11; refine (Hn.out _).mono ?_; rintro e w1 ⟨rfl, b1⟩; have hA1 := hA.below b1) | (go_at_call 14; refine (Hm.out _).mono ?_; rintro e w2 ⟨rfl, b2⟩; have hA2 := (hA1.below b2).alloc tokO) | (go_at_call 13; refine (Hov.out _ hA2.blkP).mono ?_; rintro e w3 ⟨rfl, k3, o3⟩))
          have hB2 := (((chain (chain hB b1) b2).alloc (chain (chain hB b1) b2).size _).trans (o3.below hpb))
          have m0 := k3.cell 0
          simp only [plC, List.getElem?_toArray, List.getElem?_cons_zero] at m0
          go_roundw
          case rel => exact ⟨i + k, last, g, q', ts, rfl, by omega, by omega, by omega, ov4, ov3, by omega, by omega, by omega, hA2.only o3 k3, hB2, Hn2⟩
          case measure => rw [c0, m0]; simp [intOf]; omega
        · by_cases hm2 : m < 0
          · have hst : step1 rest.data.toList = .bad := by unfold step1; rw [if_neg hbl, hm, if_neg hm1, if_pos hm2]
            rw [hst] at Ht
            simp only at Ht
            have Hn2 := Lib.hid (show allF s.data.toList = ((4, (i : Int)), []) from by rw [HF.out, Ht])
            have d2 : (m == 0) = false := by rw [beq_eq_false_iff_ne]; omega
            have d3 : decide (m < 0) = true := by simp; omega
            clear Ht hrd hrz hn hst hlt hm hbl hm1 hm2
            go_wp2_with (first | (go_at_call 11; refine (Hn.out _).mono ?_; rintro e w1 ⟨rfl, b1⟩; have hA1 := hA.below b1) | (go_at_call 14; refine (Hm.out _).mono ?_; rintro e w2 ⟨rfl, b2⟩; have hA2 := (hA1.below b2).alloc tokO))
            have hB2 := ((chain (chain hB b1) b2).alloc (chain (chain hB b1) b2).size tokO)
            have BF := hA2.blkF
            have BP := hA2.blkP
            have hsz := w2.heap.size
            generalize w2.alloc tokO = W3 at BF BP hB2 ⊢
            generalize w2.heap.size = n2 at ⊢
            have f0 := BF.cell 0
            have f1 := BF.cell 1
            have g0 := BF.free 0
            have g1 := BF.free 1
            have p0 := BP.cell 0
            simp only [plC, List.getElem?_toArray, List.getElem?_cons_zero, List.getElem?_cons_succ] at f0 f1 p0
            clear hA hA1 hA2 BF BP c0 Hn Hm b1 b2 hB Hk
            go_still_tail 4, (by kernel_rfl)
            change wpList _ _ _ _ _ W3.drew
            go_wp2
            refine bodyPost_ret (v := .tuple #[.slice none 0 0, .agg #[.int .i64 4, .int .i64 i]]) (by simp [results, Tryd.results5, go_sem, f0, f1]) rfl ?_
            rw [Hn2.out]
            refine ⟨_, rfl, World.ownsRow_nil _ _ _ _, ?_⟩
            have hx := Hfb.out
            subst hx
            exact ((hB2.setCell (p := ⟨w.heap.size, 0, none⟩) (Nat.le_refl _) _).setCell (p := ⟨w.heap.size, 1, none⟩) (Nat.le_refl _) _).drew
          · obtain rfl : m = 0 := by omega
            have hr0 : 0 < rest.size := by omega
            by_cases hok : ∃ t n, oneK rest.data.toList = .tok t n
            · obtain ⟨t, n, ho⟩ := hok
              have hst : step1 rest.data.toList = .tok t n := by unfold step1; rw [if_neg hbl, hm, if_neg (by omega), if_neg (by omega), ho]
              have hwf := one_wf _ _ _ hm ho
              obtain ⟨⟨t1, t2⟩, _⟩ := step_tok hst
              have hkr : n ≤ rest.size := t2
              have hkind : ((t.kind : Int) != 0) = true := by
                rw [bne_iff_ne]
                rcases hwf with ⟨h, _⟩ | ⟨h, _⟩ | ⟨h, _⟩ | ⟨_, ⟨a, r, _, h⟩, _⟩ | ⟨h, _⟩ | ⟨h, _⟩ | ⟨h, _⟩ | ⟨h, _⟩
                · omega
                · omega
                · omega
                · rw [h]; split
                  · decide
                  · split <;> decide
                · omega
                · omega
                · omega
                · omega
              rw [hst] at Ht
              simp only at Ht
              have Hone := Lib.hid (fun w => one_known rest (by omega) hr0 (.tuple #[.agg #[.int .i64 t.kind, .string ⟨t.text.toArray⟩, .int .i64 t.num, .int .i64 0, .int .i64 0, .int .i64 0, .bool false], .int .i64 n]) (by rw [ho]; rfl) w)
              obtain ⟨u, hu⟩ : ∃ u, rest.extract 0 n = u := ⟨_, rfl⟩
              have hud : u.data.toList = rest.data.toList.take n := by rw [← hu, take_data]
              have huz : u.size = n := by show u.data.toList.length = _; rw [hud, List.length_take]; show min n rest.size = n; omega
              obtain ⟨q', hq'⟩ : ∃ q', overL q u.data.toList = q' := ⟨_, rfl⟩
              obtain ⟨ov1, ov2, ov3⟩ := over_bound u.data.toList q
              have ov4 := (overL_pos u.data.toList q ⟨q1, q2⟩).1
              rw [hq', show u.data.toList.length = n from huz] at ov1 ov2
              rw [hq'] at ov3 ov4
              have ov3 := ov3 q2
              have Hov := Lib.hid (fun w hb => over_known pb i q q' u n huz hq' (by omega) (by omega) (by omega) (by omega) q2 w hb)
              rw [← hud, hq', hrd, List.drop_drop] at Ht
              have Hn2 := Lib.hid Ht
              have d2 : ((n : Int) == 0) = false := by rw [beq_eq_false_iff_ne]; omega
              have d3 : decide ((n : Int) < 0) = false := decide_eq_false (by omega)
              have hin : i + n ≤ s.size := by omega
              obtain ⟨tk, htk⟩ : ∃ tk : Int, (t.kind : Int) = tk := ⟨_, rfl⟩
              have Htk := Lib.hid htk
              rw [htk] at Hone hkind
              clear Ht hrd hrz hn hst hud huz hq' hlt hm hbl ho hwf htk t2
              go_wp2_with (first | (go_at_call 11; refine (Hn.out _).mono ?_; rintro e w1 ⟨rfl, b1⟩; have hA1 := hA.below b1) | (go_at_call 14; refine (Hm.out _).mono ?_; rintro e w2 ⟨rfl, b2⟩; have hA2 := hA1.below b2; have hAa := hA2.alloc tokO; have hT0 := TokB.start w2) | (go_at_call 15; refine (Hone.out _).mono ?_; rintro e w3 ⟨rfl, b3⟩; have hT3 := hT0.next b3; have hA3 := hAa.below b3; obtain ⟨⟨la, lb, lc, ld, le, lf, lg⟩, xa, xb, xc, xd, xe, xf, xg⟩ := hT3.cells))
              have BT := ((Blk.new w2 #[.int .i64 0, .string ⟨#[]⟩, .int .i64 0, .int .i64 0, .int .i64 0, .int .i64 0, .bool false] 35).below b3 (by simp))
              have lt2 := own_lt hA2.own
              have l3 : w2.heap.size < w3.heap.size := BT.lt
              have hB3 := chain (((chain (chain hB b1) b2).alloc (chain (chain hB b1) b2).size tokO)) b3
              have O4 := ((((((Only.refl w2.heap.size w3).set 0 (.int .i64 tk)).set 1 (.string ⟨t.text.toArray⟩)).set 2 (.int .i64 t.num)).set 3 (.int .i64 0)).set 4 (.int .i64 0)).set 5 (.int .i64 0) |>.set 6 (.bool false)
              have BT4 := ((((((BT.set 0 (.int .i64 tk) (by simp)).set 1 (.string ⟨t.text.toArray⟩) (by simp)).set 2 (.int .i64 t.num) (by simp)).set 3 (.int .i64 0) (by simp)).set 4 (.int .i64 0) (by simp)).set 5 (.int .i64 0) (by simp)).set 6 (.bool false) (by simp)
              have A4 := hA3.other O4 (by have := hA2.blkF.lt; omega) (by have := hA2.blkP.lt; omega) (fun e => by have := lt2 _ e; omega)
              have hB4 := hB3.trans (O4.below (B := w.heap.size) (by have := hA2.blkP.lt; omega))
              have hnT : fb ≠ w2.heap.size ∧ pb ≠ w2.heap.size := ⟨by have := hA2.blkF.lt; omega, by have := hA2.blkP.lt; omega⟩
              have hwT : w.heap.size ≤ w2.heap.size := by have := hA2.blkP.lt; omega
              generalize (((((((w3.setCell ⟨w2.heap.size, 0, none⟩ (.int .i64 tk)).setCell ⟨w2.heap.size, 1, none⟩ (.string ⟨t.text.toArray⟩)).setCell ⟨w2.heap.size, 2, none⟩ (.int .i64 t.num)).setCell ⟨w2.heap.size, 3, none⟩ (.int .i64 0)).setCell ⟨w2.heap.size, 4, none⟩ (.int .i64 0)).setCell ⟨w2.heap.size, 5, none⟩ (.int .i64 0)).setCell ⟨w2.heap.size, 6, none⟩ (.bool false)) = W4 at BT4 O4 A4 hB4 ⊢
              clear la lb lc ld le lf lg xa xb xc xd xe xf xg hT3 hT0 hAa hA3 hA1 b1 b2 b3 hB3 BT O4 l3 hA hB
              generalize w2.heap.size = tb at BT4 lt2 hnT hwT ⊢
              have t0 := BT4.cell 0
              have t1' := BT4.cell 1
              have t2' := BT4.cell 2
              have t3' := BT4.cell 3
              have t4' := BT4.cell 4
              have t5' := BT4.cell 5
              have t6' := BT4.cell 6
              have tf := BT4.free
              have p0 := A4.blkP.cell 0
              have p1 := A4.blkP.cell 1
              have p2 := A4.blkP.cell 2
              simp at t0 t1' t2' t3' t4' t5' t6'
              simp only [plC, List.getElem?_toArray, List.getElem?_cons_zero, List.getElem?_cons_succ] at p0 p1 p2
              have hnp : ¬ pb = tb := hnT.2
              have hnp' : ¬ tb = pb := fun e => hnT.2 e.symm
              have Hc0 := Lib.hid c0
              clear c0
              go_region
              obtain ⟨ne, hne⟩ : ∃ ne, ((q.1 : Int) != (last : Int)) = ne := ⟨_, rfl⟩
              rw [hne]
              have hne2 : (q.1 != last) = ne := by
                rw [← hne, Bool.eq_iff_iff, bne_iff_ne, bne_iff_ne]; omega
              have BT5 := ((((BT4.set 3 (.int .i64 i) (by simp)).set 4 (.int .i64 q.1) (by simp)).set 5 (.int .i64 q.2) (by simp)).set 6 (.bool ne) (by simp)).drew
              have O5 := (((((Only.refl tb W4).set 3 (.int .i64 i)).set 4 (.int .i64 q.1)).set 5 (.int .i64 q.2)).set 6 (.bool ne)).drew
              have A5 := A4.other O5 hnT.1 hnT.2 (fun e => by have := lt2 _ e; omega)
              have hB5 := hB4.trans (O5.below (B := w.heap.size) hwT)
              generalize ((((W4.setCell ⟨tb, 3, none⟩ (.int .i64 i)).setCell ⟨tb, 4, none⟩ (.int .i64 q.1)).setCell ⟨tb, 5, none⟩ (.int .i64 q.2)).setCell ⟨tb, 6, none⟩ (.bool ne)).drew = W5 at BT5 A5 hB5 ⊢
              rw [hne2] at Hn2
              clear t0 t1' t2' t3' t4' t5' t6' tf p0 p1 p2 BT4 A4 hB4 O5 hne hne2
              have t0 := BT5.cell 0
              have t1' := BT5.cell 1
              have t2' := BT5.cell 2
              have t3' := BT5.cell 3
              have t4' := BT5.cell 4
              have t5' := BT5.cell 5
              have t6' := BT5.cell 6
              have p0 := A5.blkP.cell 0
              have p1 := A5.blkP.cell 1
              simp at t0 t1' t2' t3' t4' t5' t6'
              simp only [plC, List.getElem?_toArray, List.getElem?_cons_zero, List.getElem?_cons_succ] at p0 p1
              have hcn := cells_new W5 #[.int .i64 tk, .string ⟨t.text.toArray⟩, .int .i64 t.num, .int .i64 i, .int .i64 q.1, .int .i64 q.2, .bool ne] 35
              have Hcn := Lib.hid hcn
              have htp : tpC ⟨t, i, q.1, q.2, ne⟩ = [.int .i64 tk, .string ⟨t.text.toArray⟩, .int .i64 t.num, .int .i64 i, .int .i64 q.1, .int .i64 q.2, .bool ne] := by unfold tpC; rw [Htk.out]
              have Htp := Lib.hid htp
              clear hcn BT5 htp
              go_wp2_with (first | (at_builtin; refine wpList_append_own _ rfl _ _ 22 rfl base 35 i0 (.agg #[.int .i64 0, .string ⟨#[]⟩, .int .i64 0, .int .i64 0, .int .i64 0, .int .i64 0, .bool false]) 7 64 Tryd.underlying22 hinf hz0 hz1 hz2 rfl (by decide) _ _ _ rfl (A5.own.alloc _) ⟨W5.heap.size, 0, none⟩ 1 1 [.int .i64 tk, .string ⟨t.text.toArray⟩, .int .i64 t.num, .int .i64 i, .int .i64 q.1, .int .i64 q.2, .bool ne] rfl rfl Hcn.out (by simp [Value.oneCell']) (by unfold maxLen; omega) (by omega) (by have := A5.lb; simp; omega) ?_; intro v6 W6 own6 hgrow6 _; have A6 := A5.append _ hgrow6 ⟨t, i, q.1, q.2, ne⟩ (by rw [Htp.out]; exact own6); have hB6 := grown_below (hB5.alloc hB5.size _) hgrow6 (A5.own.alloc _) (by have := hB5.size; simp; omega) (by omega)) | (go_at_call 13; refine (Hov.out _ A6.blkP).mono ?_; rintro e w7 ⟨rfl, k7, o7⟩))
              have hB7 := hB6.trans (o7.below hpb)
              have m0 := k7.cell 0
              simp only [plC, List.getElem?_toArray, List.getElem?_cons_zero] at m0
              go_roundw
              case rel => exact ⟨i + n, q.1, g, q', ts ++ [⟨t, i, q.1, q.2, ne⟩], rfl, by omega, by simp; omega, by omega, ov4, ov3, by omega, by omega, by omega, A6.only o7 k7, hB7, Hn2⟩
              case measure => rw [Hc0.out, m0]; simp [intOf]; omega
            · have hst : step1 rest.data.toList = .bad := by
                unfold step1
                rw [if_neg hbl, hm, if_neg (by omega), if_neg (by omega)]
                cases ho : oneK rest.data.toList with
                | tok t n => exact absurd ⟨t, n, ho⟩ hok
                | no => rfl
                | bad => rfl
              have hend : endV (oneK rest.data.toList) = .tuple #[.agg #[.int .i64 0, .string ⟨#[]⟩, .int .i64 0, .int .i64 0, .int .i64 0, .int .i64 0, .bool false], .int .i64 (-1)] := by
                cases ho : oneK rest.data.toList with
                | tok t n => exact absurd ⟨t, n, ho⟩ hok
                | no => rfl
                | bad => rfl
              rw [hst] at Ht
              simp only at Ht
              have Hone := Lib.hid (fun w => one_known rest (by omega) hr0 _ hend w)
              have Hn2 := Lib.hid (show allF s.data.toList = ((4, (i : Int)), []) from by rw [HF.out, Ht])
              clear Ht hrd hrz hn hst hlt hm hbl hend hok
              go_wp2_with (first | (go_at_call 11; refine (Hn.out _).mono ?_; rintro e w1 ⟨rfl, b1⟩; have hA1 := hA.below b1) | (go_at_call 14; refine (Hm.out _).mono ?_; rintro e w2 ⟨rfl, b2⟩; have hA2 := hA1.below b2; have hAa := hA2.alloc tokO; have hT0 := TokB.start w2) | (go_at_call 15; refine (Hone.out _).mono ?_; rintro e w3 ⟨rfl, b3⟩; have hT3 := hT0.next b3; have hA3 := hAa.below b3; obtain ⟨⟨la, lb, lc, ld, le, lf, lg⟩, xa, xb, xc, xd, xe, xf, xg⟩ := hT3.cells))
              have lt2 := own_lt hA2.own
              have hB3 := chain (((chain (chain hB b1) b2).alloc (chain (chain hB b1) b2).size tokO)) b3
              have O4 := ((((((Only.refl w2.heap.size w3).set 0 (.int .i64 0)).set 1 (.string ⟨#[]⟩)).set 2 (.int .i64 0)).set 3 (.int .i64 0)).set 4 (.int .i64 0)).set 5 (.int .i64 0) |>.set 6 (.bool false)
              have A4 := hA3.other O4 (by have := hA2.blkF.lt; omega) (by have := hA2.blkP.lt; omega) (fun e => by have := lt2 _ e; omega)
              have hB4 := hB3.trans (O4.below (B := w.heap.size) (by have := hA2.blkP.lt; omega))
              generalize (((((((w3.setCell ⟨w2.heap.size, 0, none⟩ (.int .i64 0)).setCell ⟨w2.heap.size, 1, none⟩ (.string ⟨#[]⟩)).setCell ⟨w2.heap.size, 2, none⟩ (.int .i64 0)).setCell ⟨w2.heap.size, 3, none⟩ (.int .i64 0)).setCell ⟨w2.heap.size, 4, none⟩ (.int .i64 0)).setCell ⟨w2.heap.size, 5, none⟩ (.int .i64 0)).setCell ⟨w2.heap.size, 6, none⟩ (.bool false)) = W4 at O4 A4 hB4 ⊢
              have f0 := A4.blkF.cell 0
              have f1 := A4.blkF.cell 1
              have g0 := A4.blkF.free 0
              have g1 := A4.blkF.free 1
              have p0 := A4.blkP.cell 0
              simp only [plC, List.getElem?_toArray, List.getElem?_cons_zero, List.getElem?_cons_succ] at f0 f1 p0
              clear la lb lc ld le lf lg xa xb xc xd xe xf xg hT3 hT0 hAa hA3 hA1 b1 b2 b3 hB3 O4 hA hB A4 c0 Hn Hm Hk
              go_still_tail 4, (by kernel_rfl)
              change wpList _ _ _ _ _ W4.drew
              go_wp2
              refine bodyPost_ret (v := .tuple #[.slice none 0 0, .agg #[.int .i64 4, .int .i64 i]]) (by simp [results, Tryd.results5, go_sem, f0, f1]) rfl ?_
              rw [Hn2.out]
              refine ⟨_, rfl, World.ownsRow_nil _ _ _ _, ?_⟩
              have hx := Hfb.out
              subst hx
              exact ((hB4.setCell (p := ⟨w.heap.size, 0, none⟩) (Nat.le_refl _) _).setCell (p := ⟨w.heap.size, 1, none⟩) (Nat.le_refl _) _).drew
    · have hlt2 : decide ((i : Int) < s.size) = false := by simp; omega
      have hlt3 : decide (i < s.size) = false := by simp; omega
      have ht : allK s.data.toList = .ok ts := by
        rw [Hk.out, List.drop_eq_nil_of_le (by omega)]
        cases f <;> rfl
      have Hn2 := Lib.hid (show allF s.data.toList = ((0, 0), ts) from by rw [HF.out, ht])
      have f0 := hA.blkF.cell 0
      have f1 := hA.blkF.cell 1
      have g0 := hA.blkF.free 0
      have g1 := hA.blkF.free 1
      simp only [List.getElem?_toArray, List.getElem?_cons_zero, List.getElem?_cons_succ] at f0 f1
      obtain ⟨va, vc, rfl⟩ := own_shape hA.own
      clear ht hlt
      go_wp2
      refine bodyPost_ret (v := .tuple #[.slice va ts.length vc, .agg #[.int .i64 0, .int .i64 0]]) (by simp [results, Tryd.results5, go_sem, f0, f1]) rfl ?_
      rw [Hn2.out]
      have hx := Hfb.out
      subst hx
      have o2 := ((Only.refl w.heap.size wr).set 0 (.int .i64 0)).set 1 (.int .i64 0)
      refine ⟨_, rfl, ?_, (hB.setCell (p := ⟨w.heap.size, 0, none⟩) (Nat.le_refl _) _).setCell (p := ⟨w.heap.size, 1, none⟩) (Nat.le_refl _) _⟩
      exact own_low (o2.own hA.own (fun e => by have := own_from hA.own _ e; have := hA.lf; omega)) hbs
theorem All_any (s : ByteArray) (hs : s.size ≤ 9223372036854775807) (w : World) :
    Calls Tryd.prog 5 #[.string s] w fun e w' => ∃ v, e = .returned (.tuple #[v, faultV (allF s.data.toList).1]) ∧ TOwn w' w.heap.size v (allF s.data.toList).2 ∧ Below w.heap.size w w' := by
  by_cases hc : checkF s.data.toList = (0, 0)
  · exact All_good s hc w
  · refine (All_bad s hs hc w).mono ?_
    rintro e w' ⟨rfl, hb⟩
    have : allF s.data.toList = (checkF s.data.toList, []) := by unfold allF; rw [if_neg hc]
    rw [this]
    exact ⟨_, rfl, World.ownsRow_nil _ _ _ _, hb⟩
end Go.Proofs.YtnidkdjapieinaaDoor
