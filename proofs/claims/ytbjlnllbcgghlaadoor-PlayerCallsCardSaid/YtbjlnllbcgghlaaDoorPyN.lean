/- A script's text by lines; a line tells its play. -/
import Derived.Test.YtbjlnllbcgghlaaDoorPyM
import Derived.Lib.IndexLaws
namespace Go.Proofs.YtbjlnllbcgghlaaDoor
open Go.RowKit Go.Shelf
set_option linter.unusedSimpArgs false
set_option linter.unusedVariables false

theorem joined_inj {w0 w0' : List UInt8} {rest rest' : List (List UInt8)} (h : noSp w0 rest) (h' : noSp w0' rest') (e : joined w0 rest = joined w0' rest') : w0 = w0' ∧ rest = rest' := by
  have e2 : w0 ++ rest.flatMap (fun x => 32 :: x) = w0' ++ rest'.flatMap (fun x => 32 :: x) := mkW_inj e
  have c := congrArg (List.count 32) e2
  rw [count_join _ _ h.1 h.2, count_join _ _ h'.1 h'.2] at c
  have s1 := split_join rest w0 h.1 h.2
  have s2 := split_join rest' w0' h'.1 h'.2
  rw [e2, c, s2] at s1
  obtain ⟨a, b⟩ := List.cons.inj s1
  exact ⟨a.symm, b.symm⟩
theorem map_hex_inj : ∀ {a b : List UInt8}, a.map hexK = b.map hexK → a = b
  | [], [], _ => rfl
  | [], _ :: _, h => by cases h
  | _ :: _, [], h => by cases h
  | c :: a, d :: b, h => by
    rw [List.map_cons, List.map_cons] at h
    obtain ⟨h1, h2⟩ := List.cons.inj h
    rw [hexK_inj h1, map_hex_inj h2]
theorem itoa_inj {m n : Int} (h0 : 0 ≤ m) (h1 : m ≤ 1048576) (h2 : 0 ≤ n) (h3 : n ≤ 1048576) (h : Lib.itoa m = Lib.itoa n) : m = n := by
  have a := atoi_itoa m h0 h1
  rw [h, atoi_itoa n h2 h3] at a
  cases a; rfl
/-- A fine play's line tells it. -/
theorem lineK_inj {x y : PlD} (hx : fineK x = true) (hy : fineK y = true) (h : lineK x = lineK y) : x = y := by
  obtain ⟨a1, a2⟩ := words_ok hx
  obtain ⟨b1, b2⟩ := words_ok hy
  obtain ⟨e1, e2⟩ := joined_inj a1 b1 (by rw [← a2, ← b2, h])
  rcases play_none hx with k | k | k | k | k
  · obtain ⟨x1, x2⟩ := play_feed hx k
    obtain ⟨y1, y2⟩ := play_feed hy (e1 ▸ k)
    rw [x2, y2] at e2
    rw [x1, y1, map_hex_inj e2]
  · obtain ⟨x1, x2, x3, x4⟩ := play_run hx k
    obtain ⟨y1, y2, y3, y4⟩ := play_run hy (e1 ▸ k)
    rw [x2, y2] at e2
    rw [x1, y1, itoa_inj x3 x4 y3 y4 (List.cons.inj e2).1]
  · rw [play_end hx k, play_end hy (e1 ▸ k)]
  · rw [play_minor hx k, play_minor hy (e1 ▸ k)]
  · rw [play_major hx k, play_major hy (e1 ▸ k)]
theorem digB_nl : ∀ i : Fin 16, digB i.1 ≠ 10 := by decide
theorem hexK_nl (c : UInt8) : (10 : UInt8) ∉ hexK c := by
  have hc := c.toNat_lt
  have h1 := digB_nl ⟨c.toNat / 16, by omega⟩
  have h2 := digB_nl ⟨c.toNat % 16, by omega⟩
  simp only at h1 h2
  unfold hexK
  simp only [List.mem_cons, List.not_mem_nil, or_false, not_or]
  exact ⟨Ne.symm h1, Ne.symm h2⟩
theorem line_nl {x : PlD} (h : fineK x = true) : (10 : UInt8) ∉ lineK x := by
  have e : lineK x = (wordsK x).1 ++ (wordsK x).2.flatMap (fun y => 32 :: y) := mkW_inj (words_ok h).2
  rw [e]
  intro hm
  rcases List.mem_append.1 hm with hm | hm
  · rcases play_none h with k | k | k | k | k <;> (rw [k] at hm; revert hm; decide)
  · obtain ⟨y, hy, hm⟩ := List.mem_flatMap.1 hm
    rcases List.mem_cons.1 hm with hm | hm
    · revert hm; decide
    · rcases play_none h with k | k | k | k | k
      · rw [(play_feed h k).2] at hy
        obtain ⟨c, -, rfl⟩ := List.mem_map.1 hy
        exact hexK_nl c hm
      · obtain ⟨-, x2, x3, -⟩ := play_run h k
        rw [x2] at hy
        obtain rfl : y = Lib.itoa x.n := by simpa using hy
        rw [itoa_nat _ x3] at hm
        have := dec_sp _ _ hm
        revert this; decide
      · rw [play_end h k] at hy; cases hy
      · rw [play_minor h k] at hy; cases hy
      · rw [play_major h k] at hy; cases hy

/-! By lines. -/
def FirstNl (s : List UInt8) (o : Nat) : Prop := s[o]? = some 10 ∧ ∀ k, k < o → s[k]? ≠ some 10
def NoNl (s : List UInt8) : Prop := ∀ k : Nat, s[k]? ≠ some (10 : UInt8)
theorem FirstNl.uniq {s : List UInt8} {a b : Nat} (ha : FirstNl s a) (hb : FirstNl s b) : a = b := by
  rcases Nat.lt_trichotomy a b with h | h | h
  · exact absurd ha.1 (hb.2 a h)
  · exact h
  · exact absurd hb.1 (ha.2 b h)
open Classical in
noncomputable def nlK (s : List UInt8) : Option Nat := if h : ∃ o, FirstNl s o then some (Classical.choose h) else none
theorem nlK_some {s : List UInt8} {o : Nat} (h : FirstNl s o) : nlK s = some o := by
  unfold nlK
  rw [dif_pos ⟨o, h⟩, (Classical.choose_spec (⟨o, h⟩ : ∃ o, FirstNl s o)).uniq h]
theorem nlK_none {s : List UInt8} (h : NoNl s) : nlK s = none := by
  unfold nlK
  rw [dif_neg (by rintro ⟨o, h1, -⟩; exact h o h1)]
open Classical in
noncomputable def plK (t : List UInt8) : Option PlD := if h : ∃ x, fineK x = true ∧ t = lineK x then some (Classical.choose h) else none
theorem plK_some {t : List UInt8} {x : PlD} (hf : fineK x = true) (h : t = lineK x) : plK t = some x := by
  have he : ∃ x, fineK x = true ∧ t = lineK x := ⟨x, hf, h⟩
  unfold plK
  rw [dif_pos he]
  have := Classical.choose_spec he
  rw [lineK_inj this.1 hf (this.2.symm.trans h)]
theorem plK_none {t : List UInt8} (h : ∀ x, fineK x = true → mkW t ≠ mkW (lineK x)) : plK t = none := by
  unfold plK
  rw [dif_neg (by rintro ⟨x, h1, h2⟩; exact h x h1 (by rw [h2]))]
noncomputable def goK : Nat → List UInt8 → Nat → List PlD → List PlD × Int × Int
  | 0, _, _, _ => ([], 0, 0)
  | n + 1, s, at_, l => if s = [] then (if 4096 < l.length then ([], 3, 0) else (l, 0, 0)) else
    match nlK s with
    | none => ([], 6, at_)
    | some o => match plK (s.take o) with
      | none => ([], 6, at_)
      | some x => goK n (s.drop (o + 1)) (at_ + o + 1) (l ++ [x])
theorem go_end (n at_ : Nat) (l : List PlD) : goK (n + 1) [] at_ l = if 4096 < l.length then ([], 3, 0) else (l, 0, 0) := by rw [goK, if_pos rfl]
theorem go_no (n at_ : Nat) {s : List UInt8} (l : List PlD) (h : NoNl s) (hs : s ≠ []) : goK (n + 1) s at_ l = ([], 6, (at_ : Int)) := by rw [goK, if_neg hs, nlK_none h]
theorem go_bad (n at_ : Nat) {s : List UInt8} {o : Nat} (l : List PlD) (h : FirstNl s o) (hx : ∀ x, fineK x = true → mkW (s.take o) ≠ mkW (lineK x)) : goK (n + 1) s at_ l = ([], 6, (at_ : Int)) := by
  have hs : s ≠ [] := by rintro rfl; have := h.1; simp at this
  rw [goK, if_neg hs, nlK_some h]
  simp only
  rw [plK_none hx]
theorem go_step (n at_ : Nat) {s : List UInt8} {o : Nat} (l : List PlD) (h : FirstNl s o) {x : PlD} (hf : fineK x = true) (hx : mkW (s.take o) = mkW (lineK x)) : goK (n + 1) s at_ l = goK n (s.drop (o + 1)) (at_ + o + 1) (l ++ [x]) := by
  have hs : s ≠ [] := by rintro rfl; have := h.1; simp at this
  rw [goK, if_neg hs, nlK_some h]
  simp only
  rw [plK_some hf (mkW_inj hx)]
/-- What Parse answers. -/
noncomputable def parseK (s : ByteArray) : List PlD × Int × Int := goK (s.size + 1) s.data.toList 0 []
/-- The way there: what is read stands for what is still to read. -/
def GoS (s : ByteArray) (at_ : Nat) (l : List PlD) : Prop := at_ ≤ s.size ∧ ∃ n, s.size - at_ < n ∧ goK n (s.data.toList.drop at_) at_ l = parseK s
theorem GoS.start (s : ByteArray) : GoS s 0 [] := ⟨Nat.zero_le _, s.size + 1, by omega, by rw [List.drop_zero]; rfl⟩
theorem dsz (s : ByteArray) : s.data.toList.length = s.size := by cases s; simp [ByteArray.size]
theorem GoS.fin {s : ByteArray} {l : List PlD} (h : GoS s s.size l) : parseK s = if 4096 < l.length then ([], 3, 0) else (l, 0, 0) := by
  obtain ⟨-, n, hn, hg⟩ := h
  obtain ⟨n, rfl⟩ : ∃ k, n = k + 1 := ⟨n - 1, by omega⟩
  rw [List.drop_eq_nil_of_le (by rw [dsz]; omega), go_end] at hg
  exact hg.symm
theorem GoS.no {s : ByteArray} {at_ : Nat} {l : List PlD} (h : GoS s at_ l) (hlt : at_ < s.size) (hn : NoNl (s.data.toList.drop at_)) : parseK s = ([], 6, (at_ : Int)) := by
  obtain ⟨-, n, hn2, hg⟩ := h
  obtain ⟨n, rfl⟩ : ∃ k, n = k + 1 := ⟨n - 1, by omega⟩
  rw [go_no n at_ l hn (by rw [Ne, List.drop_eq_nil_iff, dsz]; omega)] at hg
  exact hg.symm
theorem GoS.bad {s : ByteArray} {at_ o : Nat} {l : List PlD} (h : GoS s at_ l) (ho : FirstNl (s.data.toList.drop at_) o) (hx : ∀ x, fineK x = true → mkW ((s.data.toList.drop at_).take o) ≠ mkW (lineK x)) : parseK s = ([], 6, (at_ : Int)) := by
  obtain ⟨-, n, hn2, hg⟩ := h
  obtain ⟨n, rfl⟩ : ∃ k, n = k + 1 := ⟨n - 1, by omega⟩
  rw [go_bad n at_ l ho hx] at hg
  exact hg.symm
theorem first_lt {s : ByteArray} {at_ o : Nat} (ho : FirstNl (s.data.toList.drop at_) o) : at_ + o < s.size := by
  have := (List.getElem?_eq_some_iff.1 ho.1).1
  rw [List.length_drop, dsz] at this
  omega
theorem GoS.step {s : ByteArray} {at_ o : Nat} {l : List PlD} (h : GoS s at_ l) (ho : FirstNl (s.data.toList.drop at_) o) {x : PlD} (hf : fineK x = true) (hx : mkW ((s.data.toList.drop at_).take o) = mkW (lineK x)) : GoS s (at_ + o + 1) (l ++ [x]) := by
  have hlt := first_lt ho
  obtain ⟨-, n, hn2, hg⟩ := h
  obtain ⟨n, rfl⟩ : ∃ k, n = k + 1 := ⟨n - 1, by omega⟩
  rw [go_step n at_ l ho hf hx, List.drop_drop] at hg
  exact ⟨by omega, n, by omega, by rw [← hg, ← Nat.add_assoc]⟩
theorem piece_eq (s : ByteArray) (a o : Nat) : s.extract a (a + o) = mkW ((s.data.toList.drop a).take o) := by
  cases s with | mk d =>
  apply ByteArray.ext
  apply Array.toList_inj.1
  simp [mkW, ByteArray.extract, ByteArray.copySlice]
  try omega

/-! Plays in a row of their own. -/
def prow (u : PlD × Value) : List Value := [.int .i64 u.1.kind, .int .i64 u.1.n, u.2]
structure POwn (W : World) (B : Nat) (v : Value) (us : List (PlD × Value)) : Prop where
  row : ROwn W B 34 3 v (us.map prow)
  el : ∀ u ∈ us, ∃ n m, B ≤ n ∧ Held n m W (fun W => Bts W u.2 u.1.bytes) ∧ (∀ g, v.ownBlock = some g → g < n ∨ m ≤ g)
theorem POwn.nil (W : World) (B : Nat) : POwn W B (.slice none 0 0) [] := ⟨ROwn.nil _ _ _ _, fun u hu => by cases hu⟩
theorem POwn.below {W W' : World} {B : Nat} {v : Value} {us : List (PlD × Value)} (h : POwn W B v us) (hb : Below W.heap.size W W') : POwn W' B v us :=
  ⟨h.row.below hb, fun u hu => by obtain ⟨n, m, h0, h1, h2⟩ := h.el u hu; exact ⟨n, m, h0, h1.below hb, h2⟩⟩
theorem POwn.shape {W : World} {B : Nat} {v : Value} {us : List (PlD × Value)} (h : POwn W B v us) : ∃ a c, v = .slice a us.length c := by
  obtain ⟨a, c, hv⟩ := own_shape h.row
  exact ⟨a, c, by rw [hv, List.length_map]⟩
/-- A change in a block below B. -/
theorem POwn.other {W W' : World} {B b : Nat} {v : Value} {us : List (PlD × Value)} (h : POwn W B v us) (g : W.grownBy W' (some b)) (hb : b < B) : POwn W' B v us := by
  have hr := h.row
  refine ⟨⟨hr.1, ?_⟩, fun u hu => ?_⟩
  · rcases hr.2 with h2 | ⟨g2, cap, cur, hv, hg, hh, r⟩
    · exact .inl h2
    · exact .inr ⟨g2, cap, cur, hv, hg, (g.block g2 (Array.getElem?_eq_some_iff.1 hh).1 (fun e => by simp at e; omega)).trans hh, r⟩
  · obtain ⟨n, m, h0, h1, h2⟩ := h.el u hu
    exact ⟨n, m, h0, h1.grown g (by omega), h2⟩
theorem infoPl : (Tryd.prog.info? 34).map (fun i => (i.zero, i.size, i.bytes)) = some (some (.agg #[.int .i64 0, .int .i64 0, .slice none 0 0]), 3, 40) := by kernel_rfl
/-- One play put behind. -/
theorem POwn.push {W : World} {B : Nat} {v : Value} {us : List (PlD × Value)} (h : POwn W B v us) (x : PlD) (vs : Value) (a : Nat) (hc : CellsAt W a 0 [.int .i64 x.kind, .int .i64 x.n, vs]) (h1 : vs.oneCell' = true) (n m : Nat) (hn : B ≤ n) (hv : Held n m W (fun W => Bts W vs x.bytes)) (hg : ∀ g, v.ownBlock = some g → g < n ∨ m ≤ g) (hl : us.length ≤ 10000000) (hB : B ≤ W.heap.size) :
    ∃ v' W', (Builtin.append_ #[24, 24] 24 #[v, .slice (some ⟨a, 0, none⟩) 1 1]).run Tryd.prog W = .ok v' W' ∧ POwn W' B v' (us ++ [(x, vs)]) ∧ Below B W W' ∧ W.grownBy W' v.ownBlock ∧ (v'.ownBlock = v.ownBlock ∨ v'.ownBlock = some W.heap.size) := by
  obtain ⟨i0, hi, hz0, hz1, hz2⟩ := info_parts infoPl
  obtain ⟨v', W', k1, k2, k3, k4, k5⟩ := ROwn.push h.row 24 (i := i0) Tryd.underlying24 hi hz0 hz1 hz2 rfl (by decide) a 0 1 1 [prow (x, vs)] rfl (fun r hr => by simp at hr; subst hr; rfl) (fun j u hj => by
    refine hc j u ?_
    simpa [prow] using hj) (fun r hr u hu => by
      simp at hr; subst hr
      simp [prow] at hu
      rcases hu with rfl | rfl | rfl
      · rfl
      · rfl
      · exact h1) (by rw [List.length_map]; omega) (by rw [List.length_map]; unfold maxLen; omega) hB
  have hheld : ∀ (n m : Nat) (P : World → Prop), Held n m W P → (∀ g, v.ownBlock = some g → g < n ∨ m ≤ g) → Held n m W' P ∧ (∀ g, v'.ownBlock = some g → g < n ∨ m ≤ g) := by
    intro n m P hP hq
    refine ⟨hP.to (Nat.le_trans hP.le k3.size) fun k hk1 hk2 => k3.block k (Nat.lt_of_lt_of_le hk2 hP.le) (fun e => ?_), fun g e => ?_⟩
    · rcases hq k e.symm with q | q <;> omega
    · rcases k5 with k5 | k5
      · exact hq g (k5 ▸ e)
      · rw [k5] at e; simp at e; subst e; exact .inr hP.le
  refine ⟨v', W', k1, ⟨?_, fun u hu => ?_⟩, k4 hB, k3, k5⟩
  · rw [List.map_append]; exact k2
  · rcases List.mem_append.1 hu with hu | hu
    · obtain ⟨n2, m2, q0, q1, q2⟩ := h.el u hu
      obtain ⟨r1, r2⟩ := hheld _ _ _ q1 q2
      exact ⟨n2, m2, q0, r1, r2⟩
    · simp at hu; subst hu
      obtain ⟨r1, r2⟩ := hheld _ _ _ hv hg
      exact ⟨n, m, hn, r1, r2⟩
theorem POwn.pls {W : World} {B : Nat} {v : Value} {us : List (PlD × Value)} (h : POwn W B v us) : Pls W v (us.map (·.1)) := by
  have h0 : W.ownsRow B 34 3 v (us.map prow).length (us.map prow).flatten := h.row
  obtain ⟨a, c, hv⟩ := h.shape
  refine ⟨a, c, by rw [List.length_map]; exact hv, fun hl => ?_⟩
  rw [List.length_map] at hl
  rcases h0.2 with ⟨_, h2⟩ | ⟨g, cap, cc, hv2, hg, hh, _⟩
  · rw [List.length_map] at h2; omega
  · rw [hv] at hv2
    simp only [Value.slice.injEq] at hv2
    obtain ⟨rfl, -, rfl⟩ := hv2
    subst hv
    have hgl : g < W.heap.size := (Array.getElem?_eq_some_iff.1 hh).1
    refine ⟨g, 0, rfl, hgl, fun k x hx => ?_⟩
    rw [List.getElem?_map] at hx
    obtain ⟨u, hu, rfl⟩ := Option.map_eq_some_iff.1 hx
    refine ⟨u.2, fun j c hj => ?_, ?_⟩
    · have hfl : (us.map prow).flatten[k * 3 + j]? = some c := by
        have hj3 : j < 3 := by have := (List.getElem?_eq_some_iff.1 hj).1; simpa using this
        rw [flatten_get (n := 3) (by decide) (fun r hr => by obtain ⟨u, _, rfl⟩ := List.mem_map.1 hr; rfl), show (k * 3 + j) / 3 = k by omega, show (k * 3 + j) % 3 = j by omega, List.getElem?_map, hu]
        exact hj
      have := World.ownsRow.cells h0 (g := g) rfl _ _ hfl
      rw [show (⟨g, 0, none⟩ : Addr).add (k * 3 + j) = ⟨g, k * 3 + j, none⟩ from by unfold Addr.add; split <;> simp_all] at this
      rw [Nat.zero_add]
      exact this
    · obtain ⟨n, m, -, q, -⟩ := h.el u (List.mem_of_getElem? hu)
      exact q.now
end Go.Proofs.YtbjlnllbcgghlaaDoor
