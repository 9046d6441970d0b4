/- Arguments of a primitive in memory; prim.Apply at a name of the table. -/
import Derived.Test.YtmgfgkikeflenaaDoorPcB
import Derived.WalkSpells
import Derived.WalkSmall
import Derived.Deep.RegionHeld3
import Derived.Deep.RegionWith
import Derived.Deep.QuietTactic
import Derived.BigQuiet
import Derived.BigRegion
import Derived.Outline
import Derived.Lib.Hide
import Derived.Deep.Cut
import Derived.StillTailTactics
import Derived.Deep.Slices
import Derived.Deep.Fields
import Derived.ChangeArms
import Derived.SizedLaws
import Derived.Deep.Strs
namespace Go.Proofs.YtmgfgkikeflenaaDoor
open Go.RowKit
open Ev (AV Mem V VL MR BinF quo_ok rem_ok table)
set_option linter.unusedSimpArgs false
set_option linter.unusedVariables false

theorem chain {w a b : World} (h : Below w.heap.size w a) (k : Below a.heap.size a b) : Below w.heap.size w b := h.trans (k.mono h.size)
structure Blk (W : World) (b : Nat) (c : Array Value) : Prop where
  lt : b < W.heap.size
  cell : ∀ j, W.cell? ⟨b, j, none⟩ = c[j]?
  free : ∀ j, W.frozen? ⟨b, j, none⟩ = false

theorem Blk.new (W : World) (c : Array Value) (t : TypeId) : Blk (W.alloc (.cells c t)) W.heap.size c := by
  have h := heap_alloc_new W (.cells c t)
  exact ⟨by simp, fun j => by unfold World.cell?; rw [h]; rfl, fun j => by unfold World.frozen?; rw [h]; simp⟩
theorem Blk.of_same {W W' : World} {b : Nat} {c : Array Value} (h : Blk W b c) (he : W'.heap[b]? = W.heap[b]?) (hs : W.heap.size ≤ W'.heap.size) : Blk W' b c :=
  ⟨Nat.lt_of_lt_of_le h.lt hs, fun j => (World.cell?_of_block (w := W) (a := ⟨b, j, none⟩) he).trans (h.cell j), fun j => (World.frozen?_of_block (w := W) (a := ⟨b, j, none⟩) he).trans (h.free j)⟩
theorem Blk.alloc {W : World} {b : Nat} {c : Array Value} (h : Blk W b c) (o : Obj) : Blk (W.alloc o) b c := h.of_same (Below.heap_alloc _ _ _ h.lt) (by simp)
theorem Blk.drew {W : World} {b : Nat} {c : Array Value} (h : Blk W b c) : Blk W.drew b c := h.of_same rfl (Nat.le_refl _)
theorem Blk.drewN {W : World} {b : Nat} {c : Array Value} (h : Blk W b c) (n : Nat) : Blk (W.drewN n) b c := h.of_same rfl (Nat.le_refl _)
theorem Blk.below {B : Nat} {W W' : World} {b : Nat} {c : Array Value} (h : Blk W b c) (hb : Below B W W') (hB : b < B) : Blk W' b c := h.of_same (hb.block b hB) hb.size
theorem Blk.other {W : World} {b : Nat} {c : Array Value} (h : Blk W b c) (a : Addr) (v : Value) (hne : b ≠ a.block) : Blk (W.setCell a v) b c :=
  h.of_same (Below.heap_setCell _ _ _ _ hne) (by simp [World.setCell])
theorem Blk.set {W : World} {b : Nat} {c : Array Value} (h : Blk W b c) (i : Nat) (v : Value) (hi : i < c.size) : Blk (W.setCell ⟨b, i, none⟩ v) b (c.setIfInBounds i v) := by
  refine ⟨by simpa [World.setCell] using h.lt, fun j => ?_, fun j => by rw [World.frozen?_setCell]; exact h.free j⟩
  by_cases e : i = j
  · subst e
    rw [World.cell?_setCell_same' _ _ _ (by rw [h.cell i]; simp [hi]), Array.getElem?_setIfInBounds_self_of_lt hi]
  · rw [World.cell?_setCell_other _ _ _ _ (by simp <;> omega), h.cell j]
    simp [Array.getElem?_setIfInBounds_ne e]

theorem size_drew (W : World) : W.drew.heap.size = W.heap.size := by simp
theorem below_of_drew {W w1 : World} (h : Below W.drew.heap.size W.drew w1) : Below W.heap.size W w1 := by
  rw [size_drew] at h
  exact ((Below.refl _ W).drew).trans h

structure PT where
  kind : Int
  num : Int
  text : ByteArray
instance : Inhabited PT := ⟨⟨0, 0, ⟨#[]⟩⟩⟩
def PT.cells (p : PT) : List Value := [.int .i64 p.kind, .int .i64 p.num, .string p.text]
/-- A slice that reads as these. -/
def PRd (W : World) (v : Value) (ps : List PT) : Prop :=
  ∃ (a : Option Addr) (cap : Nat), v = .slice a ps.length cap ∧ (0 < ps.length → ∃ b o, a = some ⟨b, o, none⟩ ∧ b < W.heap.size ∧ ∀ k x, ps[k]? = some x → ∀ j c, x.cells[j]? = some c → W.cell? ⟨b, o + k * 3 + j, none⟩ = some c)
theorem PRd.below {W W' : World} {v : Value} {ps : List PT} (h : PRd W v ps) (hb : Below W.heap.size W W') : PRd W' v ps := by
  obtain ⟨a, cap, hv, hc⟩ := h
  refine ⟨a, cap, hv, fun hl => ?_⟩
  obtain ⟨b, o, h1, h2, h3⟩ := hc hl
  exact ⟨b, o, h1, Nat.lt_of_lt_of_le h2 hb.size, fun k x hx j c hj => (hb.cell (p := ⟨b, o + k * 3 + j, none⟩) h2).trans (h3 k x hx j c hj)⟩
/-- Is an argument refused? -/
def badK (k : Nat) (p : PT) : Bool := (p.kind != kdN k) || !(p.text.toList == []) || (p.kind == 2 && (decide (p.num < 0) || decide (255 < p.num)))
theorem fork (k : Nat) (p : PT) :
    (badK k p = true ∧ ((p.kind != kdN k) = true ∨ ((p.kind != kdN k) = false ∧ (p.text.toList == []) = false) ∨ ((p.kind != kdN k) = false ∧ (p.text.toList == []) = true ∧ (p.kind == 2) = true ∧ decide (p.num < 0) = true) ∨ ((p.kind != kdN k) = false ∧ (p.text.toList == []) = true ∧ (p.kind == 2) = true ∧ decide (p.num < 0) = false ∧ decide (255 < p.num) = true))) ∨
    (badK k p = false ∧ (((p.kind != kdN k) = false ∧ (p.text.toList == []) = true ∧ (p.kind == 2) = false) ∨ ((p.kind != kdN k) = false ∧ (p.text.toList == []) = true ∧ (p.kind == 2) = true ∧ decide (p.num < 0) = false ∧ decide (255 < p.num) = false))) := by
  unfold badK
  cases (p.kind != kdN k) <;> cases (p.text.toList == []) <;> cases (p.kind == 2) <;> cases decide (p.num < 0) <;> cases decide (255 < p.num) <;> simp
def numAt (ps : List PT) (i : Nat) : Int := match ps[i]? with | some p => p.num | none => 0
def applyV (k : Nat) (ps : List PT) : Value × Int := if ps.length = arN k ∧ ps.all (fun p => !badK k p) = true then (doesV k (numAt ps 0) (numAt ps 1), 0) else (pV 0 0 [], 2)
def zeroP : Array Value := #[.int .i64 0, .int .i64 0, .string ⟨#[]⟩]

set_option maxRecDepth 1000000 in
theorem number_any (n : Int) (w : World) : Calls Tryd.prog 37 #[.int .i64 n] w fun e w' => e = .returned (pV 1 n []) ∧ Below w.heap.size w w' :=
  valued (ν := fun _ => .int .i64 n) (r := .agg [.int .i64 1, .opq 0, .str []]) (args := [.opq 0]) (show ansV _ (Ev.calls Tryd.prog Ev.noFacts 100000 60 _ _ Mem.start) = true by kernel_rfl) (vl_opq _ 0 rfl rfl (vl_nil _)) (is_primq rfl) w
set_option maxRecDepth 1000000 in
theorem mistake_div (w : World) : Calls Tryd.prog 62 #[.string ⟨#[100, 105, 118, 105, 100, 101, 32, 98, 121, 32, 122, 101, 114, 111]⟩] w fun e w' => e = .returned (pV 4 0 divT) ∧ Below w.heap.size w w' :=
  valued (ν := ν0) (r := .agg [.int .i64 4, .int .i64 0, .str divT]) (args := [.str divT]) (show ansV _ (Ev.calls Tryd.prog Ev.noFacts 100000 60 _ _ Mem.start) = true by kernel_rfl) (by simp only [VL, V]; exact ⟨_, _, rfl, ⟨rfl, by decide⟩, rfl⟩) is_prim w
set_option maxRecDepth 1000000 in
theorem quo_any (a b : Int) (h : b ≠ 0) (w : World) : Calls Tryd.prog 41 #[.int .i64 a, .int .i64 b] w fun e w' => e = .returned (.int .i64 (IntKind.i64.wrap (a.tdiv b))) ∧ Below w.heap.size w w' := by
  haveI := one_ok (quo_ok (isx a b (IntKind.i64.wrap (a.tdiv b))) (isy a b (IntKind.i64.wrap (a.tdiv b))) (i := 2) h rfl)
  exact valued (ν := νd a b (IntKind.i64.wrap (a.tdiv b))) (r := q) (show ansV _ (Ev.calls Tryd.prog (table [⟨.quo, x, y, q⟩] []) 100000 60 _ _ Mem.start) = true by kernel_rfl) (vl_xy a b _) (fun E z h => by simp only [V] at h; exact h.1) w
set_option maxRecDepth 1000000 in
theorem rem_any (a b : Int) (h : b ≠ 0) (w : World) : Calls Tryd.prog 42 #[.int .i64 a, .int .i64 b] w fun e w' => e = .returned (.int .i64 (a.tmod b)) ∧ Below w.heap.size w w' := by
  haveI := one_ok (rem_ok (isx a b (a.tmod b)) (isy a b (a.tmod b)) (i := 2) h rfl)
  exact valued (ν := νd a b (a.tmod b)) (r := q) (show ansV _ (Ev.calls Tryd.prog (table [⟨.rem, x, y, q⟩] []) 100000 60 _ _ Mem.start) = true by kernel_rfl) (vl_xy a b _) (fun E z h => by simp only [V] at h; exact h.1) w

theorem stored {W : World} {r : Nat} (h : Blk W r zeroP) (a b : Int) (t : ByteArray) : Blk (((W.setCell ⟨r, 0, none⟩ (.int .i64 a)).setCell ⟨r, 1, none⟩ (.int .i64 b)).setCell ⟨r, 2, none⟩ (.string t)) r #[.int .i64 a, .int .i64 b, .string t] :=
  ((h.set 0 (.int .i64 a) (by simp [zeroP])).set 1 (.int .i64 b) (by simp [zeroP])).set 2 (.string t) (by simp [zeroP])
theorem stored_below {B : Nat} {w W : World} {r : Nat} (h : Below B w W) (hr : B ≤ r) (a b c : Value) : Below B w (((W.setCell ⟨r, 0, none⟩ a).setCell ⟨r, 1, none⟩ b).setCell ⟨r, 2, none⟩ c) :=
  ((h.setCell (p := ⟨r, 0, none⟩) hr _).setCell (p := ⟨r, 1, none⟩) hr _).setCell (p := ⟨r, 2, none⟩) hr _

set_option maxRecDepth 100000 in
set_option maxHeartbeats 8000000 in
theorem divide_at (k : Nat) (hk : k = 3 ∨ k = 4) (a b : Int) (pf p : Nat) (w : World) (hp : pf < w.heap.size) (g : FuncId) (hg : divN k = some g) (hc : w.cell? ⟨pf, p, none⟩ = some (.func (.func g) #[] #[])) :
    Calls Tryd.prog 61 #[.int .i64 a, .int .i64 b, .pointer (some ⟨pf, p, none⟩)] w fun e w' => e = .returned (doesV k a b) ∧ Below w.heap.size w w' := by
  have B0 := Blk.new w zeroP 26
  have l0 : Below w.heap.size w (w.alloc (.cells zeroP 26)) := (Below.refl _ w).alloc (Nat.le_refl _) _
  by_cases h0 : b = 0
  · subst h0
    have hd : doesV k a 0 = .agg #[.int .i64 4, .int .i64 0, .string (Ev.bytes divT)] := by rcases hk with rfl | rfl <;> rfl
    rw [hd]
    have K := fun w => mistake_div w
    rw [show pV 4 0 divT = .agg #[.int .i64 4, .int .i64 0, .string (Ev.bytes divT)] from rfl] at K
    generalize Ev.bytes divT = u at K ⊢
    have K := Lib.hid K
    clear hd
    go_enter Tryd.func61, Tryd.ntmps61
    go_wp2_with (go_at_call 62; refine (K.out _).mono ?_; rintro e w1 ⟨rfl, b1⟩; have B1 := B0.below b1 B0.lt; have c0 := B1.cell 0; have c1 := B1.cell 1; have c2 := B1.cell 2; have g := B1.free; simp only [zeroP, List.getElem?_toArray, List.getElem?_cons_zero, List.getElem?_cons_succ] at c0 c1 c2)
    have B2 := stored B1 4 0 u
    have hb := stored_below (chain l0 b1) (Nat.le_refl _) (.int .i64 4) (.int .i64 0) (.string u)
    generalize ((w1.setCell ⟨w.heap.size, 0, none⟩ (.int .i64 4)).setCell ⟨w.heap.size, 1, none⟩ (.int .i64 0)).setCell ⟨w.heap.size, 2, none⟩ (.string u) = W2 at B2 hb ⊢
    have f0 := B2.cell 0
    have f1 := B2.cell 1
    have f2 := B2.cell 2
    simp only [List.getElem?_toArray, List.getElem?_cons_zero, List.getElem?_cons_succ] at f0 f1 f2
    refine bodyPost_ret (v := .agg #[.int .i64 4, .int .i64 0, .string u]) (by simp [results, Tryd.results61, go_sem, f0, f1, f2]) rfl ?_
    exact ⟨rfl, hb⟩
  · have e0 : (b == 0) = false := by rw [beq_eq_false_iff_ne]; exact h0
    obtain ⟨n, hd, hK⟩ : ∃ n, doesV k a b = .agg #[.int .i64 1, .int .i64 n, .string ⟨#[]⟩] ∧ ∀ w, Calls Tryd.prog g #[.int .i64 a, .int .i64 b] w fun e w' => e = .returned (.int .i64 n) ∧ Below w.heap.size w w' := by
      rcases hk with rfl | rfl
      · cases hg; exact ⟨_, if_neg h0, quo_any a b h0⟩
      · cases hg; exact ⟨_, if_neg h0, rem_any a b h0⟩
    rw [hd]
    have K := Lib.hid (fun w => number_any n w)
    rw [show pV 1 n [] = .agg #[.int .i64 1, .int .i64 n, .string ⟨#[]⟩] from rfl] at K
    have HK := Lib.hid hK
    have hg2 : g = 41 ∨ g = 42 := by rcases hk with rfl | rfl <;> cases hg <;> simp
    clear hd hK hg hk
    rcases hg2 with rfl | rfl
    · go_enter Tryd.func61, Tryd.ntmps61
      go_wp2_with (first | (go_at_call 41; refine (HK.out _).mono ?_; rintro e w1 ⟨rfl, b1⟩; have hb1 := chain l0 b1; have B1 := B0.below b1 B0.lt) | (go_at_call 37; refine (K.out _).mono ?_; rintro e w2 ⟨rfl, b2⟩; have B2 := B1.below b2 B1.lt; have c0 := B2.cell 0; have c1 := B2.cell 1; have c2 := B2.cell 2; have g := B2.free; simp only [zeroP, List.getElem?_toArray, List.getElem?_cons_zero, List.getElem?_cons_succ] at c0 c1 c2))
      have B3 := stored B2 1 n ⟨#[]⟩
      have hb := stored_below (chain hb1 b2) (Nat.le_refl _) (.int .i64 1) (.int .i64 n) (.string ⟨#[]⟩)
      generalize ((w2.setCell ⟨w.heap.size, 0, none⟩ (.int .i64 1)).setCell ⟨w.heap.size, 1, none⟩ (.int .i64 n)).setCell ⟨w.heap.size, 2, none⟩ (.string ⟨#[]⟩) = W2 at B3 hb ⊢
      have f0 := B3.cell 0
      have f1 := B3.cell 1
      have f2 := B3.cell 2
      simp only [List.getElem?_toArray, List.getElem?_cons_zero, List.getElem?_cons_succ] at f0 f1 f2
      refine bodyPost_ret (v := .agg #[.int .i64 1, .int .i64 n, .string ⟨#[]⟩]) (by simp [results, Tryd.results61, go_sem, f0, f1, f2]) rfl ?_
      exact ⟨rfl, hb⟩
    · go_enter Tryd.func61, Tryd.ntmps61
      go_wp2_with (first | (go_at_call 42; refine (HK.out _).mono ?_; rintro e w1 ⟨rfl, b1⟩; have hb1 := chain l0 b1; have B1 := B0.below b1 B0.lt) | (go_at_call 37; refine (K.out _).mono ?_; rintro e w2 ⟨rfl, b2⟩; have B2 := B1.below b2 B1.lt; have c0 := B2.cell 0; have c1 := B2.cell 1; have c2 := B2.cell 2; have g := B2.free; simp only [zeroP, List.getElem?_toArray, List.getElem?_cons_zero, List.getElem?_cons_succ] at c0 c1 c2))
      have B3 := stored B2 1 n ⟨#[]⟩
      have hb := stored_below (chain hb1 b2) (Nat.le_refl _) (.int .i64 1) (.int .i64 n) (.string ⟨#[]⟩)
      generalize ((w2.setCell ⟨w.heap.size, 0, none⟩ (.int .i64 1)).setCell ⟨w.heap.size, 1, none⟩ (.int .i64 n)).setCell ⟨w.heap.size, 2, none⟩ (.string ⟨#[]⟩) = W2 at B3 hb ⊢
      have f0 := B3.cell 0
      have f1 := B3.cell 1
      have f2 := B3.cell 2
      simp only [List.getElem?_toArray, List.getElem?_cons_zero, List.getElem?_cons_succ] at f0 f1 f2
      refine bodyPost_ret (v := .agg #[.int .i64 1, .int .i64 n, .string ⟨#[]⟩]) (by simp [results, Tryd.results61, go_sem, f0, f1, f2]) rfl ?_
      exact ⟨rfl, hb⟩

/-- An entry's function does what its primitive does. -/
theorem does_at (k : Nat) (hk : k < 15) (a b : Int) (cs : Array Value) (W : World) (hcs : match divN k with | none => cs = #[] | some g => ∃ pf p, cs = #[.pointer (some ⟨pf, p, none⟩)] ∧ pf < W.heap.size ∧ W.cell? ⟨pf, p, none⟩ = some (.func (.func g) #[] #[])) :
    Calls Tryd.prog (fnN k) (#[.int .i64 a, .int .i64 b] ++ cs) W fun e w' => e = .returned (doesV k a b) ∧ Below W.heap.size W w' := by
  match k, hk with
  | 0, _ => obtain rfl := hcs; exact d0_at a b W
  | 1, _ => obtain rfl := hcs; exact d1_at a b W
  | 2, _ => obtain rfl := hcs; exact d2_at a b W
  | 3, _ => obtain ⟨pf, p, rfl, h1, h2⟩ := hcs; exact divide_at 3 (.inl rfl) a b pf p W h1 _ rfl h2
  | 4, _ => obtain ⟨pf, p, rfl, h1, h2⟩ := hcs; exact divide_at 4 (.inr rfl) a b pf p W h1 _ rfl h2
  | 5, _ => obtain rfl := hcs; exact d5_at a b W
  | 6, _ => obtain rfl := hcs; exact d6_at a b W
  | 7, _ => obtain rfl := hcs; exact d7_at a b W
  | 8, _ => obtain rfl := hcs; exact d8_at a b W
  | 9, _ => obtain rfl := hcs; exact d9_at a b W
  | 10, _ => obtain rfl := hcs; exact d10_at a b W
  | 11, _ => obtain rfl := hcs; exact d11_at a b W
  | 12, _ => obtain rfl := hcs; exact d12_at a b W
  | 13, _ => obtain rfl := hcs; exact d13_at a b W
  | 14, _ => obtain rfl := hcs; exact d14_at a b W
end Go.Proofs.YtmgfgkikeflenaaDoor
