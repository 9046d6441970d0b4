/- Contracts of the reference's Top and Pop. (Printed by gen_pop.py from the texts of the stack's own.) -/
import Derived.Test.YtmnadlgglmhfhaaRef1
namespace Go.Proofs.Ytmnadlgglmhfhaa
open Go.RowKit
set_option linter.unusedSimpArgs false

set_option maxHeartbeats 1000000 in
theorem rtop_none (b B lim : Nat) (vl : Value) (w : World) (h : RInv w b B lim [] vl) :
    Calls Try.prog 32 #[.pointer (some ⟨b, 0, none⟩)] w fun e w' => e = .returned (.tuple #[.agg #[.int .i64 0, .int .i64 0, .int .i64 0, .string ⟨#[]⟩, .slice none 0 0, .slice none 0 0], .bool false]) ∧ Below w.heap.size w w' := by
  have hS := h.blk
  obtain ⟨a, c, hv⟩ := own_shape h.row
  simp at hv
  subst hv
  clear h
  go_enter Try.func32, Try.ntmps32
  go_upto_region 1 with fail
  generalize hW0 : w.alloc (Obj.cells #[.int .i64 0, .int .i64 0, .int .i64 0, .string ⟨#[]⟩, .slice none 0 0, .slice none 0 0] 32) = W0
  have hbel : Below w.heap.size w W0 := by rw [← hW0]; ((repeat (first | exact Below.refl _ _ | (refine Below.alloc ?_ (by first | (simp [World.setCell]; done) | (simp [World.setCell]; omega)) _) | (refine Below.setCell ?_ (by first | (simp [World.setCell]; done) | (simp [World.setCell]; omega)) _) | refine Below.drew ?_)))
  have B0 : Blk W0 w.heap.size #[.int .i64 0, .int .i64 0, .int .i64 0, .string ⟨#[]⟩, .slice none 0 0, .slice none 0 0] := by rw [← hW0]; exact Blk.new w _ _
  have S0 := hS.below hbel hS.lt
  clear hW0
  go_wp2_with (go_at_call 43; with_reducible refine (rnone_any b _ _ true _ S0).mono ?_; rintro e w1 ⟨rfl, hb1⟩; have S1 := S0.below hb1 S0.lt; have s1 := S1.cell; have B1 := B0.below hb1 B0.lt; have c1 := B1.cell; have f1 := B1.free; have l1 := hbel.trans (hb1.mono hbel.size))
  have E := ((((((Only.refl w.heap.size w1).set 0 (.int .i64 0)).set 1 (.int .i64 0)).set 2 (.int .i64 0)).set 3 (.string ⟨#[]⟩)).set 4 (.slice none 0 0)).set 5 (.slice none 0 0)
  exact bodyPost_ret (v := .tuple #[.agg #[.int .i64 0, .int .i64 0, .int .i64 0, .string ⟨#[]⟩, .slice none 0 0, .slice none 0 0], .bool false]) (by simp [results, Try.results32, go_sem, c1]) rfl ⟨rfl, l1.trans (E.below (Nat.le_refl _))⟩

set_option maxRecDepth 100000 in
set_option maxHeartbeats 4000000 in
theorem rtop_some (b B lim : Nat) (us : List Row) (u : Row) (vl : Value) (w : World) (h : RInv w b B lim (us ++ [u]) vl) :
    Calls Try.prog 32 #[.pointer (some ⟨b, 0, none⟩)] w fun e w' => ∃ vw' vd', e = .returned (.tuple #[.agg #[.int .i64 u.f.k, .int .i64 u.f.o, .int .i64 u.f.n, .string u.f.s, vw', vd'], .bool true]) ∧
      WOwn w' w.heap.size vw' u.f.ws ∧ WOwn w' w.heap.size vd' u.f.ds ∧ Below w.heap.size w w' := by
  have hlim := h.lm
  have htk := h.tk
  have hin : u ∈ us ++ [u] := by simp
  have hmt := mem_takes hin
  have hnl : u.f.ws.length ≤ 4194304 := by unfold FrD.takes at hmt; omega
  have hnd : u.f.ds.length ≤ 4194304 := by unfold FrD.takes at hmt; omega
  have hlen := len_le_taken (us ++ [u])
  rw [List.length_append, List.length_singleton] at hlen
  obtain ⟨g, cap, rfl, hcap⟩ := h.slice
  obtain ⟨q1, q2⟩ := h.wrd u hin
  have ko := fun W (hW : Below w.heap.size w W) => rown_any u.f u.vw u.vd W (q1.at.below hW (Nat.le_refl _)) (q2.at.below hW (Nat.le_refl _)) (own_nil_or q1) (own_nil_or q2) (by omega) (by omega)
  have KO := Lib.hid ko
  have hS := h.blk
  obtain ⟨T, hT⟩ : ∃ T, takenOf (us ++ [u]) = T := ⟨_, rfl⟩
  rw [hT] at hlen htk
  obtain ⟨N, hN⟩ : ∃ N, us.length = N := ⟨_, rfl⟩
  have e0 := h.last 0 (by decide)
  have e1 := h.last 1 (by decide)
  have e2 := h.last 2 (by decide)
  have e3 := h.last 3 (by decide)
  have e4 := h.last 4 (by decide)
  have e5 := h.last 5 (by decide)
  simp only [Row.cells, Nat.add_zero, List.getElem?_cons_zero, List.getElem?_cons_succ] at e0 e1 e2 e3 e4 e5
  rw [hN] at e0 e1 e2 e3 e4 e5 hS hcap hlen
  have hglt := own_lt h.row g rfl
  obtain ⟨a1, x1, hv1⟩ := own_shape q1
  obtain ⟨a2, x2, hv2⟩ := own_shape q2
  clear ko h hin hmt hT hN q1 q2
  obtain ⟨⟨k, o, n, s, ws, ds⟩, vw, vd⟩ := u
  dsimp only at *
  subst hv1 hv2
  obtain ⟨lw, hlw⟩ : ∃ l, ws.length = l := ⟨_, rfl⟩
  obtain ⟨ld, hld⟩ : ∃ l, ds.length = l := ⟨_, rfl⟩
  rw [hlw] at KO e4 hnl
  rw [hld] at KO e5 hnd
  have HLw := Lib.hid hlw; have HLd := Lib.hid hld
  clear hlw hld
  obtain ⟨L, hL⟩ : ∃ L, N + 1 = L := ⟨_, rfl⟩
  rw [hL] at hS hcap hlen
  have hsub : (L : Int) - 1 = (N : Int) := by omega
  have hNl : (N : Int) < (L : Int) := by omega
  have hNL : N < L := by omega
  have hwN : IntKind.i64.wrap (N : Int) = (N : Int) := IntWalk.i64_in _ (by omega)
  have hL0 : (L == 0) = false := by simp; omega
  have hL1 : ((L : Int) == 0) = false := by simp; omega
  clear hL
  have hN0 : (0 : Int) ≤ (N : Int) := by omega
  have hN1 : (N : Int) ≤ 4194304 := by omega
  have HE := Lib.hid (And.intro e0 (And.intro e1 (And.intro e2 (And.intro e3 (And.intro e4 e5)))))
  clear e0 e1 e2 e3 e4 e5
  go_enter Try.func32, Try.ntmps32
  go_upto_region 1 with fail
  generalize hW0 : w.alloc (Obj.cells #[.int .i64 0, .int .i64 0, .int .i64 0, .string ⟨#[]⟩, .slice none 0 0, .slice none 0 0] 32) = W0
  have hbel : Below w.heap.size w W0 := by rw [← hW0]; ((repeat (first | exact Below.refl _ _ | (refine Below.alloc ?_ (by first | (simp [World.setCell]; done) | (simp [World.setCell]; omega)) _) | (refine Below.setCell ?_ (by first | (simp [World.setCell]; done) | (simp [World.setCell]; omega)) _) | refine Below.drew ?_)))
  have B0 : Blk W0 w.heap.size #[.int .i64 0, .int .i64 0, .int .i64 0, .string ⟨#[]⟩, .slice none 0 0, .slice none 0 0] := by rw [← hW0]; exact Blk.new w _ _
  have S0 := hS.below hbel hS.lt
  clear hW0
  go_upto_region 3 with (go_at_call 43; with_reducible refine (rnone_any b _ _ true _ S0).mono ?_; rintro e w1 ⟨rfl, hb1⟩; have S1 := S0.below hb1 S0.lt; have s1 := S1.cell; have B1 := B0.below hb1 B0.lt; have c1 := B1.cell; have f1 := B1.free; have l1 := hbel.trans (hb1.mono hbel.size))
  obtain ⟨e0, e1, e2, e3, e4, e5⟩ := HE.out
  have r0 := (l1.cell (p := ⟨g, N * 6, none⟩) hglt).trans e0
  have r1 := (l1.cell (p := ⟨g, N * 6 + 1, none⟩) hglt).trans e1
  have r2 := (l1.cell (p := ⟨g, N * 6 + 2, none⟩) hglt).trans e2
  have r3 := (l1.cell (p := ⟨g, N * 6 + 3, none⟩) hglt).trans e3
  have r4 := (l1.cell (p := ⟨g, N * 6 + 4, none⟩) hglt).trans e4
  have r5 := (l1.cell (p := ⟨g, N * 6 + 5, none⟩) hglt).trans e5
  clear e0 e1 e2 e3 e4 e5
  go_region_with (go_at_call 44; with_reducible refine (KO.out _ l1.drew).mono ?_; rintro e w4 ⟨v1, v2, m, rfl, o1, o2, m1, m2, m3, hb4⟩; rw [size_drew] at o1 m1; obtain ⟨p1, y1, rfl⟩ := own_shape o1; obtain ⟨p2, y2, rfl⟩ := own_shape o2; have q4 := below_of_drew hb4; have l4 := l1.trans (q4.mono l1.size); have B4 := B1.below q4 B1.lt; have c4 := B4.cell; have f4 := B4.free)
  all_goals
    go_wp2
    have E := ((((((Only.refl w.heap.size w4).set 0 (.int .i64 k)).set 1 (.int .i64 o)).set 2 (.int .i64 n)).set 3 (.string s)).set 4 (.slice p1 ws.length y1)).set 5 (.slice p2 ds.length y2)
    have hs1 := B1.lt
    have hmm := l1.size
    refine bodyPost_ret (v := .tuple #[.agg #[.int .i64 k, .int .i64 o, .int .i64 n, .string s, (.slice p1 ws.length y1), (.slice p2 ds.length y2)], .bool true]) (by simp [results, Try.results32, go_sem, c4]) rfl ⟨.slice p1 ws.length y1, (.slice p2 ds.length y2), rfl, ?_, ?_, l4.trans (E.below (Nat.le_refl _))⟩
    · exact E.own (own_low o1 hmm) (fun e => by have := own_from o1 _ e; omega)
    · exact E.own (own_low o2 (by omega)) (fun e => by have := own_from o2 _ e; omega)

set_option maxHeartbeats 2000000 in
theorem rpop_none (b B lim : Nat) (vl : Value) (w : World) (h : RInv w b B lim [] vl) :
    Calls Try.prog 29 #[.pointer (some ⟨b, 0, none⟩)] w fun e w' => e = .returned (.tuple #[.agg #[.int .i64 0, .int .i64 0, .int .i64 0, .string ⟨#[]⟩, .slice none 0 0, .slice none 0 0], .bool false]) ∧ Below w.heap.size w w' := by
  have H := Lib.hid h
  clear h
  go_enter Try.func29, Try.ntmps29
  go_upto_region 1 with fail
  generalize hW0 : w.alloc (Obj.cells #[.int .i64 0, .int .i64 0, .int .i64 0, .string ⟨#[]⟩, .slice none 0 0, .slice none 0 0] 32) = W0
  have hbel : Below w.heap.size w W0 := by rw [← hW0]; ((repeat (first | exact Below.refl _ _ | (refine Below.alloc ?_ (by first | (simp [World.setCell]; done) | (simp [World.setCell]; omega)) _) | (refine Below.setCell ?_ (by first | (simp [World.setCell]; done) | (simp [World.setCell]; omega)) _) | refine Below.drew ?_)))
  have B0 : Blk W0 w.heap.size #[.int .i64 0, .int .i64 0, .int .i64 0, .string ⟨#[]⟩, .slice none 0 0, .slice none 0 0] := by rw [← hW0]; exact Blk.new w _ _
  clear hW0
  go_upto_region 2 with (go_at_call 32; with_reducible refine (rtop_none b B lim vl _ (H.out.below hbel)).mono ?_; rintro e w1 ⟨rfl, hb1⟩; have B1 := B0.below hb1 B0.lt; have l1 := hbel.trans (hb1.mono hbel.size))
  generalize hW2 : w1.alloc (Obj.cells #[.int .i64 0, .int .i64 0, .int .i64 0, .string ⟨#[]⟩, .slice none 0 0, .slice none 0 0] 32) = W2
  have B2 : Blk W2 w.heap.size #[.int .i64 0, .int .i64 0, .int .i64 0, .string ⟨#[]⟩, .slice none 0 0, .slice none 0 0] := by rw [← hW2]; exact B1.alloc _
  have P2 : Blk W2 w1.heap.size #[.int .i64 0, .int .i64 0, .int .i64 0, .string ⟨#[]⟩, .slice none 0 0, .slice none 0 0] := by rw [← hW2]; exact Blk.new w1 _ _
  have l2 : Below w.heap.size w W2 := by rw [← hW2]; exact l1.alloc l1.size _
  clear hW2
  have c2 := B2.cell
  have f2 := B2.free
  have p2 := P2.cell
  go_wp2
  have E := ((((((Only.refl w.heap.size W2).set 0 (.int .i64 0)).set 1 (.int .i64 0)).set 2 (.int .i64 0)).set 3 (.string ⟨#[]⟩)).set 4 (.slice none 0 0)).set 5 (.slice none 0 0)
  exact bodyPost_ret (v := .tuple #[.agg #[.int .i64 0, .int .i64 0, .int .i64 0, .string ⟨#[]⟩, .slice none 0 0, .slice none 0 0], .bool false]) (by simp [results, Try.results29, go_sem, c2]) rfl ⟨rfl, l2.trans (E.below (Nat.le_refl _))⟩

set_option maxRecDepth 100000 in
set_option maxHeartbeats 4000000 in
theorem rpop_some (b B lim : Nat) (us : List Row) (u : Row) (vl : Value) (w : World) (h : RInv w b B lim (us ++ [u]) vl) :
    Calls Try.prog 29 #[.pointer (some ⟨b, 0, none⟩)] w fun e w' => ∃ vw' vd' vl', e = .returned (.tuple #[.agg #[.int .i64 u.f.k, .int .i64 u.f.o, .int .i64 u.f.n, .string u.f.s, vw', vd'], .bool true]) ∧
      WOwn w' w.heap.size vw' u.f.ws ∧ WOwn w' w.heap.size vd' u.f.ds ∧ RInv w' b B lim us vl' ∧ (∀ k, Foot b vl' us k → Foot b vl (us ++ [u]) k) ∧ Off (fun i => i = b) w w' := by
  have hlim := h.lm
  have htk := h.tk
  have hin : u ∈ us ++ [u] := by simp
  have hmt := mem_takes hin
  have hnl : u.f.ws.length ≤ 4194304 := by unfold FrD.takes at hmt; omega
  have hnd : u.f.ds.length ≤ 4194304 := by unfold FrD.takes at hmt; omega
  have hns : u.f.s.size ≤ 100000000 := by unfold FrD.takes at hmt; omega
  have hlen := len_le_taken (us ++ [u])
  rw [List.length_append, List.length_singleton] at hlen
  obtain ⟨g, cap, rfl, hcap⟩ := h.slice
  have hS := h.blk
  have hta : takenOf (us ++ [u]) = takenOf us + u.f.takes := by rw [takenOf_append, takenOf_one]
  have H := Lib.hid h
  obtain ⟨K, hK⟩ : ∃ K, u.f.takes = K := ⟨_, rfl⟩
  have hKf : 1 + u.f.ws.length + u.f.ds.length + (u.f.s.size + 7) / 8 = K := hK
  obtain ⟨T, hT⟩ : ∃ T, takenOf us = T := ⟨_, rfl⟩
  obtain ⟨T2, hT2⟩ : ∃ T, takenOf (us ++ [u]) = T := ⟨_, rfl⟩
  obtain ⟨N, hN⟩ : ∃ N, us.length = N := ⟨_, rfl⟩
  rw [hT2] at hlen htk hta
  rw [hT, hK] at hta
  obtain ⟨L, hL⟩ : ∃ L, N + 1 = L := ⟨_, rfl⟩
  rw [hN, hL] at hS hcap hlen
  have HT := Lib.hid hT; have HN := Lib.hid hN; have HL := Lib.hid hL
  have hsub : (L : Int) - 1 = (N : Int) := by omega
  have hNl : (N : Int) ≤ (cap : Int) := by omega
  have hNL : N ≤ cap := by omega
  have hN0 : (0 : Int) ≤ (N : Int) := by omega
  have hwN : IntKind.i64.wrap (N : Int) = (N : Int) := IntWalk.i64_in _ (by omega)
  have hsubT : (T2 : Int) - (K : Int) = (T : Int) := by omega
  have hwT : IntKind.i64.wrap (T : Int) = (T : Int) := IntWalk.i64_in _ (by omega)
  clear h hin hmt hT hT2 hN hL hK hlen hta htk
  obtain ⟨⟨k, o, n, s, ws, ds⟩, vw, vd⟩ := u
  dsimp only at *
  clear hKf
  go_enter Try.func29, Try.ntmps29
  go_upto_region 1 with fail
  generalize hW0 : w.alloc (Obj.cells #[.int .i64 0, .int .i64 0, .int .i64 0, .string ⟨#[]⟩, .slice none 0 0, .slice none 0 0] 32) = W0
  have hbel : Below w.heap.size w W0 := by rw [← hW0]; ((repeat (first | exact Below.refl _ _ | (refine Below.alloc ?_ (by first | (simp [World.setCell]; done) | (simp [World.setCell]; omega)) _) | (refine Below.setCell ?_ (by first | (simp [World.setCell]; done) | (simp [World.setCell]; omega)) _) | refine Below.drew ?_)))
  have hsz : W0.heap.size = w.heap.size + 1 := by rw [← hW0]; simp
  have Hsz := Lib.hid hsz
  have B0 : Blk W0 w.heap.size #[.int .i64 0, .int .i64 0, .int .i64 0, .string ⟨#[]⟩, .slice none 0 0, .slice none 0 0] := by rw [← hW0]; exact Blk.new w _ _
  clear hW0 hsz
  go_upto_region 2 with (go_at_call 32; with_reducible refine (rtop_some b B lim us ⟨⟨k, o, n, s, ws, ds⟩, vw, vd⟩ _ _ (H.out.below hbel)).mono ?_; rintro e w1 ⟨v1, v2, rfl, o1, o2, hb1⟩; obtain ⟨p1, y1, rfl⟩ := own_shape o1; obtain ⟨p2, y2, rfl⟩ := own_shape o2; dsimp only at *; have B1 := B0.below hb1 B0.lt; have l1 := hbel.trans (hb1.mono hbel.size))
  generalize hW2 : w1.alloc (Obj.cells #[.int .i64 k, .int .i64 o, .int .i64 n, .string s, .slice p1 ws.length y1, .slice p2 ds.length y2] 32) = W2
  have B2 : Blk W2 w.heap.size #[.int .i64 0, .int .i64 0, .int .i64 0, .string ⟨#[]⟩, .slice none 0 0, .slice none 0 0] := by rw [← hW2]; exact B1.alloc _
  have P2 : Blk W2 w1.heap.size #[.int .i64 k, .int .i64 o, .int .i64 n, .string s, .slice p1 ws.length y1, .slice p2 ds.length y2] := by rw [← hW2]; exact Blk.new w1 _ _
  have l2 : Below w.heap.size w W2 := by rw [← hW2]; exact l1.alloc l1.size _
  have o1' : WOwn W2 (w.heap.size + 1) (.slice p1 ws.length y1) ws := by rw [← hW2, ← Hsz.out]; exact o1.alloc _
  have o2' : WOwn W2 (w.heap.size + 1) (.slice p2 ds.length y2) ds := by rw [← hW2, ← Hsz.out]; exact o2.alloc _
  have hle := l1.size
  have S2 := hS.below l2 hS.lt
  have blt := hS.lt
  clear hW2 o1 o2
  have s2 := S2.cell
  have f2 := S2.free
  go_upto_region 3 with fail
  go_region_with (fail)
  all_goals
    generalize hW5 : (W2.setCell ⟨b, 2, none⟩ (.slice (some ⟨g, 0, none⟩) N cap)).drew = W5
    have S5 : Blk W5 b #[.bool true, .int .i64 lim, .slice (some ⟨g, 0, none⟩) N cap] := by rw [← hW5]; exact (S2.set 2 _ (by simp)).drew
    have P5 : Blk W5 w1.heap.size #[.int .i64 k, .int .i64 o, .int .i64 n, .string s, .slice p1 ws.length y1, .slice p2 ds.length y2] := by rw [← hW5]; exact (P2.other _ _ (by simp; omega)).drew
    have B5 : Blk W5 w.heap.size #[.int .i64 0, .int .i64 0, .int .i64 0, .string ⟨#[]⟩, .slice none 0 0, .slice none 0 0] := by rw [← hW5]; exact (B2.other _ _ (by simp; omega)).drew
    have OB : Off (fun i => i = b) W2 W5 := by rw [← hW5]; exact ((Only.refl b W2).set 2 _).drew.off
    clear hW5 s2 f2
    have OA : Off (fun i => i = b) w W5 := (Off.of_below (S := fun _ => False) l2).trans OB (T := fun i => i = b) (fun i h => h.elim) (fun i h => .inl h)
    have n1 := OB.own o1' (fun i hi e => by have := own_from o1' i hi; omega)
    have n2 := OB.own o2' (fun i hi e => by have := own_from o2' i hi; omega)
    have p5 := P5.cell
    have b5 := B5.cell
    have f5 := B5.free
    go_wp2
    have E := ((((((Only.refl w.heap.size W5).set 0 (.int .i64 k)).set 1 (.int .i64 o)).set 2 (.int .i64 n)).set 3 (.string s)).set 4 (.slice p1 ws.length y1)).set 5 (.slice p2 ds.length y2)
    have OF := OA.trans E.off (T := fun i => i = b) (fun i h => h) (fun i h => .inr (by omega))
    have SF := E.blk S5 (by omega)
    have hpop := RInv.popped (u := ⟨⟨k, o, n, s, ws, ds⟩, vw, vd⟩) H.out (by rw [HN.out]; exact SF) OF
    rw [HN.out, HL.out] at hpop
    refine bodyPost_ret (v := .tuple #[.agg #[.int .i64 k, .int .i64 o, .int .i64 n, .string s, .slice p1 ws.length y1, .slice p2 ds.length y2], .bool true]) (by simp [results, Try.results29, go_sem, b5]) rfl ⟨_, _, _, rfl, ?_, ?_, hpop.1, ?_, OF⟩
    · exact own_low (E.own n1 (fun e => by have := own_from n1 _ e; omega)) (by omega)
    · exact own_low (E.own n2 (fun e => by have := own_from n2 _ e; omega)) (by omega)
    · rw [HN.out, HL.out]; exact hpop.2

end Go.Proofs.Ytmnadlgglmhfhaa
