/- Contract of (*frames.Stack).Pop. -/
import Derived.Test.YtmnadlgglmhfhaaPop
namespace Go.Proofs.Ytmnadlgglmhfhaa
open Go.RowKit
set_option linter.unusedSimpArgs false

theorem Only.off {b : Nat} {W W' : World} (h : Only b W W') : Off (fun i => i = b) W W' := ⟨h.os, h.tape, h.output, Nat.le_of_eq h.size.symm, fun k _ hn => h.block k hn⟩

set_option maxHeartbeats 2000000 in
theorem pop_none (b B lim : Nat) (vl : Value) (w : World) (h : SInv w b B lim [] vl) :
    Calls Try.prog 15 #[.pointer (some ⟨b, 0, none⟩)] w fun e w' => e = .returned (.tuple #[.agg #[.int .i64 0, .int .i64 0, .int .i64 0, .string ⟨#[]⟩, .slice none 0 0, .slice none 0 0], .bool false]) ∧ Below w.heap.size w w' := by
  have H := Lib.hid h
  clear h
  go_enter Try.func15, Try.ntmps15
  go_upto_region 1 with fail
  generalize hW0 : w.alloc (Obj.cells #[.int .i64 0, .int .i64 0, .int .i64 0, .string ⟨#[]⟩, .slice none 0 0, .slice none 0 0] 32) = W0
  have hbel : Below w.heap.size w W0 := by rw [← hW0]; ((repeat (first | exact Below.refl _ _ | (refine Below.alloc ?_ (by first | (simp [World.setCell]; done) | (simp [World.setCell]; omega)) _) | (refine Below.setCell ?_ (by first | (simp [World.setCell]; done) | (simp [World.setCell]; omega)) _) | refine Below.drew ?_)))
  have B0 : Blk W0 w.heap.size #[.int .i64 0, .int .i64 0, .int .i64 0, .string ⟨#[]⟩, .slice none 0 0, .slice none 0 0] := by rw [← hW0]; exact Blk.new w _ _
  clear hW0
  go_upto_region 2 with (go_at_call 20; with_reducible refine (top_none b B lim vl _ (H.out.below hbel)).mono ?_; rintro e w1 ⟨rfl, hb1⟩; have B1 := B0.below hb1 B0.lt; have l1 := hbel.trans (hb1.mono hbel.size))
  generalize hW2 : w1.alloc (Obj.cells #[.int .i64 0, .int .i64 0, .int .i64 0, .string ⟨#[]⟩, .slice none 0 0, .slice none 0 0] 32) = W2
  have B2 : Blk W2 w.heap.size #[.int .i64 0, .int .i64 0, .int .i64 0, .string ⟨#[]⟩, .slice none 0 0, .slice none 0 0] := by rw [← hW2]; exact B1.alloc _
  have P2 : Blk W2 w1.heap.size #[.int .i64 0, .int .i64 0, .int .i64 0, .string ⟨#[]⟩, .slice none 0 0, .slice none 0 0] := by rw [← hW2]; exact Blk.new w1 _ _
  have l2 : Below w.heap.size w W2 := by rw [← hW2]; exact l1.alloc l1.size _
  clear hW2
  have c2 := B2.cell
  have f2 := B2.free
  have p2 := P2.cell
  go_wp2
  have E := ((((((Only.refl w.heap.size W2).set 0 (.int .i64 0)).set 1 (.int .i64 0)).set 2 (.int .i64 0)).set 3 (.string ⟨#[]⟩)).set 4 (.slice none 0 0)).set 5 (.slice none 0 0)
  exact bodyPost_ret (v := .tuple #[.agg #[.int .i64 0, .int .i64 0, .int .i64 0, .string ⟨#[]⟩, .slice none 0 0, .slice none 0 0], .bool false]) (by simp [results, Try.results15, go_sem, c2]) rfl ⟨rfl, l2.trans (E.below (Nat.le_refl _))⟩

set_option maxRecDepth 100000 in
set_option maxHeartbeats 4000000 in
theorem pop_some (b B lim : Nat) (us : List Row) (u : Row) (vl : Value) (w : World) (h : SInv w b B lim (us ++ [u]) vl) :
    Calls Try.prog 15 #[.pointer (some ⟨b, 0, none⟩)] w fun e w' => ∃ vw' vd' vl', e = .returned (.tuple #[.agg #[.int .i64 u.f.k, .int .i64 u.f.o, .int .i64 u.f.n, .string u.f.s, vw', vd'], .bool true]) ∧
      WOwn w' w.heap.size vw' u.f.ws ∧ WOwn w' w.heap.size vd' u.f.ds ∧ SInv w' b B lim us vl' ∧ (∀ k, Foot b vl' us k → Foot b vl (us ++ [u]) k) ∧ Off (fun i => i = b) w w' := by
  have hlim := h.lm
  have htk := h.tk
  have hin : u ∈ us ++ [u] := by simp
  have hmt := mem_takes hin
  have hnl : u.f.ws.length ≤ 4194304 := by unfold FrD.takes at hmt; omega
  have hnd : u.f.ds.length ≤ 4194304 := by unfold FrD.takes at hmt; omega
  have hns : u.f.s.size ≤ 100000000 := by unfold FrD.takes at hmt; omega
  have hlen := len_le_taken (us ++ [u])
  rw [List.length_append, List.length_singleton] at hlen
  obtain ⟨g, cap, rfl, hcap⟩ := h.slice
  have hS := h.blk
  have hta : takenOf (us ++ [u]) = takenOf us + u.f.takes := by rw [takenOf_append, takenOf_one]
  have H := Lib.hid h
  obtain ⟨K, hK⟩ : ∃ K, u.f.takes = K := ⟨_, rfl⟩
  have hKf : 1 + u.f.ws.length + u.f.ds.length + (u.f.s.size + 7) / 8 = K := hK
  obtain ⟨T, hT⟩ : ∃ T, takenOf us = T := ⟨_, rfl⟩
  obtain ⟨T2, hT2⟩ : ∃ T, takenOf (us ++ [u]) = T := ⟨_, rfl⟩
  obtain ⟨N, hN⟩ : ∃ N, us.length = N := ⟨_, rfl⟩
  rw [hT2] at hS hlen htk hta
  rw [hT, hK] at hta
  obtain ⟨L, hL⟩ : ∃ L, N + 1 = L := ⟨_, rfl⟩
  rw [hN, hL] at hS hcap hlen
  have HT := Lib.hid hT; have HN := Lib.hid hN; have HL := Lib.hid hL
  have hsub : (L : Int) - 1 = (N : Int) := by omega
  have hNl : (N : Int) ≤ (cap : Int) := by omega
  have hNL : N ≤ cap := by omega
  have hN0 : (0 : Int) ≤ (N : Int) := by omega
  have hwN : IntKind.i64.wrap (N : Int) = (N : Int) := IntWalk.i64_in _ (by omega)
  have hsubT : (T2 : Int) - (K : Int) = (T : Int) := by omega
  have hwT : IntKind.i64.wrap (T : Int) = (T : Int) := IntWalk.i64_in _ (by omega)
  clear h hin hmt hT hT2 hN hL hK hlen hta htk
  obtain ⟨⟨k, o, n, s, ws, ds⟩, vw, vd⟩ := u
  dsimp only at *
  have kt := fun a1 a2 c1 c2 W => takes_any k o n s a1 a2 ws.length ds.length c1 c2 W (by omega) (by omega) (by omega)
  rw [hKf] at kt
  have KT := Lib.hid kt
  clear kt hKf
  go_enter Try.func15, Try.ntmps15
  go_upto_region 1 with fail
  generalize hW0 : w.alloc (Obj.cells #[.int .i64 0, .int .i64 0, .int .i64 0, .string ⟨#[]⟩, .slice none 0 0, .slice none 0 0] 32) = W0
  have hbel : Below w.heap.size w W0 := by rw [← hW0]; ((repeat (first | exact Below.refl _ _ | (refine Below.alloc ?_ (by first | (simp [World.setCell]; done) | (simp [World.setCell]; omega)) _) | (refine Below.setCell ?_ (by first | (simp [World.setCell]; done) | (simp [World.setCell]; omega)) _) | refine Below.drew ?_)))
  have hsz : W0.heap.size = w.heap.size + 1 := by rw [← hW0]; simp
  have Hsz := Lib.hid hsz
  have B0 : Blk W0 w.heap.size #[.int .i64 0, .int .i64 0, .int .i64 0, .string ⟨#[]⟩, .slice none 0 0, .slice none 0 0] := by rw [← hW0]; exact Blk.new w _ _
  clear hW0 hsz
  go_upto_region 2 with (go_at_call 20; with_reducible refine (top_some b B lim us ⟨⟨k, o, n, s, ws, ds⟩, vw, vd⟩ _ _ (H.out.below hbel)).mono ?_; rintro e w1 ⟨v1, v2, rfl, o1, o2, hb1⟩; obtain ⟨p1, y1, rfl⟩ := own_shape o1; obtain ⟨p2, y2, rfl⟩ := own_shape o2; dsimp only at *; have B1 := B0.below hb1 B0.lt; have l1 := hbel.trans (hb1.mono hbel.size))
  generalize hW2 : w1.alloc (Obj.cells #[.int .i64 k, .int .i64 o, .int .i64 n, .string s, .slice p1 ws.length y1, .slice p2 ds.length y2] 32) = W2
  have B2 : Blk W2 w.heap.size #[.int .i64 0, .int .i64 0, .int .i64 0, .string ⟨#[]⟩, .slice none 0 0, .slice none 0 0] := by rw [← hW2]; exact B1.alloc _
  have P2 : Blk W2 w1.heap.size #[.int .i64 k, .int .i64 o, .int .i64 n, .string s, .slice p1 ws.length y1, .slice p2 ds.length y2] := by rw [← hW2]; exact Blk.new w1 _ _
  have l2 : Below w.heap.size w W2 := by rw [← hW2]; exact l1.alloc l1.size _
  have o1' : WOwn W2 (w.heap.size + 1) (.slice p1 ws.length y1) ws := by rw [← hW2, ← Hsz.out]; exact o1.alloc _
  have o2' : WOwn W2 (w.heap.size + 1) (.slice p2 ds.length y2) ds := by rw [← hW2, ← Hsz.out]; exact o2.alloc _
  have hle := l1.size
  have S2 := hS.below l2 hS.lt
  have blt := hS.lt
  clear hW2 o1 o2
  have s2 := S2.cell
  have f2 := S2.free
  go_upto_region 3 with fail
  go_region_with (fail)
  all_goals
    generalize hW3 : (W2.setCell ⟨b, 2, none⟩ (.slice (some ⟨g, 0, none⟩) N cap)).drew = W3
    have S3 : Blk W3 b #[.int .i64 lim, .int .i64 T2, .slice (some ⟨g, 0, none⟩) N cap, .bool true] := by rw [← hW3]; exact (S2.set 2 _ (by simp)).drew
    have P3 : Blk W3 w1.heap.size #[.int .i64 k, .int .i64 o, .int .i64 n, .string s, .slice p1 ws.length y1, .slice p2 ds.length y2] := by rw [← hW3]; exact (P2.other _ _ (by simp; omega)).drew
    have B3 : Blk W3 w.heap.size #[.int .i64 0, .int .i64 0, .int .i64 0, .string ⟨#[]⟩, .slice none 0 0, .slice none 0 0] := by rw [← hW3]; exact (B2.other _ _ (by simp; omega)).drew
    have O3 : Off (fun i => i = b) W2 W3 := by rw [← hW3]; exact ((Only.refl b W2).set 2 _).drew.off
    clear hW3 s2 f2
    have s3 := S3.cell
    have p3 := P3.cell
    go_upto_region 4 with fail
    go_region_with (go_at_call 12; with_reducible refine (KT.out _ _ _ _ _).mono ?_; rintro e w4 ⟨rfl, hb4⟩; have q4 := below_of_drew hb4; have S4 := S3.below q4 S3.lt; have s4 := S4.cell; have f4 := S4.free; have P4 := P3.below q4 P3.lt; have B4 := B3.below q4 B3.lt)
    all_goals
      generalize hW5 : (World.setCell w4 ⟨b, 1, none⟩ (.int .i64 T)) = W5
      have S5 : Blk W5 b #[.int .i64 lim, .int .i64 T, .slice (some ⟨g, 0, none⟩) N cap, .bool true] := by rw [← hW5]; exact S4.set 1 _ (by simp)
      have P5 : Blk W5 w1.heap.size #[.int .i64 k, .int .i64 o, .int .i64 n, .string s, .slice p1 ws.length y1, .slice p2 ds.length y2] := by rw [← hW5]; exact P4.other _ _ (by simp; omega)
      have B5 : Blk W5 w.heap.size #[.int .i64 0, .int .i64 0, .int .i64 0, .string ⟨#[]⟩, .slice none 0 0, .slice none 0 0] := by rw [← hW5]; exact B4.other _ _ (by simp; omega)
      have O5 : Off (fun i => i = b) w4 W5 := by rw [← hW5]; exact ((Only.refl b w4).set 1 _).off
      clear hW5
      have OA : Off (fun i => i = b) w W5 := (((Off.of_below (S := fun _ => False) l2).trans O3 (T := fun i => i = b) (fun i h => h.elim) (fun i h => .inl h)).trans (Off.of_below (S := fun _ => False) q4) (T := fun i => i = b) (fun i h => h) (fun i h => h.elim)).trans O5 (fun i h => h) (fun i h => .inl h)
      have OB : Off (fun i => i = b) W2 W5 := (O3.trans (Off.of_below (S := fun _ => False) q4) (T := fun i => i = b) (fun i h => h) (fun i h => h.elim)).trans O5 (fun i h => h) (fun i h => .inl h)
      have n1 := OB.own o1' (fun i hi e => by have := own_from o1' i hi; omega)
      have n2 := OB.own o2' (fun i hi e => by have := own_from o2' i hi; omega)
      have p5 := P5.cell
      have b5 := B5.cell
      have f5 := B5.free
      clear s3 p3 s4 f4
      go_wp2
      have E := ((((((Only.refl w.heap.size W5).set 0 (.int .i64 k)).set 1 (.int .i64 o)).set 2 (.int .i64 n)).set 3 (.string s)).set 4 (.slice p1 ws.length y1)).set 5 (.slice p2 ds.length y2)
      have OF := OA.trans E.off (T := fun i => i = b) (fun i h => h) (fun i h => .inr (by omega))
      have SF := E.blk S5 (by omega)
      have hpop := SInv.popped (u := ⟨⟨k, o, n, s, ws, ds⟩, vw, vd⟩) H.out (by rw [HT.out, HN.out]; exact SF) OF
      rw [HN.out, HL.out] at hpop
      refine bodyPost_ret (v := .tuple #[.agg #[.int .i64 k, .int .i64 o, .int .i64 n, .string s, .slice p1 ws.length y1, .slice p2 ds.length y2], .bool true]) (by simp [results, Try.results15, go_sem, b5]) rfl ⟨_, _, _, rfl, ?_, ?_, hpop.1, ?_, OF⟩
      · exact own_low (E.own n1 (fun e => by have := own_from n1 _ e; omega)) (by omega)
      · exact own_low (E.own n2 (fun e => by have := own_from n2 _ e; omega)) (by omega)
      · rw [HN.out, HL.out]; exact hpop.2

end Go.Proofs.Ytmnadlgglmhfhaa
