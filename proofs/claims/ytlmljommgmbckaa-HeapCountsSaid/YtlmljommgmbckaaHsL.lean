/- Calls of a sound heap, each in one form: Alloc, Hole, Put, SetGlobal, Globals; Pick of four. -/
import Derived.Test.YtlmljommgmbckaaHsK
namespace Go.Proofs.Ytlmljommgmbckaa
open Go.RowKit
set_option linter.unusedSimpArgs false

theorem GHeap.of_put {w w' : World} {b : Nat} {L : HL} {gb : Nat} {H H2 : HS} {gl : List Wd} (h : GHeap w b L gb H gl) (I : HInv w' b L H2) (S : Sound H2 gl) (ho : Off (HFoot b L) w w') : GHeap w' b L gb H2 gl := ⟨I, h.ga.off ho, S⟩
theorem wide {w w' : World} {b : Nat} {L : HL} {gb : Nat} (ho : Off (HFoot b L) w w') : Off (GFoot b L gb) w w' := ho.wide (fun _ h => .inl h)

theorem galloc {w : World} {b : Nat} {L : HL} {gb : Nat} {H : HS} {gl : List Wd} (G : GHeap w b L gb H gl) (kind info : Int) (p : Option Addr) (m c : Nat) (us : List Wd) (hm : us.length = m) (hm1 : m ≤ 100) (hu : WAt w (.slice p m c) us) (hr : Ranged us) (hap : 0 < m → ∀ k, (Value.slice p m c).ownBlock = some k → ¬ HFoot b L k) :
    Calls Try.prog 18 #[.pointer (some ⟨b, 0, none⟩), .int .i64 kind, .int .i64 info, .slice p m c] w fun e w' => ∃ (x y : Int) (H' : HS), e = .returned (.tuple #[.int .i64 x, .int .i64 y]) ∧ GHeap w' b L gb H' gl ∧ H'.ng = H.ng ∧ Off (GFoot b L gb) w w' ∧ Did H H' kind info us x y := by
  refine (alloc_full b L H w G.inv G.snd.good kind info p m c us hm hm1 hu hr hap).mono ?_
  rintro e w' ⟨x, y, H', rfl, A, D⟩
  refine ⟨x, y, H', rfl, G.of_put A.inv ?_ A.off, A.ng, wide A.off, D⟩
  rcases D with ⟨rfl, _, _⟩ | ⟨us3, rfl, _, _, hus, hst, q1, q2, q3, q4, q5, q6, q7⟩
  · exact G.snd
  · have htn := G.inv.len
    refine G.snd.alloc (by omega) q1 q2 (by omega) q3 q4 q5 (fun u hu2 => ?_)
    rcases hus with rfl | ⟨rfl, rfl⟩
    · exact hst u hu2
    · rw [List.mem_singleton] at hu2
      subst hu2
      rfl

theorem ghole {w : World} {b : Nat} {L : HL} {gb : Nat} {H : HS} {gl : List Wd} (G : GHeap w b L gb H gl) (a : Int) (h1 : -9223372036854775808 ≤ a) (h2 : a ≤ 9223372036854775807) :
    Calls Try.prog 19 #[.pointer (some ⟨b, 0, none⟩), .int .i64 a] w fun e w' => ∃ (c : Int) (H2 : HS), e = .returned (.int .i64 c) ∧ GHeap w' b L gb H2 gl ∧ H2.ng = H.ng ∧ Off (GFoot b L gb) w w' := by
  by_cases hc : a ∈ H.st ∧ (headOf H a).k = 5
  · obtain ⟨ha, hk⟩ := hc
    obtain ⟨g1, g2, g3, g4⟩ := G.snd.good.at_ a ha
    obtain ⟨i, rfl⟩ := Int.eq_ofNat_of_zero_le g1
    refine (hole_ok b L H w G.inv G.snd.good i ha _ rfl hk).mono ?_
    rintro e w' ⟨rfl, I, hoff⟩
    have ho : Off (HFoot b L) w w' := hoff.wide (fun k hk => .inr (.inl hk))
    exact ⟨0, _, rfl, G.of_put I (G.snd.hole ha hk (by have := G.inv.len; have := G.inv.top; omega)).2 ho, rfl, wide ho⟩
  · refine (hole_no b L H w G.inv a h1 h2 _ rfl ?_).mono ?_
    · unfold objOf
      by_cases ha : a ∈ H.st
      · right; rw [if_pos ha]; exact fun e => hc ⟨ha, e⟩
      · left; rw [if_neg ha]
    · rintro e w' ⟨rfl, hb⟩
      exact ⟨_, H, rfl, G.below hb, rfl, Off.of_below hb⟩

/-- What a Put does: nothing, with an error; or it leaves an Ind that holds the word. -/
theorem gput {w : World} {b : Nat} {L : HL} {gb : Nat} {H : HS} {gl : List Wd} (G : GHeap w b L gb H gl) (a : Int) (h1 : -9223372036854775808 ≤ a) (h2 : a ≤ 9223372036854775807) (k n : Int) (h3 : -9223372036854775808 ≤ n) (h4 : n ≤ 9223372036854775807) :
    Calls Try.prog 20 #[.pointer (some ⟨b, 0, none⟩), .int .i64 a, .agg #[.int .i64 k, .int .i64 n]] w fun e w' => ∃ (c : Int) (H2 : HS), e = .returned (.int .i64 c) ∧ GHeap w' b L gb H2 gl ∧ H2.ng = H.ng ∧ Off (GFoot b L gb) w w' ∧
      ((c ≠ 0 ∧ H2 = H) ∨ (c = 0 ∧ a ∈ H2.st ∧ (headOf H2 a).k = 7 ∧ H2.word (a.toNat + 1) = (k, n) ∧ valueK H k n = true ∧ valueK H2 k n = true)) := by
  by_cases hc : a ∈ H.st ∧ ((headOf H a).k = 5 ∨ (headOf H a).k = 6) ∧ valueK H k n = true
  · obtain ⟨ha, hk, hv⟩ := hc
    obtain ⟨g1, g2, g3, g4⟩ := G.snd.good.at_ a ha
    obtain ⟨i, rfl⟩ := Int.eq_ofNat_of_zero_le g1
    have hpo := parts_ok (n := (H.word i).2) (by rw [(head_ok g3).2]; exact g3)
    rw [(head_ok g3).2] at hpo
    obtain ⟨s, hs⟩ := Int.eq_ofNat_of_zero_le (show 0 ≤ (headOf H i).s by omega)
    refine (put_ok b L H w G.inv G.snd.good i ha k n h3 h4 hv _ rfl hk s hs).mono ?_
    rintro e w' ⟨rfl, I, hoff⟩
    have ho : Off (HFoot b L) w w' := hoff.wide (fun k hk => .inr (.inl hk))
    obtain ⟨u1, u2, u3, u4, u5⟩ := G.snd.upd ha hk hs (by have := G.inv.len; have := G.inv.top; omega) hv
    exact ⟨0, _, rfl, G.of_put I u5 ho, rfl, wide ho, .inr ⟨rfl, ha, by rw [u1], by rw [Int.toNat_natCast]; exact u2, hv, u3⟩⟩
  · refine (put_no b L H w G.inv a h1 h2 k n h3 h4 _ rfl ?_).mono ?_
    · unfold objOf
      by_cases ha : a ∈ H.st
      · rw [if_pos ha]
        cases hv : valueK H k n with
        | false => exact .inr (.inl rfl)
        | true => exact .inr (.inr ⟨fun e => hc ⟨ha, .inl e, hv⟩, fun e => hc ⟨ha, .inr e, hv⟩⟩)
      · left; rw [if_neg ha]
    · rintro e w' ⟨rfl, hb⟩
      exact ⟨_, H, rfl, G.below hb, rfl, Off.of_below hb, .inl ⟨by split <;> omega, rfl⟩⟩

set_option maxRecDepth 100000 in
set_option maxHeartbeats 4000000 in
theorem pick4 (k : Int) (w : World) : Calls Try.prog 17 #[.int .i64 k, .int .i64 4] w fun e w' => (∃ r : Int, e = .returned (.int .i64 r)) ∧ Below w.heap.size w w' := by
  go_enter Try.func17, Try.ntmps17
  go_wp2
  all_goals
    go_ret
    exact ⟨⟨_, rfl⟩, Below.refl _ _⟩

set_option maxRecDepth 100000 in
set_option maxHeartbeats 4000000 in
theorem gglobals {w : World} {b : Nat} {L : HL} {gb : Nat} {H : HS} {gl : List Wd} (G : GHeap w b L gb H gl) : Calls Try.prog 31 #[.pointer (some ⟨b, 0, none⟩)] w fun e w' => e = .returned (.int .i64 (gl.length : Int)) ∧ Below w.heap.size w w' := by
  have kn := none_any b L H w G.inv
  have c := G.inv.blk.cell
  unfold HL.cells at c
  rw [G.ga.vg] at c
  obtain ⟨N, hN⟩ : ∃ N, gl.length = N := ⟨_, rfl⟩
  obtain ⟨N2, hN2⟩ : ∃ N, H.ws.length = N := ⟨_, rfl⟩
  rw [hN, hN2] at c
  rw [hN]
  have KN := Lib.hid kn
  clear kn hN hN2 G
  go_enter Try.func31, Try.ntmps31
  go_wp2_with (go_at_call 38; with_reducible refine (KN.out).mono ?_; rintro e w1 ⟨rfl, rfl⟩)
  go_ret
  exact ⟨rfl, Below.refl _ _⟩

set_option maxRecDepth 100000 in
set_option maxHeartbeats 4000000 in
theorem gset {w : World} {b : Nat} {L : HL} {gb : Nat} {H : HS} {gl : List Wd} (G : GHeap w b L gb H gl) (i k n : Int) (h3 : -9223372036854775808 ≤ n) (h4 : n ≤ 9223372036854775807) :
    Calls Try.prog 23 #[.pointer (some ⟨b, 0, none⟩), .int .i64 i, .agg #[.int .i64 k, .int .i64 n]] w fun e w' => ∃ (c : Int) (gl2 : List Wd), e = .returned (.int .i64 c) ∧ GHeap w' b L gb H gl2 ∧ gl2.length = gl.length ∧ Off (GFoot b L gb) w w' := by
  have HG := Lib.hid G
  have kn := fun W hb => none_any b L H W (G.inv.below hb)
  have KN := Lib.hid kn
  have c0 := G.inv.blk.cell
  unfold HL.cells at c0
  rw [G.ga.vg] at c0
  have hlt := G.inv.blk.lt
  obtain ⟨N, hN⟩ : ∃ N, gl.length = N := ⟨_, rfl⟩
  obtain ⟨N2, hN2⟩ : ∃ N, H.ws.length = N := ⟨_, rfl⟩
  rw [hN, hN2] at c0
  have HN := Lib.hid hN
  clear kn hN hN2 G
  by_cases hi : 0 ≤ i ∧ i < N
  · obtain ⟨j, rfl⟩ := Int.eq_ofNat_of_zero_le hi.1
    have ks := fun W (hb : Below w.heap.size w W) => stands_any b L H W (HG.out.inv.below hb) k n h3 h4
    obtain ⟨r, hr⟩ : ∃ r, standsK H k n = r := ⟨_, rfl⟩
    rw [hr] at ks
    have KS := Lib.hid ks; have HR := Lib.hid hr
    have hjN : j < N := by omega
    have hjI : (j : Int) < (N : Int) := by omega
    have d0 : decide ((j : Int) < 0) = false := by simp
    have d1 : decide ((N : Int) ≤ (j : Int)) = false := by simp; omega
    have d2 : decide (N ≤ j) = false := by simp; omega
    clear ks hr hi
    go_enter Try.func23, Try.ntmps23
    go_upto_region 1 with fail
    generalize hW0 : w.alloc (Obj.cells #[.int .i64 k, .int .i64 n] 32) = W0
    have B0 : Blk W0 w.heap.size #[.int .i64 k, .int .i64 n] := by rw [← hW0]; exact Blk.new w _ _
    have k0 : Below w.heap.size w W0 := by rw [← hW0]; exact (Below.refl _ _).alloc (Nat.le_refl _) _
    have c1 : ∀ j, W0.cell? ⟨b, j, none⟩ = _ := fun j => (k0.cell (p := ⟨b, j, none⟩) hlt).trans (c0 j)
    have b0 := B0.cell
    have HB0 := Lib.hid B0; have HK0 := Lib.hid k0
    clear hW0 c0 B0 k0
    cases r with
    | false =>
      go_wp2_with (first | (go_at_call 38; with_reducible refine ((KN.out W0 HK0.out)).mono ?_; rintro e w1 ⟨rfl, rfl⟩) | (go_at_call 41; with_reducible refine ((KS.out _ HK0.out)).mono ?_; rintro e w2 ⟨rfl, hb2⟩))
      go_ret
      have q := HK0.out.trans (hb2.mono HK0.out.size)
      exact ⟨2, gl, rfl, HG.out.below q, rfl, Off.of_below q⟩
    | true =>
      go_upto_region 5 with (first | (go_at_call 38; with_reducible refine ((KN.out W0 HK0.out)).mono ?_; rintro e w1 ⟨rfl, rfl⟩) | (go_at_call 41; with_reducible refine ((KS.out _ HK0.out)).mono ?_; rintro e w2 ⟨rfl, hb2⟩))
      have k2 := HK0.out.trans (hb2.mono HK0.out.size)
      have G2 := HG.out.below k2
      have c2 := G2.inv.blk.cell
      unfold HL.cells at c2
      rw [G2.ga.vg, HN.out] at c2
      obtain ⟨N2', hN2'⟩ : ∃ N, H.ws.length = N := ⟨_, rfl⟩
      rw [hN2'] at c2
      have b2 := (HB0.out.below hb2 HB0.out.lt).cell
      have fg := G2.ga.blk.free
      have hjl : j < gl.length := by rw [HN.out]; exact hjN
      obtain ⟨e1, e2⟩ := flat_get gl j hjl
      obtain ⟨x, hx⟩ : ∃ x, gl[j] = x := ⟨_, rfl⟩
      rw [hx] at e1 e2
      have g1 : w2.cell? ⟨gb, j * 2, none⟩ = some (.int .i64 x.1) := (G2.ga.blk.cell (j * 2)).trans (by rw [List.getElem?_toArray, Nat.mul_comm]; exact e1)
      have g2 : w2.cell? ⟨gb, j * 2 + 1, none⟩ = some (.int .i64 x.2) := (G2.ga.blk.cell (j * 2 + 1)).trans (by rw [List.getElem?_toArray, Nat.mul_comm]; exact e2)
      have HG2 := Lib.hid G2; have HK2 := Lib.hid k2
      clear k2 G2 e1 e2 hN2' b0 c1 hx hjl
      go_still_tail 7, (by kernel_rfl)
      change wpList _ _ _ _ _ w2.drew
      go_wp2
      go_ret
      have G2 := HG2.out; have k2 := HK2.out
      have hoth : ∀ k', k' ≠ gb → ((w2.setCell ⟨gb, j * 2, none⟩ (.int .i64 k)).setCell ⟨gb, j * 2 + 1, none⟩ (.int .i64 n)).heap[k']? = w2.heap[k']? := fun k' hk => (Below.heap_setCell _ _ _ _ hk).trans (Below.heap_setCell _ _ _ _ hk)
      have hgb : ((w2.setCell ⟨gb, j * 2, none⟩ (.int .i64 k)).setCell ⟨gb, j * 2 + 1, none⟩ (.int .i64 n)).heap[gb]? = some (.cells (flat (gl.set j (k, n))).toArray 32 (0, 0)) := by
        rw [heap_setAt (heap_setAt G2.ga.wh _), List.setIfInBounds_toArray, List.setIfInBounds_toArray, flat_set2 _ _ _ _ (by rw [HN.out]; exact hjN)]
      have hsz : ((w2.setCell ⟨gb, j * 2, none⟩ (.int .i64 k)).setCell ⟨gb, j * 2 + 1, none⟩ (.int .i64 n)).heap.size = w2.heap.size := by simp [World.setCell]
      refine ⟨0, gl.set j (k, n), rfl, ⟨G2.inv.on (Nat.le_of_eq hsz.symm) (fun k' hk => hoth k' (fun e => G2.ga.not (e ▸ hk))), { vg := by rw [List.length_set]; exact G2.ga.vg, wh := hgb, nb := G2.ga.nb, ng := G2.ga.ng, nm := G2.ga.nm, num := num_set G2.ga.num ⟨h3, h4⟩ }, G2.snd.glob HR.out⟩, List.length_set, ⟨k2.os, k2.tape, k2.output, by have := k2.size; have := hsz; show _ ≤ (World.setCell _ _ _).heap.size; omega, fun k' hk hn => (hoth k' (fun e => hn (.inr e))).trans (k2.block k' hk)⟩⟩
  · have hd : decide (i < 0) = true ∨ (decide (i < 0) = false ∧ decide ((N : Int) ≤ i) = true) := by
      by_cases h0 : i < 0
      · exact .inl (by simpa using h0)
      · exact .inr ⟨by simpa using h0, by simp; omega⟩
    rcases hd with d0 | ⟨d0, d1⟩
    all_goals
      clear hi
      go_enter Try.func23, Try.ntmps23
      go_upto_region 1 with fail
      generalize hW0 : w.alloc (Obj.cells #[.int .i64 k, .int .i64 n] 32) = W0
      have k0 : Below w.heap.size w W0 := by rw [← hW0]; exact (Below.refl _ _).alloc (Nat.le_refl _) _
      have c1 : ∀ j, W0.cell? ⟨b, j, none⟩ = _ := fun j => (k0.cell (p := ⟨b, j, none⟩) hlt).trans (c0 j)
      have HK0 := Lib.hid k0
      clear hW0 c0 k0
      go_wp2_with (go_at_call 38; with_reducible refine ((KN.out W0 HK0.out)).mono ?_; rintro e w1 ⟨rfl, rfl⟩)
      go_ret
      exact ⟨2, gl, rfl, HG.out.below HK0.out, rfl, Off.of_below HK0.out⟩

end Go.Proofs.Ytlmljommgmbckaa
