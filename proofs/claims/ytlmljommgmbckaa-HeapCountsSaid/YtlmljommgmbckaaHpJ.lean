/- The contract of places: all words of a heap. -/
import Derived.Test.YtlmljommgmbckaaHpG
namespace Go.Proofs.Ytlmljommgmbckaa
open Go.RowKit

set_option maxRecDepth 100000 in
set_option maxHeartbeats 4000000 in
theorem places_any (b : Nat) (L : HL) (H : HS) (w : World) (h : HInv w b L H) :
    Calls Try.prog 14 #[.pointer (some ⟨b, 0, none⟩)] w fun e w' => ∃ p c, e = .returned (.slice p H.ws.length c) ∧ WOwn w' w.heap.size (.slice p H.ws.length c) H.ws ∧ Below w.heap.size w w' := by
  have kl := layout_any b L H w h
  have kr := fun W (hW : Below w.heap.size w W) i hi => read_ok b L H W (h.below hW) i hi
  have KL := Lib.hid kl; have KR := Lib.hid kr; have Hh := Lib.hid h
  obtain ⟨N, hNN⟩ : ∃ N, H.ws.length = N := ⟨_, rfl⟩
  have hN := h.len
  have hnur := h.nur
  have hold := h.old
  rw [hNN] at hN ⊢
  have hw1 : IntKind.i64.wrap (2 * (H.old : Int)) = 2 * (H.old : Int) := IntWalk.i64_in _ (by omega)
  have hw2 : IntKind.i64.wrap ((H.nur : Int) + 2 * (H.old : Int)) = (H.nur : Int) + 2 * (H.old : Int) := IntWalk.i64_in _ (by omega)
  obtain ⟨i0, hi, hz0, hz1, hz2⟩ := info_parts infoW
  have HNN := Lib.hid hNN; have HN := Lib.hid hN
  clear kl kr h hNN hN
  go_enter Try.func14, Try.ntmps14
  go_upto_region 2 with (go_at_call 15; with_reducible refine KL.out.mono ?_; rintro e w1 ⟨rfl, hb1⟩)
  generalize hW0 : w1.alloc (Obj.cells #[.int .i64 H.nur, .int .i64 H.old, .int .i64 0, .int .i64 H.top, .int .i64 0] 38) = W0
  have B0 : Blk W0 w1.heap.size #[.int .i64 H.nur, .int .i64 H.old, .int .i64 0, .int .i64 H.top, .int .i64 0] := by rw [← hW0]; exact Blk.new w1 _ _
  have k0 : Below w.heap.size w W0 := by rw [← hW0]; exact hb1.alloc hb1.size _
  have hs1 := hb1.size
  clear hW0
  go_wp2
  go_loopw [4, 5] (fun v i wr => ∃ k : Nat, i = .int .i64 k ∧ k ≤ N ∧ WOwn wr w.heap.size v (H.ws.take k) ∧ (∀ g, v.ownBlock = some g → g ≠ w1.heap.size) ∧ Blk wr w1.heap.size #[.int .i64 H.nur, .int .i64 H.old, .int .i64 0, .int .i64 H.top, .int .i64 0] ∧ Below w.heap.size w wr) (fun _ i _ => N - (intOf i).toNat)
  case atStart => exact ⟨0, rfl, Nat.zero_le _, World.ownsRow_nil _ _ _ _, fun g hg => by simp [Value.ownBlock] at hg, B0, k0⟩
  case round =>
    obtain ⟨k, rfl, hk, ow, hap, Bk, hb⟩ := hrel
    have bk := Bk.cell
    by_cases hlt : k < N
    · have hlt2 : (k : Int) < (H.nur : Int) + 2 * (H.old : Int) := by have := HN.out; omega
      have kr := KR.out wr hb k (by rw [HNN.out]; exact hlt)
      obtain ⟨x, hx⟩ : ∃ x, H.word k = x := ⟨_, rfl⟩
      rw [hx] at kr
      have KRk := Lib.hid kr; have Hx := Lib.hid hx
      obtain ⟨p, c, rfl⟩ := own_shape ow
      have hlen : (H.ws.take k).length = k := by rw [List.length_take, HNN.out]; omega
      rw [hlen] at ow hap ⊢
      have HLen := Lib.hid hlen
      have HOw := Lib.hid ow; have HBk := Lib.hid Bk; have HAp := Lib.hid hap
      clear kr hx ow hap
      go_upto_region 7 with (go_at_call 33; with_reducible refine KRk.out.mono ?_; rintro e w2 ⟨rfl, hb2⟩)
      generalize hW2 : w2.alloc (Obj.cells #[.int .i64 x.1, .int .i64 x.2] 32) = W2
      have B2 : Blk W2 w2.heap.size #[.int .i64 x.1, .int .i64 x.2] := by rw [← hW2]; exact Blk.new w2 _ _
      have k2 : Below wr.heap.size wr W2 := by rw [← hW2]; exact hb2.alloc hb2.size _
      have b2 := B2.cell
      have ow2 := own_on HOw.out k2 (own_lt HOw.out)
      have Bk2 := HBk.out.below k2 HBk.out.lt
      unfold WOwn at ow2
      rw [HLen.out] at ow2
      have HOw2 := Lib.hid ow2; have HBk2 := Lib.hid Bk2; have HB := Lib.hid hb
      have hs2 := (hb.trans (k2.mono hb.size)).size
      have hkN : k ≤ 12582912 := by have := HN.out; omega
      have hl1 := HBk2.out.lt
      clear hW2 bk ow2 Bk2 hb
      go_wp2_with (at_builtin; refine wpList_append_own_at _ rfl _ _ 33 rfl w.heap.size 32 i0 (.agg #[.int .i64 0, .int .i64 0]) 2 16 Try.underlying33 hi hz0 hz1 hz2 rfl (by decide) (.slice p k c) k (flat (H.ws.take k)) rfl (HOw2.out.alloc _) ⟨W2.heap.size, 0, none⟩ 1 1 [.int .i64 x.1, .int .i64 x.2] rfl rfl ?news (by intro u hu; simp at hu; rcases hu with rfl | rfl <;> rfl) (by unfold maxLen; omega) (by omega) (by simp; omega) ?_)
      case news =>
        intro j u hj
        have := (Blk.new W2 #[.int .i64 x.1, .int .i64 x.2] 32).cell j
        rw [show (⟨W2.heap.size, 0, none⟩ : Addr).add j = ⟨W2.heap.size, j, none⟩ from by unfold Addr.add; split <;> simp_all]
        rw [this]
        simpa using hj
      intro v' w6 o6 g6 _ n6
      go_wp2
      have e6 : H.ws.take (k + 1) = H.ws.take k ++ [x] := by
        have hkl : k < H.ws.length := by rw [HNN.out]; exact hlt
        have := Hx.out
        unfold HS.word at this
        rw [List.getD_eq_getElem?_getD, List.getElem?_eq_getElem hkl] at this
        have h7 : H.ws[k] = x := by simpa using this
        rw [List.take_succ_eq_append_getElem hkl, h7]
      refine ⟨⟨k + 1, by simp, by omega, ?_, ?_, ?_, ?_⟩, by simp [intOf]; omega⟩
      · rw [e6]
        show World.ownsRow _ _ _ _ _ _ _
        rw [List.length_append, HLen.out, flat_append]
        exact o6
      · intro g hg
        rcases n6 with q | q
        · exact HAp.out g (by rw [← hg, q])
        · rw [q] at hg
          simp at hg
          omega
      · have := HBk2.out.alloc (.cells #[.int .i64 x.1, .int .i64 x.2] 32)
        exact this.of_same (g6.block _ this.lt (fun e => HAp.out _ e.symm rfl)) g6.size
      · exact ((HB.out.trans (k2.mono HB.out.size)).alloc hs2 _).grown g6 (by simp; omega) (fun i e => by have := own_from HOw.out i e; omega)
    · have hlt2 : ¬ (k : Int) < (H.nur : Int) + 2 * (H.old : Int) := by have := HN.out; omega
      have hkN : k = N := by omega
      subst hkN
      rw [← HNN.out, List.take_length] at ow
      obtain ⟨p, c, rfl⟩ := own_shape ow
      have HOw := Lib.hid ow
      clear ow hap
      rw [HNN.out] at *
      go_wp2
      go_ret
      exact ⟨p, c, rfl, HOw.out, hb⟩

end Go.Proofs.Ytlmljommgmbckaa
