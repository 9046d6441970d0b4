/- The contract of shaper.all: words with their pointers' numbers. -/
import Derived.Test.YtlmljommgmbckaaHsH
namespace Go.Proofs.Ytlmljommgmbckaa
open Go.RowKit
set_option linter.unusedSimpArgs false

theorem ShI.on {w w' : World} {b : Nat} {L : HL} {gb : Nat} {H : HS} {gl : List Wd} {sb mb : Nat} {qv : Value} {l pend : List Int} {base : Nat} (h : ShI w b L gb H gl sb mb qv l pend base) (hs : w.heap.size ≤ w'.heap.size) (ho : ∀ k, SFoot sb mb qv k ∨ GFoot b L gb k → w'.heap[k]? = w.heap[k]?) : ShI w' b L gb H gl sb mb qv l pend base :=
  { h with G := h.G.off hs (fun k hk => ho k (.inr hk)), blk := h.blk.of_same (ho sb (.inl (.inl rfl))) hs, nums := h.nums.of_same (ho mb (.inl (.inr (.inl rfl)))), q := h.q.on (fun k hk => ho k (.inl (.inr (.inr hk)))) }
theorem own_off {S : Nat → Prop} {W W' : World} (h : Off S W W') {base : Nat} {e : TypeId} {size : Nat} {v : Value} {n : Nat} {xs : List Value} (ho : W.ownsRow base e size v n xs) (hn : ∀ g, v.ownBlock = some g → ¬ S g) : W'.ownsRow base e size v n xs := by
  refine ⟨ho.1, ?_⟩
  rcases ho.2 with h2 | ⟨g, cap, cur, rfl, hg, hh, r⟩
  · exact .inl h2
  · exact .inr ⟨g, cap, cur, rfl, hg, (h.block g (Array.getElem?_eq_some_iff.1 hh).1 (hn g rfl)).trans hh, r⟩
theorem drop_step {l r : List Int} {n : Nat} (h : n ≤ l.length) (p : List Int) : (p ++ l.drop n) ++ (l ++ r).drop l.length = p ++ (l ++ r).drop n := by
  rw [List.drop_left, List.append_assoc, List.drop_append_of_le_length h]
theorem wordS_grows (H : HS) (l : List Int) (x : Wd) : ∃ r, (wordS H l x).2 = l ++ r := by
  obtain ⟨r, hr⟩ := allS_grows H [x] l
  exact ⟨r, hr⟩

set_option maxRecDepth 100000 in
set_option maxHeartbeats 4000000 in
theorem sall_any {w : World} {b : Nat} {L : HL} {gb : Nat} {H : HS} {gl : List Wd} {sb mb : Nat} {qv : Value} {l pend : List Int} {base : Nat} (h : ShI w b L gb H gl sb mb qv l pend base) (p : Option Addr) (m c : Nat) (us : List Wd) (hm : us.length = m) (hu : WAt w (.slice p m c) us) (hs : ∀ x ∈ us, standsK H x.1 x.2 = true) (hr : Ranged us) (hap : ∀ k, (Value.slice p m c).ownBlock = some k → ¬ SFoot sb mb qv k) (hp : pend.length ≤ 4194304) (hml : m ≤ 100000000) :
    Calls Try.prog 49 #[.pointer (some ⟨sb, 0, none⟩), .slice p m c] w fun e w' => ∃ p' c' qv', e = .returned (.slice p' m c') ∧ WOwn w' w.heap.size (.slice p' m c') (allS H l us).1 ∧
      ShI w' b L gb H gl sb mb qv' (allS H l us).2 (pend ++ (allS H l us).2.drop l.length) base ∧ Off (SFoot sb mb qv) w w' ∧ (∀ k, qv'.ownBlock = some k → qv.ownBlock = some k ∨ w.heap.size ≤ k) ∧ (∀ k, (Value.slice p' m c').ownBlock = some k → ¬ SFoot sb mb qv' k) := by
  obtain ⟨i0, hi, hz0, hz1, hz2⟩ := info_parts infoW
  have HH := Lib.hid h; have HU := Lib.hid hu; have HS' := Lib.hid hs; have HR := Lib.hid hr; have HAp := Lib.hid hap; have HM := Lib.hid hm
  have hlf := fine_len h.G.snd h.fine
  have htop := h.G.inv.top; have hnur := h.G.inv.nur
  clear h hu hs hr hap hm
  go_enter Try.func49, Try.ntmps49
  go_wp2
  go_loopw [5, 10] (fun v i wr => ∃ (k : Nat) (qv' : Value), i = .int .i64 k ∧ k ≤ m ∧ ShI wr b L gb H gl sb mb qv' (allS H l (us.take k)).2 (pend ++ (allS H l (us.take k)).2.drop l.length) base ∧ WOwn wr w.heap.size v (allS H l (us.take k)).1 ∧ Off (SFoot sb mb qv) w wr ∧ (∀ k, qv'.ownBlock = some k → qv.ownBlock = some k ∨ w.heap.size ≤ k) ∧ (∀ k, v.ownBlock = some k → ¬ SFoot sb mb qv' k)) (fun _ i _ => m - (intOf i).toNat)
  case atStart =>
    refine ⟨0, qv, rfl, Nat.zero_le _, ?_, World.ownsRow_nil _ _ _ _, Off.of_below (Below.refl _ _), fun k hk => .inl hk, fun k hk => by simp [Value.ownBlock] at hk⟩
    simp only [List.take_zero, allS, List.drop_length, List.append_nil]
    exact HH.out
  case round =>
    obtain ⟨k, qv1, rfl, hk, hI, hO, hoff, hq, hvq⟩ := hrel
    obtain ⟨r0, hr0⟩ := allS_grows H (us.take k) l
    obtain ⟨lk, hlk⟩ : ∃ lk, (allS H l (us.take k)).2 = lk := ⟨_, rfl⟩
    obtain ⟨ok, hok⟩ : ∃ ok, (allS H l (us.take k)).1 = ok := ⟨_, rfl⟩
    have hokl : ok.length = k := by rw [← hok, allS_len, List.length_take, HM.out]; omega
    rw [hlk] at hI hr0
    rw [hok] at hO
    obtain ⟨pv, cv, rfl⟩ := own_shape hO
    unfold WOwn at hO
    rw [hokl] at hO hvq ⊢
    have hlkf := fine_len hI.G.snd hI.fine
    have HI := Lib.hid hI; have HO := Lib.hid hO; have HOff := Lib.hid hoff; have HQ := Lib.hid hq; have HVq := Lib.hid hvq; have HLk := Lib.hid hlk; have HOk := Lib.hid hok; have HR0 := Lib.hid hr0; have HOkl := Lib.hid hokl
    clear hI hO hoff hq hvq hlk hok hr0
    by_cases hlt : k < m
    · have hku : k < us.length := by rw [HM.out]; exact hlt
      obtain ⟨x, hx⟩ : ∃ x, us[k] = x := ⟨_, rfl⟩
      obtain ⟨bl, ol, e1, u0, u1⟩ := (HU.out.off0 HOff.out (fun _ => HAp.out)).word k hku
      rw [hx] at u0 u1
      have hxs := HS'.out x (by rw [← hx]; exact List.getElem_mem _)
      have hxr := HR.out x (by rw [← hx]; exact List.getElem_mem _)
      have hltI : (k : Int) < (m : Int) := by omega
      have hstep := allS_snoc H x (us.take k) l
      rw [show us.take k ++ [x] = us.take (k + 1) from by rw [List.take_succ_eq_append_getElem hku, hx], HLk.out, HOk.out] at hstep
      have HStep := Lib.hid hstep
      subst e1
      have hs1 := HOff.out.size
      clear hx hstep
      go_upto_region 5 with fail
      generalize hW1 : wr.alloc (Obj.cells #[.int .i64 x.1, .int .i64 x.2] 32) = W1
      have B1 : Blk W1 wr.heap.size #[.int .i64 x.1, .int .i64 x.2] := by rw [← hW1]; exact Blk.new wr _ _
      have k1 : Below wr.heap.size wr W1 := by rw [← hW1]; exact (Below.refl _ _).alloc (Nat.le_refl _) _
      have b1 := B1.cell
      have I1 := HI.out.below k1
      have O1 := own_on HO.out k1 (own_lt HO.out)
      have hpl : (pend ++ lk.drop l.length).length ≤ 10000000 := by rw [List.length_append, List.length_drop]; omega
      have ks := sword_any I1 x hxs hxr.1 hxr.2 hpl (by omega)
      obtain ⟨y, hy⟩ : ∃ y, (wordS H lk x).1 = y := ⟨_, rfl⟩
      rw [hy] at ks
      have HY := Lib.hid hy; have KS := Lib.hid ks; have HO1 := Lib.hid O1; have HK1 := Lib.hid k1
      clear hy ks hW1 O1 B1 I1 k1 hxs hxr hpl u0 u1 hokl
      go_wp2_with (first | (go_at_call 58; with_reducible refine KS.out.mono ?_; rintro e w2 ⟨qv2, rfl, I2, off2, q2⟩; have HO2 := Lib.hid (own_off off2 HO1.out (fun g hg => HVq.out g hg)); have HI2 := Lib.hid I2; have HOff2 := Lib.hid off2; have HQ2 := Lib.hid q2; clear I2 q2; have hs2 := Nat.le_trans hs1 (Nat.le_trans HK1.out.size off2.size); clear off2) | (at_builtin; refine wpList_append_own_at _ rfl _ _ 33 rfl w.heap.size 32 i0 (.agg #[.int .i64 0, .int .i64 0]) 2 16 Try.underlying33 hi hz0 hz1 hz2 rfl (by decide) (.slice pv k cv) k (flat ok) rfl (HO2.out.alloc _) ⟨w2.heap.size, 0, none⟩ 1 1 [.int .i64 y.1, .int .i64 y.2] rfl rfl ?news (by intro u hu; simp at hu; rcases hu with rfl | rfl <;> rfl) (by unfold maxLen; omega) (by omega) (by simp; omega) ?_))
      case news =>
        intro j u hj
        have := (Blk.new w2 #[.int .i64 y.1, .int .i64 y.2] 32).cell j
        rw [show (⟨w2.heap.size, 0, none⟩ : Addr).add j = ⟨w2.heap.size, j, none⟩ from by unfold Addr.add; split <;> simp_all]
        rw [this]
        simpa using hj
      intro v' w6 o6 g6 _ n6
      have hst := HStep.out
      have e1 : (allS H l (us.take (k + 1))).1 = ok ++ [y] := by rw [hst, HY.out]
      have e2 : (allS H l (us.take (k + 1))).2 = (wordS H lk x).2 := by rw [hst]
      have HE1 := Lib.hid e1; have HE2 := Lib.hid e2; have HO6 := Lib.hid o6; have HG6 := Lib.hid g6; have HN6 := Lib.hid n6
      clear hst e1 e2 o6 g6 n6
      go_wp2
      go_roundw
      case rel =>
        have I2 := HI2.out
        have g6 := HG6.out
        have hg6s : w2.heap.size + 1 ≤ w6.heap.size := by have := g6.size; simpa using this
        have hblk6 : ∀ j, j < w2.heap.size → (Value.slice pv k cv).ownBlock ≠ some j → w6.heap[j]? = w2.heap[j]? := fun j hj hn => (g6.block j (by simp; omega) (fun e => hn e.symm)).trans (Below.heap_alloc _ _ _ hj)
        have hsf : ∀ j, SFoot sb mb qv2 j → j < w2.heap.size ∧ (Value.slice pv k cv).ownBlock ≠ some j := by
          intro j hj
          refine ⟨(I2.lt j hj).1, fun e => ?_⟩
          have hlt1 := own_lt HO1.out j e
          rcases hj with rfl | rfl | hj
          · exact HVq.out _ e (.inl rfl)
          · exact HVq.out _ e (.inr (.inl rfl))
          · rcases HQ2.out j hj with q | q
            · exact HVq.out _ e (.inr (.inr q))
            · omega
        refine ⟨k + 1, qv2, by go_num, by omega, ?_, ?_, ?_, ?_, ?_⟩
        · rw [HE2.out]
          have := HI2.out
          have hI6 : ShI w6 b L gb H gl sb mb qv2 (wordS H lk x).2 (pend ++ lk.drop l.length ++ (wordS H lk x).2.drop lk.length) base := I2.on (by omega) (fun j hj => by
            rcases hj with hj | hj
            · exact hblk6 j (hsf j hj).1 (hsf j hj).2
            · refine hblk6 j (I2.G.lt j hj) (fun e => ?_)
              have h1 := own_from HO1.out j e
              have h2 := I2.foot j hj
              have h3 := HH.out.bs
              have h4 := HH.out.blk.lt
              omega)
          obtain ⟨r1, hr1⟩ := wordS_grows H lk x
          rw [hr1] at hI6 ⊢
          rw [drop_step (by rw [HR0.out]; simp) pend] at hI6
          exact hI6
        · rw [HE1.out]
          show World.ownsRow _ _ _ _ _ _ _
          rw [List.length_append, HOkl.out, flat_append]
          exact HO6.out
        · have o2 := HOff2.out; have k1 := HK1.out; have o0 := HOff.out
          have hs0 := o0.size; have hsk := k1.size; have hs22 := o2.size
          refine ⟨g6.os.trans (o2.os.trans (k1.os.trans o0.os)), g6.tape.trans (o2.tape.trans (k1.tape.trans o0.tape)), g6.output.trans (o2.output.trans (k1.output.trans o0.output)), by omega, fun j hj hn => ?_⟩
          have hn1 : ¬ SFoot sb mb qv1 j := by
            rintro (q | q | q)
            · exact hn (.inl q)
            · exact hn (.inr (.inl q))
            · rcases HQ.out j q with q | q
              · exact hn (.inr (.inr q))
              · omega
          rw [hblk6 j (by omega) (fun e => by have := own_from HO1.out j e; omega), o2.block j (by omega) hn1, k1.block j (by omega), o0.block j hj hn]
        · intro j hj
          rcases HQ2.out j hj with q | q
          · exact HQ.out j q
          · have := HK1.out.size; omega
        · intro j hj hf
          have h1 := hsf j hf
          rcases HN6.out with q | q
          · rw [q] at hj; exact h1.2 hj
          · rw [q] at hj
            simp at hj
            omega
      case measure => simp [intOf]; omega
    · have hkm : k = m := by omega
      have e0 : us.take k = us := List.take_of_length_le (by rw [HM.out]; omega)
      have HE0 := Lib.hid e0
      clear e0
      go_wp2
      go_ret
      have e1 := HLk.out
      have e2 := HOk.out
      rw [HE0.out] at e1 e2
      rw [e1, e2]
      subst hkm
      refine ⟨pv, cv, qv1, rfl, ?_, HI.out, HOff.out, HQ.out, HVq.out⟩
      show World.ownsRow _ _ _ _ _ _ _
      rw [HOkl.out]
      exact HO.out

end Go.Proofs.Ytlmljommgmbckaa
