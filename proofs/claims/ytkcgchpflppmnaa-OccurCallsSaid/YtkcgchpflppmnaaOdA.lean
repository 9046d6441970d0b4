/- What holds as long as an interval of blocks stays; kit.Texts. -/
import Derived.Test.YtkcgchpflppmnaaOcZ
import Derived.Laws.MakeOwn
import Derived.Laws.OwnMore
namespace Go.Proofs.Ytkcgchpflppmnaa
open Go.RowKit
set_option linter.unusedSimpArgs false
set_option linter.unusedVariables false

/-- It holds, and in every world with the same blocks from n to below m. -/
structure Held (n m : Nat) (W : World) (P : World → Prop) : Prop where
  le : m ≤ W.heap.size
  on : ∀ W', m ≤ W'.heap.size → (∀ k, n ≤ k → k < m → W'.heap[k]? = W.heap[k]?) → P W'
theorem Held.now {n m : Nat} {W : World} {P : World → Prop} (h : Held n m W P) : P W := h.on W h.le (fun _ _ _ => rfl)
theorem Held.to {n m : Nat} {W W' : World} {P : World → Prop} (h : Held n m W P) (hm : m ≤ W'.heap.size) (hb : ∀ k, n ≤ k → k < m → W'.heap[k]? = W.heap[k]?) : Held n m W' P :=
  ⟨hm, fun W2 h2 hb2 => h.on W2 h2 fun k h3 h4 => (hb2 k h3 h4).trans (hb k h3 h4)⟩
theorem Held.wide {n m n' m' : Nat} {W : World} {P : World → Prop} (h : Held n m W P) (h1 : n' ≤ n) (h2 : m ≤ m') (h3 : m' ≤ W.heap.size) : Held n' m' W P :=
  ⟨h3, fun W2 k2 hb2 => h.on W2 (Nat.le_trans h2 k2) fun k h4 h5 => hb2 k (Nat.le_trans h1 h4) (Nat.lt_of_lt_of_le h5 h2)⟩
theorem Held.below {n m : Nat} {W W' : World} {P : World → Prop} (h : Held n m W P) (hb : Below W.heap.size W W') : Held n m W' P :=
  h.to (Nat.le_trans h.le hb.size) fun k _ hk => hb.block k (Nat.lt_of_lt_of_le hk h.le)
theorem Held.grown {n m g : Nat} {W W' : World} {P : World → Prop} (h : Held n m W P) (hb : W.grownBy W' (some g)) (hg : g < n) : Held n m W' P :=
  h.to (Nat.le_trans h.le hb.size) fun k h1 hk => hb.block k (Nat.lt_of_lt_of_le hk h.le) (fun e => by simp at e; omega)
theorem Held.mp {n m : Nat} {W : World} {P Q : World → Prop} (h : Held n m W P) (hq : ∀ W, P W → Q W) : Held n m W Q := ⟨h.le, fun W' a b => hq _ (h.on W' a b)⟩
theorem below_grown_new {w a b : World} {g : Nat} (h : Below w.heap.size w a) (k : a.grownBy b (some g)) (hg : w.heap.size ≤ g) : Below w.heap.size w b := h.grown k h.size (fun i e => by simp at e; omega)
theorem SOwn.held {W : World} {B n m : Nat} {v : Value} {l : List ByteArray} (h : SOwn W B v l) (hn : n ≤ B) (hm : ∀ g, v.ownBlock = some g → g < m) (hs : m ≤ W.heap.size) : Held n m W (fun W => Txs W v l) :=
  ⟨hs, fun W' h1 hb => SOwn.txs (B := B) ⟨h.1, by
    rcases h.2 with h2 | ⟨g, cap, cur, rfl, hg, hh, r⟩
    · exact .inl h2
    · exact .inr ⟨g, cap, cur, rfl, hg, (hb g (Nat.le_trans hn hg) (hm g rfl)).trans hh, r⟩⟩⟩
theorem SOwn.shape {W : World} {B : Nat} {v : Value} {l : List ByteArray} (h : SOwn W B v l) : ∃ a c, v = .slice a l.length c := own_shape h
theorem SOwn.blt {W : World} {B : Nat} {v : Value} {l : List ByteArray} (h : SOwn W B v l) : ∀ g, v.ownBlock = some g → g < W.heap.size := own_lt h
/-- Texts put behind. -/
theorem SOwn.cat {W : World} {B : Nat} {v v2 : Value} {l l2 : List ByteArray} (h : SOwn W B v l) (h2 : Txs W v2 l2) (hl : l.length + l2.length ≤ 100000000) (hB : B ≤ W.heap.size) :
    ∃ v' W', (Builtin.append_ #[24, 24] 24 #[v, v2]).run Try.prog W = .ok v' W' ∧ SOwn W' B v' (l ++ l2) ∧ Below B W W' := by
  obtain ⟨i0, hi, hz0, hz1, hz2⟩ := info_parts infoS
  obtain ⟨a, c, rfl, hc⟩ := h2
  rcases Nat.eq_zero_or_pos l2.length with h0 | h0
  · have e0 : l2 = [] := List.eq_nil_of_length_eq_zero h0
    subst e0
    exact ⟨v, W, append_empty Try.underlying24 hi h a c, by rw [List.append_nil]; exact h, Below.refl _ _⟩
  · obtain ⟨b, o, rfl, hb, hat⟩ := hc h0
    obtain ⟨v', W', k1, k2, k3, _, _⟩ := run_append_own_at (P := Try.prog) W B 24 24 9 i0 (.string ⟨#[]⟩) 1 16 Try.underlying24 hi hz0 hz1 hz2 rfl (by decide) v l.length (strV l) h ⟨b, o, none⟩ l2.length c (strV l2) (by simp [strV])
      (fun j u hj => by
        unfold strV at hj
        rw [List.getElem?_map] at hj
        rcases hx : l2[j]? with _ | x
        · rw [hx] at hj; simp at hj
        · rw [hx] at hj
          obtain rfl : .string x = u := by simpa using hj
          have := hat j x hx
          rw [Nat.mul_one] at this
          unfold Addr.add
          split
          · next e => subst e; exact this
          · exact this)
      (fun u hu => by unfold strV at hu; obtain ⟨x, _, rfl⟩ := List.mem_map.1 hu; rfl) (by unfold maxLen; omega) (by omega) hB
    refine ⟨v', W', k1, ?_, Below.refl B W |>.grown k3 hB (fun g e => own_from h g e)⟩
    unfold SOwn
    rw [List.length_append, show strV (l ++ l2) = strV l ++ strV l2 from List.map_append]
    exact k2

set_option maxRecDepth 100000 in
set_option maxHeartbeats 8000000 in
theorem texts_any (v : Value) (l : List ByteArray) (w : World) (h : Txs w v l) (hn : l.length ≤ 10000000) :
    Calls Try.prog 24 #[v] w fun e w' => ∃ v', e = .returned v' ∧ SOwn w' w.heap.size v' l ∧ Below w.heap.size w w' := by
  obtain ⟨i0, hinf, hz0, hz1, hz2⟩ := info_parts infoS
  obtain ⟨w1, hmk, own1, hg1⟩ := run_make_own (P := Try.prog) w w.heap.size 24 9 i0 _ 1 Try.underlying24 hinf hz0 hz1 .i64 .i64 (l.length + 2) (by rw [hz2]; omega) (by unfold maxLen; omega) (Nat.le_refl _)
  have hB1 : Below w.heap.size w w1 := (Below.refl _ w).grown hg1 (Nat.le_refl _) (fun i e => by simp [Value.ownBlock] at e)
  have h1 := h.below hB1
  obtain ⟨v2, w2, hrun, o2, k2⟩ := SOwn.cat (l := []) (show SOwn w1 w.heap.size _ [] from own1) h1 (by simp; omega) hB1.size
  rw [List.nil_append] at o2
  have O2 := Lib.hid o2
  have K2 := Lib.hid (hB1.trans k2)
  obtain ⟨a, cap, rfl, _⟩ := h
  obtain ⟨N, hN⟩ : ∃ N, l.length = N := ⟨_, rfl⟩
  have hi : IntKind.i64.wrap ((N : Int) + 2) = (N : Int) + 2 := IntWalk.i64_in _ (by omega)
  rw [hN, show ((N + 2 : Nat) : Int) = (N : Int) + 2 by omega] at hmk
  rw [hN] at hrun ⊢
  clear o2 k2 h1 own1 hg1
  go_enter Try.func24, Try.ntmps24
  go_wp2_with (at_builtin; refine wpList_append_run rfl _ _ _ _ rfl _ _ _ _ rfl rfl hrun ?_)
  go_ret
  exact ⟨_, rfl, O2.out, K2.out⟩
end Go.Proofs.Ytkcgchpflppmnaa
