/- prim.Names: all names, in order. -/
import Derived.Test.YtmgfgkikeflenaaDoorPcP
namespace Go.Proofs.YtmgfgkikeflenaaDoor
open Go.RowKit Go.Shelf
set_option linter.unusedSimpArgs false
set_option linter.unusedVariables false

theorem wide_room : ∀ k, Fence.wide.room k := fun k => by simp [Fence.wide, Fence.room]
abbrev EK : FuncId := 35
abbrev IK : FuncId := 54
theorem keysE_any (b : Nat) (w : World) : Calls Tryd.prog 24 #[.map (some b)] w fun e w' => e = .returned (.func (.func EK) #[] #[.pointer (some ⟨w.heap.size, 0, none⟩)]) ∧ w' = w.alloc (.cells #[.map (some b)] 46) :=
  (AnyZ.keys_in Nm.lays7e Fence.wide 5 trivial rfl (some b) w).calls wide_room
theorem keysI_any (b : Nat) (w : World) : Calls Tryd.prog 26 #[.map (some b)] w fun e w' => e = .returned (.func (.func IK) #[] #[.pointer (some ⟨w.heap.size, 0, none⟩)]) ∧ w' = w.alloc (.cells #[.map (some b)] 53) :=
  (AnyZ.keys_in Nm.lays7i Fence.wide 5 trivial rfl (some b) w).calls wide_room
abbrev SRow (W : World) (base : Nat) (v : Value) (l : List (List UInt8)) : Prop := W.ownsRow base 9 1 v l.length (l.map encStr)
theorem collect_any (Bm b nn : Nat) (D0 : DataW Unit) (w : World) (hBm : Bm < w.heap.size) (hm : w.cell? ⟨Bm, 0, none⟩ = some (.map (some b))) (hown : w.ownsMap Tryd.prog 9 Nm.Rany b nn D0) (hsz : Go.Maps.size D0 ≤ 1000) :
    Calls Tryd.prog 23 #[.func (.func EK) #[] #[.pointer (some ⟨Bm, 0, none⟩)]] w fun e w' => ∃ (v : Value) (ss : List (List UInt8)), e = .returned v ∧ ss.Perm (strKeys D0) ∧ SRow w' w.heap.size v ss ∧ Below w.heap.size w w' :=
  ((AnyZ.collect_in Nm.lays8 Fence.wide 5 trivial trivial rfl (by omega) EK #[.pointer (some ⟨Bm, 0, none⟩)] trivial (Nm.lays10e.f10.enters rfl) (fun ss => ss.Perm (strKeys D0)) (Go.Maps.size D0) (by unfold maxLen; omega) (by omega) w
    (AnyZ.keys_gives Nm.lays10e Fence.wide 3 trivial rfl (by omega) Bm b nn D0 w hBm hm hown)).calls wide_room).mono (by
    rintro e w' ⟨v, ss, he, h1, h2, _, h3⟩
    exact ⟨v, ss, he, h1, h2, h3⟩)
theorem append_any (Bm b nn : Nat) (D0 : DataW Unit) (w0 w : World) (hw : Below w0.heap.size w0 w) (pre : List (List UInt8)) (hpre : pre.length ≤ 1000) (s0 : Value) (hs : SRow w w0.heap.size s0 pre) (hBm : Bm < w.heap.size) (hm : w.cell? ⟨Bm, 0, none⟩ = some (.map (some b))) (hown : w.ownsMap Tryd.prog 9 Nm.Rany b nn D0) (hsz : Go.Maps.size D0 ≤ 1000) :
    Calls Tryd.prog 22 #[s0, .func (.func IK) #[] #[.pointer (some ⟨Bm, 0, none⟩)]] w fun e w' => ∃ (v : Value) (ss : List (List UInt8)), e = .returned v ∧ ss.Perm (strKeys D0) ∧ SRow w' w0.heap.size v (pre ++ ss) ∧ Below w0.heap.size w0 w' :=
  (Nm.append_in Fence.wide 5 trivial rfl (by omega) IK #[.pointer (some ⟨Bm, 0, none⟩)] trivial (Nm.lays10i.f10.enters rfl) (fun ss => ss.Perm (strKeys D0)) (Go.Maps.size D0) (by omega) w0 w hw pre (by omega) s0 hs
    (AnyZ.keys_gives Nm.lays10i Fence.wide 4 trivial rfl (by omega) Bm b nn D0 w hBm hm hown)).calls wide_room

theorem sort_any (v : Value) (l : List (List UInt8)) (w0 w : World) (hw : Below w0.heap.size w0 w) (h : SRow w w0.heap.size v l) (h1 : 0 < l.length) (h2 : l.length ≤ 1000) :
    Calls Tryd.prog 28 #[v] w fun e w' => e = .returned (.tuple #[]) ∧ TxRd w' v (l.mergeSort fun x y => decide (x ≤ y)) ∧ Below w0.heap.size w0 w' := by
  have h0 := h
  rcases h.2 with ⟨_, hz⟩ | ⟨g, cap, cur, rfl, hg, hb, hcap, _⟩
  · omega
  have hgl : g < w.heap.size := (Array.getElem?_eq_some_iff.1 hb).1
  have hH : Go.Sort.Holds encStr w g 0 l.toArray := fun j hj => by
    have hjl : j < l.length := by simpa using hj
    have hc := h0.cells (g := g) rfl j (encStr l[j]) (by rw [List.getElem?_map, List.getElem?_eq_getElem hjl]; rfl)
    have hd : l.toArray[j]! = l[j] := by rw [getElem!_pos l.toArray j hj]; rfl
    rw [hd]
    refine ⟨?_, by simp [World.frozen?, hb]⟩
    rw [Nat.zero_add]
    cases j with
    | zero => simpa [Addr.add] using hc
    | succ j => simpa [Addr.add] using hc
  refine (Tryd.slices_Sort_string g 0 cap l w hH hgl (by omega)).mono ?_
  rintro e w' ⟨rfl, n, os, rfl⟩
  obtain ⟨S, hS⟩ : ∃ S, l.mergeSort (fun x y => decide (x ≤ y)) = S := ⟨_, rfl⟩
  have hSl : S.length = l.length := by rw [← hS]; exact List.length_mergeSort _
  rw [hS]
  have hH' : Go.Sort.Holds encStr (Go.Sort.ahead w n) g 0 l.toArray := hH
  have hP := Go.Sort.holds_grow encStr (Go.Sort.putRow encStr (Go.Sort.ahead w n) g 0 S.toArray) os g 0 S.toArray (by rw [Go.Sort.size_putRow]; exact hgl) (Go.Sort.holds_putRow encStr (Go.Sort.ahead w n) g 0 l.toArray S.toArray hH' (by simp [hSl]))
  refine ⟨rfl, ⟨some ⟨g, 0, none⟩, cap, by rw [hSl], fun _ => ⟨g, 0, rfl, ?_, fun k x hx => ?_⟩⟩, ?_⟩
  · rw [Go.Sort.size_grow, Go.Sort.size_putRow]; exact Nat.lt_of_lt_of_le hgl (Nat.le_add_right _ _)
  · have hk : k < S.length := by
      rcases Nat.lt_or_ge k S.length with h | h
      · exact h
      · rw [List.getElem?_eq_none h] at hx; cases hx
    have := (hP k (by simpa using hk)).1
    rw [this]
    have hd : S.toArray[k]! = S[k] := by rw [getElem!_pos S.toArray k (by simpa using hk)]; rfl
    rw [hd]
    rw [List.getElem?_eq_getElem hk] at hx
    cases hx
    rfl
  · refine hw.trans ⟨rfl, rfl, rfl, ?_, fun k hk => ?_⟩
    · rw [Go.Sort.size_grow, Go.Sort.size_putRow]; exact Nat.le_add_right _ _
    · rw [Go.Sort.heap_grow_old _ _ (by rw [Go.Sort.size_putRow]; show k < w.heap.size; omega)]
      show (w.heap.modify g _)[k]? = _
      rw [Array.getElem?_modify, if_neg (by omega)]

set_option maxRecDepth 100000 in
set_option maxHeartbeats 8000000 in
theorem Names_any (w : World) : Calls Tryd.prog 6 #[] w fun e w' => ∃ v, e = .returned v ∧ TxRd w' v refL ∧ Below w.heap.size w w' := by
  have KT := Lib.hid (fun w => tableK w)
  have KO := Lib.hid (fun w => othersK w)
  have hfin : ∀ ss tt : List (List UInt8), ss.Perm (Nm.namesA.map Nm.byN) → tt.Perm (Nm.namesO.map Nm.byN) → (ss ++ tt).mergeSort (fun x y => decide (x ≤ y)) = refL ∧ ss.length = 15 ∧ tt.length = 9 := fun ss tt h1 h2 =>
    ⟨(mergeSort_of_perm (h1.append h2)).trans sorted_ref, h1.length_eq.trans (by decide +kernel), h2.length_eq.trans (by decide +kernel)⟩
  have Hf := Lib.hid hfin
  have hlA : Nm.namesA.length = 15 := by decide +kernel
  have hlO : Nm.namesO.length = 9 := by decide +kernel
  rw [hlA] at KT
  rw [hlO] at KO
  clear hfin
  go_enter Tryd.func6, Tryd.ntmps6
  go_wp2_with (first | (go_at_call 25; refine (KT.out _).mono ?_; rintro e w1 ⟨b, D0, rfl, b1, o1, p1, s1⟩) | (go_at_call 24; refine (keysE_any b _).mono ?_; rintro e w2 ⟨rfl, rfl⟩; have B2 := Blk.new w1 #[.map (some b)] 46; have b2 := (Below.refl _ w1).alloc (Nat.le_refl _) (.cells #[.map (some b)] 46); have o2 := owned_later o1 b2; have c2 := B2.cell 0; have l2 := B2.lt; have C2 := chain b1 b2) | (go_at_call 23; refine (collect_any w1.heap.size b 100 D0 _ l2 c2 o2 (by omega)).mono ?_; rintro e w3 ⟨v3, ss, rfl, q3, r3, b3⟩; have C3 := chain C2 b3; have r3 := own_low r3 C2.size) | (go_at_call 27; refine (KO.out _).mono ?_; rintro e w4 ⟨b', D1, rfl, b4, o4, p4, s4⟩; have C4 := chain C3 b4; have r4 := own_on r3 b4 (own_lt r3)) | (go_at_call 26; refine (keysI_any b' _).mono ?_; rintro e w5 ⟨rfl, rfl⟩; have B5 := Blk.new w4 #[.map (some b')] 53; have b5 := (Below.refl _ w4).alloc (Nat.le_refl _) (.cells #[.map (some b')] 53); have o5 := owned_later o4 b5; have c5 := B5.cell 0; have l5 := B5.lt; have C5 := chain C4 b5; have r5 := own_on r4 b5 (own_lt r4); have hl3 := (Hf.out ss _ (q3.trans p1) (List.Perm.refl _)).2.1) | (go_at_call 22; refine (append_any w4.heap.size b' 100 D1 w _ C5 ss (by omega) v3 r5 l5 c5 o5 (by omega)).mono ?_; rintro e w6 ⟨v6, tt, rfl, q6, r6, C6⟩; have hl6 := Hf.out ss tt (q3.trans p1) (q6.trans p4); have hl7 : (ss ++ tt).length = 24 := by rw [List.length_append, hl6.2.1, hl6.2.2]) | (go_at_call 28; refine (sort_any v6 (ss ++ tt) w _ C6 r6 (by omega) (by omega)).mono ?_; rintro e w7 ⟨rfl, t7, C7⟩; rw [hl6.1] at t7))
  go_ret
  exact ⟨_, rfl, t7, C7⟩
end Go.Proofs.YtmgfgkikeflenaaDoor
