/- Get, Hole and Put, each in one form whatever the heap holds; what an update keeps. -/
import Derived.Test.YtlmljommgmbckaaHpK
namespace Go.Proofs.Ytlmljommgmbckaa
open Go.RowKit

/-- How many places an object has; 0: there is none. -/
def sizeH (H : HS) (a : Int) : Int := if a ∈ H.st then (headOf H a).s + 1 else 0
structure Kept (H H2 : HS) (e a S : Int) : Prop where
  nur : H2.nur = H.nur
  old : H2.old = H.old
  top : H2.top = H.top
  len : H2.ws.length = H.ws.length
  zero : e = 0 → 0 ≤ a ∧ 0 ≤ S ∧ a + S ≤ H.top
  word : ∀ j : Nat, j < H.ws.length → (e = 0 ∧ a ≤ (j : Int) ∧ (j : Int) < a + S) ∨ H2.word j = H.word j
theorem Kept.refl (H : HS) (e a S : Int) (he : e ≠ 0) : Kept H H e a S := ⟨rfl, rfl, rfl, rfl, fun q => absurd q he, fun _ _ => .inr rfl⟩

theorem head_same {H : HS} {ws : List Wd} {c : Int} (h : (H.put ws).word c.toNat = H.word c.toNat) : headOf (H.put ws) c = headOf H c := by
  unfold headOf
  rw [h]
  rfl
theorem HGood.puts {H : HS} (g : HGood H) {ws : List Wd} (hh : ∀ c ∈ H.st, (headOf (H.put ws) c).ok = true ∧ (headOf (H.put ws) c).s = (headOf H c).s) : HGood (H.put ws) := by
  refine ⟨fun a ha => ?_, fun a ha c hc hac => ?_⟩
  · obtain ⟨q1, q2, q3, q4⟩ := g.at_ a ha
    obtain ⟨r1, r2⟩ := hh a ha
    exact ⟨q1, q2, r1, by rw [r2]; exact q4⟩
  · rw [(hh a ha).2]
    exact g.apart a ha c hc hac
/-- An update within one object keeps the others. -/
theorem HGood.within {H : HS} (g : HGood H) {i : Nat} (hi : (i : Int) ∈ H.st) {ws : List Wd} (hw : ∀ j : Nat, ((j : Int) < i ∨ (i : Int) + 1 + (headOf H i).s ≤ j) → (H.put ws).word j = H.word j) (h1 : (headOf (H.put ws) i).ok = true) (h2 : (headOf (H.put ws) i).s = (headOf H i).s) : HGood (H.put ws) := by
  refine g.puts fun c hc => ?_
  by_cases e : c = (i : Int)
  · subst e; exact ⟨h1, h2⟩
  · obtain ⟨q1, q2, q3, q4⟩ := g.at_ c hc
    obtain ⟨p1, p2, p3, p4⟩ := g.at_ i hi
    have hpo := parts_ok (n := (H.word i).2) (by rw [(head_ok p3).2]; exact p3)
    have hh : headOf (H.put ws) c = headOf H c := by
      refine head_same (hw _ ?_)
      rcases Int.lt_or_gt_of_ne e with q | q
      · left; omega
      · right
        have := g.apart i hi c hc q
        omega
    rw [hh]
    exact ⟨q3, rfl⟩

theorem set_out {ws : List Wd} {i j : Nat} {x : Wd} (h : j ≠ i) : (ws.set i x).getD j (0, 0) = ws.getD j (0, 0) := by
  rw [List.getD_eq_getElem?_getD, List.getD_eq_getElem?_getD, List.getElem?_set_ne (fun e => h e.symm)]
theorem set_in {ws : List Wd} {i : Nat} {x : Wd} (h : i < ws.length) : (ws.set i x).getD i (0, 0) = x := by
  rw [List.getD_eq_getElem?_getD, List.getElem?_set_self h]; rfl
theorem putWs_len {ws : List Wd} {i s : Nat} {k hv : Int} {v : Wd} (h : i + 1 + s ≤ ws.length) : (putWs ws i s k hv v).length = ws.length := by
  unfold putWs; simp; omega
theorem putWs_low {ws : List Wd} {i s : Nat} {k hv : Int} {v : Wd} (h : i + 1 + s ≤ ws.length) {j : Nat} (hj : j ≤ i) : (putWs ws i s k hv v).getD j (0, 0) = (ws.set i (k, hv)).getD j (0, 0) := by
  unfold putWs
  simp only
  rw [set_out (by omega), List.getD_eq_getElem?_getD, List.getD_eq_getElem?_getD, List.append_assoc, List.getElem?_append_left (by rw [List.length_take, List.length_set]; omega), List.getElem?_take_of_lt (by omega)]
theorem putWs_high {ws : List Wd} {i s : Nat} {k hv : Int} {v : Wd} (h : i + 1 + s ≤ ws.length) (hs : 1 ≤ s) {j : Nat} (hj : i + 1 + s ≤ j) : (putWs ws i s k hv v).getD j (0, 0) = ws.getD j (0, 0) := by
  unfold putWs
  simp only
  have hl : ((ws.set i (k, hv)).take (i + 1) ++ List.replicate s ((0 : Int), (0 : Int))).length = i + 1 + s := by simp; omega
  rw [set_out (by omega), List.getD_eq_getElem?_getD, List.getElem?_append_right (by rw [hl]; exact hj), hl, List.getElem?_drop, show i + 1 + s + (j - (i + 1 + s)) = j by omega, ← List.getD_eq_getElem?_getD, set_out (by omega)]

theorem hole_u (b : Nat) (L : HL) (H : HS) (w : World) (h : HInv w b L H) (g : HGood H) (a : Int) (h1 : -9223372036854775808 ≤ a) (h2 : a ≤ 9223372036854775807) (S : Int) (hS : sizeH H a = S) :
    Calls Try.prog 19 #[.pointer (some ⟨b, 0, none⟩), .int .i64 a] w fun e w' => ∃ (c : Int) (H2 : HS), e = .returned (.int .i64 c) ∧ HInv w' b L H2 ∧ HGood H2 ∧ Kept H H2 c a S ∧ Off (HFoot b L) w w' := by
  by_cases hc : a ∈ H.st ∧ (headOf H a).k = 5
  · obtain ⟨ha, hk⟩ := hc
    obtain ⟨g1, g2, g3, g4⟩ := g.at_ a ha
    obtain ⟨i, rfl⟩ := Int.eq_ofNat_of_zero_le g1
    refine (hole_ok b L H w h g i ha _ rfl hk).mono ?_
    rintro e w' ⟨rfl, I, hoff⟩
    have hiN : i < H.ws.length := by have := h.len; have := h.top; omega
    obtain ⟨hw6, hpw⟩ := head_ok g3
    have hpo := parts_ok (n := (H.word i).2) (by rw [hpw]; exact g3)
    rw [hpw] at hpo
    have hwi : (H.put (H.ws.set i ((H.word i).1, headK 6 (headOf H i).s (headOf H i).i))).word i = ((H.word i).1, headK 6 (headOf H i).s (headOf H i).i) := set_in hiN
    have hhd : headOf (H.put (H.ws.set i ((H.word i).1, headK 6 (headOf H i).s (headOf H i).i))) i = ⟨6, (headOf H i).s, (headOf H i).i, true⟩ := by
      have e : headOf (H.put (H.ws.set i ((H.word i).1, headK 6 (headOf H i).s (headOf H i).i))) i = partsK (headK 6 (headOf H i).s (headOf H i).i) := by
        rw [headOf, Int.toNat_natCast, hwi, if_pos ⟨g1, g2, hw6⟩]
      rw [e]
      exact parts_head (by omega) (by omega) (by omega) (by omega) (by omega) (by omega) (by omega)
    refine ⟨0, _, rfl, I, g.within ha (fun j hj => set_out (by omega)) (by rw [hhd]) (by rw [hhd]), ⟨rfl, rfl, rfl, by show (List.set _ _ _).length = _; simp, fun _ => by rw [← hS]; unfold sizeH; rw [if_pos ha]; omega, fun j hj => ?_⟩, ⟨hoff.os, hoff.tape, hoff.output, hoff.size, fun k hk hf => hoff.block k hk (fun e => hf (.inr (.inl e)))⟩⟩
    by_cases e : j = i
    · left
      refine ⟨rfl, by omega, ?_⟩
      rw [← hS]
      unfold sizeH
      rw [if_pos ha]
      omega
    · right
      exact set_out e
  · refine (hole_no b L H w h a h1 h2 _ rfl ?_).mono ?_
    · unfold objOf
      by_cases ha : a ∈ H.st
      · right; rw [if_pos ha]; exact fun e => hc ⟨ha, e⟩
      · left; rw [if_neg ha]
    · rintro e w' ⟨rfl, hb⟩
      exact ⟨_, H, rfl, h.below hb, g, Kept.refl _ _ _ _ (by split <;> omega), Off.of_below hb⟩

theorem put_u (b : Nat) (L : HL) (H : HS) (w : World) (h : HInv w b L H) (g : HGood H) (a : Int) (h1 : -9223372036854775808 ≤ a) (h2 : a ≤ 9223372036854775807) (k n : Int) (h3 : -9223372036854775808 ≤ n) (h4 : n ≤ 9223372036854775807) (S : Int) (hS : sizeH H a = S) :
    Calls Try.prog 20 #[.pointer (some ⟨b, 0, none⟩), .int .i64 a, .agg #[.int .i64 k, .int .i64 n]] w fun e w' => ∃ (c : Int) (H2 : HS), e = .returned (.int .i64 c) ∧ HInv w' b L H2 ∧ HGood H2 ∧ Kept H H2 c a S ∧ Off (HFoot b L) w w' := by
  by_cases hc : a ∈ H.st ∧ valueK H k n = true ∧ ((headOf H a).k = 5 ∨ (headOf H a).k = 6)
  · obtain ⟨ha, hv, hk⟩ := hc
    obtain ⟨g1, g2, g3, g4⟩ := g.at_ a ha
    obtain ⟨i, rfl⟩ := Int.eq_ofNat_of_zero_le g1
    obtain ⟨hw6, hpw⟩ := head_ok g3
    have hpo := parts_ok (n := (H.word i).2) (by rw [hpw]; exact g3)
    rw [hpw] at hpo
    obtain ⟨s, hs⟩ := Int.eq_ofNat_of_zero_le (show 0 ≤ (headOf H i).s by omega)
    refine (put_ok b L H w h g i ha k n h3 h4 hv _ rfl hk s hs).mono ?_
    rintro e w' ⟨rfl, I, hoff⟩
    have hs1 : 1 ≤ s := by omega
    have hiN : i + 1 + s ≤ H.ws.length := by have := h.len; have := h.top; omega
    have hwi : (H.put (putWs H.ws i s (H.word i).1 (headK 7 (headOf H i).s 0) (k, n))).word i = ((H.word i).1, headK 7 (headOf H i).s 0) := by
      show (putWs _ _ _ _ _ _).getD i (0, 0) = _
      rw [putWs_low hiN (Nat.le_refl _), set_in (by omega)]
    have hhd : headOf (H.put (putWs H.ws i s (H.word i).1 (headK 7 (headOf H i).s 0) (k, n))) i = ⟨7, (headOf H i).s, 0, true⟩ := by
      have e : headOf (H.put (putWs H.ws i s (H.word i).1 (headK 7 (headOf H i).s 0) (k, n))) i = partsK (headK 7 (headOf H i).s 0) := by
        rw [headOf, Int.toNat_natCast, hwi, if_pos ⟨g1, g2, hw6⟩]
      rw [e]
      exact parts_head (by omega) (by omega) (by omega) (by omega) (by omega) (by omega) (by omega)
    have hout : ∀ j : Nat, ((j : Int) < i ∨ (i : Int) + 1 + (headOf H i).s ≤ j) → (H.put (putWs H.ws i s (H.word i).1 (headK 7 (headOf H i).s 0) (k, n))).word j = H.word j := by
      intro j hj
      show (putWs _ _ _ _ _ _).getD j (0, 0) = _
      rcases hj with q | q
      · rw [putWs_low hiN (by omega), set_out (by omega)]; rfl
      · rw [putWs_high hiN hs1 (by omega)]; rfl
    refine ⟨0, _, rfl, I, g.within ha hout (by rw [hhd]) (by rw [hhd]), ⟨rfl, rfl, rfl, putWs_len hiN, fun _ => by rw [← hS]; unfold sizeH; rw [if_pos ha]; omega, fun j hj => ?_⟩, ⟨hoff.os, hoff.tape, hoff.output, hoff.size, fun k hk hf => hoff.block k hk (fun e => hf (.inr (.inl e)))⟩⟩
    by_cases e : (j : Int) < i ∨ (i : Int) + 1 + (headOf H i).s ≤ j
    · exact .inr (hout j e)
    · left
      refine ⟨rfl, by omega, ?_⟩
      rw [← hS]
      unfold sizeH
      rw [if_pos ha]
      omega
  · refine (put_no b L H w h a h1 h2 k n h3 h4 _ rfl ?_).mono ?_
    · unfold objOf
      by_cases ha : a ∈ H.st
      · rw [if_pos ha]
        by_cases hv : valueK H k n = true
        · right; right
          exact ⟨fun e => hc ⟨ha, hv, .inl e⟩, fun e => hc ⟨ha, hv, .inr e⟩⟩
        · right; left; simpa using hv
      · left; rw [if_neg ha]
    · rintro e w' ⟨rfl, hb⟩
      exact ⟨_, H, rfl, h.below hb, g, Kept.refl _ _ _ _ (by split <;> omega), Off.of_below hb⟩

theorem get_u (b : Nat) (L : HL) (H : HS) (w : World) (h : HInv w b L H) (g : HGood H) (a : Int) (h1 : -9223372036854775808 ≤ a) (h2 : a ≤ 9223372036854775807) (S : Int) (hS : sizeH H a = S) :
    Calls Try.prog 16 #[.pointer (some ⟨b, 0, none⟩), .int .i64 a] w fun e w' => ∃ (k i : Int) (p : Option Addr) (n c : Nat) (r : Int), e = .returned (.tuple #[.agg #[.int .i64 k, .int .i64 i, .slice p n c], .int .i64 r]) ∧ Below w.heap.size w w' ∧ n ≤ 65536 ∧ ((r = 0 ∧ S = (n : Int) + 1) ∨ (r ≠ 0 ∧ S = 0)) := by
  by_cases ha : a ∈ H.st
  · obtain ⟨g1, g2, g3, g4⟩ := g.at_ a ha
    obtain ⟨i, rfl⟩ := Int.eq_ofNat_of_zero_le g1
    obtain ⟨_, hpw⟩ := head_ok g3
    have hpo := parts_ok (n := (H.word i).2) (by rw [hpw]; exact g3)
    rw [hpw] at hpo
    obtain ⟨s, hs⟩ := Int.eq_ofNat_of_zero_le (show 0 ≤ (headOf H i).s by omega)
    refine (get_some b L H w h g i ha _ rfl s hs).mono ?_
    rintro e w' ⟨p, c, rfl, _, hb⟩
    refine ⟨_, _, p, s, c, 0, rfl, hb, by omega, .inl ⟨rfl, ?_⟩⟩
    rw [← hS]
    unfold sizeH
    rw [if_pos ha, hs]
  · refine (get_none b L H w h a h1 h2 (by unfold objOf; rw [if_neg ha])).mono ?_
    rintro e w' ⟨rfl, hb⟩
    refine ⟨0, 0, none, 0, 0, 2, rfl, hb, by omega, .inr ⟨by omega, ?_⟩⟩
    rw [← hS]
    unfold sizeH
    rw [if_neg ha]

end Go.Proofs.Ytlmljommgmbckaa
