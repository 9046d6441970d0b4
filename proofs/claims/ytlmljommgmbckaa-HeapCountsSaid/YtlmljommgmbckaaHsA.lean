/- Sound heaps: each word in an object may stand there, each head is an object's, what an update left is a value; what keeps this. -/
import Derived.Test.YtlmljommgmbckaaHpL
namespace Go.Proofs.Ytlmljommgmbckaa
open Go.RowKit

structure Sound (H : HS) (gl : List Wd) : Prop where
  good : HGood H
  heads : ∀ a, (headOf H a).ok = true → a ∈ H.st
  ins : ∀ a ∈ H.st, ∀ j : Nat, a < (j : Int) → (j : Int) < a + 1 + (headOf H a).s → standsK H (H.word j).1 (H.word j).2 = true
  ind : ∀ a ∈ H.st, (headOf H a).k = 7 → valueK H (H.word (a.toNat + 1)).1 (H.word (a.toNat + 1)).2 = true
  gs : ∀ x ∈ gl, standsK H x.1 x.2 = true
  gn : gl.length = H.ng

theorem head_lt {H : HS} {a : Int} (h : (headOf H a).ok = true) : 0 ≤ a ∧ a < H.top ∧ (H.word a.toNat).1 = 6 := by
  unfold headOf at h
  split at h
  · assumption
  · cases h
theorem head_not {H : HS} {a : Int} (h : ¬ (0 ≤ a ∧ a < H.top ∧ (H.word a.toNat).1 = 6)) : headOf H a = ⟨0, 0, 0, false⟩ := if_neg h
theorem stands_not6 {H : HS} {k n : Int} (h : standsK H k n = true) : k ≠ 6 := by
  rintro rfl
  simp [standsK] at h
theorem stands_iff {H H' : HS} (hg : H'.ng = H.ng) (ho : ∀ a, (headOf H' a).ok = (headOf H a).ok) (k n : Int) : standsK H' k n = standsK H k n := by
  unfold standsK
  rw [hg, ho]
theorem stands_mono {H H' : HS} (hg : H'.ng = H.ng) (ho : ∀ a, (headOf H a).ok = true → (headOf H' a).ok = true) {k n : Int} (h : standsK H k n = true) : standsK H' k n = true := by
  unfold standsK at h ⊢
  rw [hg]
  split
  · rfl
  · split
    · rfl
    · split
      · simp_all
      · split
        · simp_all
        · split
          · simp_all
          · split
            · rename_i h1 h2 h3 h4 h5 h6
              rw [if_neg h1, if_neg h2, if_neg h3, if_neg h4, if_neg h5, if_pos h6] at h
              exact ho _ h
            · rename_i h1 h2 h3 h4 h5 h6
              rw [if_neg h1, if_neg h2, if_neg h3, if_neg h4, if_neg h5, if_neg h6] at h
              exact h
theorem value_stands {H : HS} {k n : Int} (h : valueK H k n = true) : standsK H k n = true := by
  unfold valueK at h
  split at h
  · cases h
  · split at h
    · cases h
    · rename_i q; simpa using q
theorem value_low {H : HS} {n : Int} (h : valueK H 5 n = true) : (headOf H n).ok = true ∧ (headOf H n).k < 5 := by
  have hs := value_stands h
  unfold valueK at h
  rw [if_neg (by decide), hs, if_neg (by decide), if_pos rfl] at h
  exact ⟨by simpa [standsK] using hs, by simpa using h⟩
theorem value_of {H H' : HS} {k n : Int} (h : valueK H k n = true) (hs : standsK H' k n = true) (hh : k = 5 → (headOf H n).k < 5 → (headOf H' n).k < 5) : valueK H' k n = true := by
  unfold valueK
  by_cases k0 : k = 0
  · subst k0; simp [valueK] at h
  rw [if_neg k0, hs, if_neg (by decide)]
  by_cases k5 : k = 5
  · subst k5
    rw [if_pos rfl]
    exact decide_eq_true (hh rfl (value_low h).2)
  · rw [if_neg k5]

/-- An update within one object, of a kind that is no value before or behind. -/
theorem Sound.within {H : HS} {gl : List Wd} (S : Sound H gl) {i : Nat} (hi : (i : Int) ∈ H.st) {ws : List Wd} (hw : ∀ j : Nat, ((j : Int) < i ∨ (i : Int) + 1 + (headOf H i).s ≤ j) → (H.put ws).word j = H.word j)
    (h1 : (headOf (H.put ws) i).ok = true) (h2 : (headOf (H.put ws) i).s = (headOf H i).s) (hk : 5 ≤ (headOf H i).k)
    (hin : ∀ j : Nat, (i : Int) < j → (j : Int) < i + 1 + (headOf H i).s → standsK H ((H.put ws).word j).1 ((H.put ws).word j).2 = true)
    (hind : (headOf (H.put ws) i).k = 7 → valueK H ((H.put ws).word (i + 1)).1 ((H.put ws).word (i + 1)).2 = true) : Sound (H.put ws) gl := by
  have G := S.good.within hi hw h1 h2
  obtain ⟨p1, p2, p3, p4⟩ := S.good.at_ i hi
  have hoth : ∀ a, a ≠ (i : Int) → headOf (H.put ws) a = headOf H a := by
    intro a ha
    by_cases h0 : 0 ≤ a
    · by_cases hout : a < i ∨ (i : Int) + 1 + (headOf H i).s ≤ a
      · exact head_same (hw _ (by omega))
      · have hj1 : (i : Int) < (a.toNat : Int) := by omega
        have hj2 : (a.toNat : Int) < i + 1 + (headOf H i).s := by omega
        have n1 := stands_not6 (S.ins i hi a.toNat hj1 hj2)
        have n2 := stands_not6 (hin a.toNat hj1 hj2)
        rw [head_not (fun h => n1 h.2.2), head_not (fun h => n2 h.2.2)]
    · rw [head_not (fun h => h0 h.1), head_not (fun h => h0 h.1)]
  have hok : ∀ a, (headOf (H.put ws) a).ok = (headOf H a).ok := by
    intro a
    by_cases e : a = (i : Int)
    · subst e; rw [h1, p3]
    · rw [hoth a e]
  have hst : ∀ k n, standsK (H.put ws) k n = standsK H k n := stands_iff rfl hok
  have hval : ∀ k n, valueK H k n = true → valueK (H.put ws) k n = true := by
    intro k n h
    refine value_of h (by rw [hst]; exact value_stands h) (fun k5 q => ?_)
    subst k5
    have : n ≠ (i : Int) := by rintro rfl; omega
    rw [hoth n this]
    exact q
  refine ⟨G, fun a ha => S.heads a (by rw [← hok]; exact ha), fun a ha j hj1 hj2 => ?_, fun a ha hk7 => ?_, fun x hx => by rw [hst]; exact S.gs x hx, S.gn⟩
  · rw [hst]
    by_cases e : a = (i : Int)
    · subst e
      rw [h2] at hj2
      exact hin j hj1 hj2
    · rw [hoth a e] at hj2
      obtain ⟨q1, q2, q3, q4⟩ := S.good.at_ a ha
      have : (H.put ws).word j = H.word j := by
        refine hw j ?_
        rcases Int.lt_or_gt_of_ne e with q | q
        · have := S.good.apart a ha i hi q; left; omega
        · have := S.good.apart i hi a ha q; right; omega
      rw [this]
      exact S.ins a ha j hj1 hj2
  · by_cases e : a = (i : Int)
    · subst e
      exact hval _ _ (hind hk7)
    · rw [hoth a e] at hk7
      obtain ⟨q1, q2, q3, q4⟩ := S.good.at_ a ha
      obtain ⟨t, rfl⟩ := Int.eq_ofNat_of_zero_le q1
      have hpo := parts_ok (n := (H.word t).2) (by rw [(head_ok q3).2]; exact q3)
      rw [(head_ok q3).2] at hpo
      have : (H.put ws).word (t + 1) = H.word (t + 1) := by
        refine hw _ ?_
        rcases Int.lt_or_gt_of_ne e with q | q
        · have := S.good.apart t ha i hi q; left; omega
        · have := S.good.apart i hi t ha q; right; omega
      rw [Int.toNat_natCast, this]
      exact hval _ _ (by have := S.ind t ha hk7; rwa [Int.toNat_natCast] at this)

theorem putWs_mid {ws : List Wd} {i s : Nat} {k hv : Int} {v : Wd} (h : i + 1 + s ≤ ws.length) (hs : 1 ≤ s) {j : Nat} (h1 : i < j) (h2 : j < i + 1 + s) : (putWs ws i s k hv v).getD j (0, 0) = if j = i + 1 then v else (0, 0) := by
  unfold putWs
  simp only
  by_cases e : j = i + 1
  · rw [if_pos e, e, set_in (by simp; omega)]
  · rw [if_neg e, set_out e, List.getD_eq_getElem?_getD]
    have hl : (List.take (i + 1) (ws.set i (k, hv))).length = i + 1 := by simp; omega
    rw [List.getElem?_append_left (by simp; omega), List.getElem?_append_right (by omega), hl, List.getElem?_replicate, if_pos (by omega)]
    rfl

theorem Sound.hole {H : HS} {gl : List Wd} (S : Sound H gl) {i : Nat} (hi : (i : Int) ∈ H.st) (hk : (headOf H i).k = 5) (hN : H.top ≤ H.ws.length) :
    headOf (H.put (H.ws.set i ((H.word i).1, headK 6 (headOf H i).s (headOf H i).i))) i = ⟨6, (headOf H i).s, (headOf H i).i, true⟩ ∧ Sound (H.put (H.ws.set i ((H.word i).1, headK 6 (headOf H i).s (headOf H i).i))) gl := by
  obtain ⟨g1, g2, g3, g4⟩ := S.good.at_ i hi
  obtain ⟨hw6, hpw⟩ := head_ok g3
  have hpo := parts_ok (n := (H.word i).2) (by rw [hpw]; exact g3)
  rw [hpw] at hpo
  have hwi : (H.put (H.ws.set i ((H.word i).1, headK 6 (headOf H i).s (headOf H i).i))).word i = ((H.word i).1, headK 6 (headOf H i).s (headOf H i).i) := set_in (by omega)
  have hhd : headOf (H.put (H.ws.set i ((H.word i).1, headK 6 (headOf H i).s (headOf H i).i))) i = ⟨6, (headOf H i).s, (headOf H i).i, true⟩ := by
    have e : headOf (H.put (H.ws.set i ((H.word i).1, headK 6 (headOf H i).s (headOf H i).i))) i = partsK (headK 6 (headOf H i).s (headOf H i).i) := by
      rw [headOf, Int.toNat_natCast, hwi, if_pos ⟨g1, g2, hw6⟩]
    rw [e]
    exact parts_head (by omega) (by omega) (by omega) (by omega) (by omega) (by omega) (by omega)
  have hout : ∀ j : Nat, j ≠ i → (H.put (H.ws.set i ((H.word i).1, headK 6 (headOf H i).s (headOf H i).i))).word j = H.word j := fun j hj => set_out hj
  refine ⟨hhd, S.within hi (fun j hj => hout j (by omega)) (by rw [hhd]) (by rw [hhd]) (by omega) (fun j h1 h2 => ?_) (fun q => by rw [hhd] at q; simp at q)⟩
  rw [hout j (by omega)]
  exact S.ins i hi j h1 h2

theorem Sound.upd {H : HS} {gl : List Wd} (S : Sound H gl) {i s : Nat} (hi : (i : Int) ∈ H.st) (hk : (headOf H i).k = 5 ∨ (headOf H i).k = 6) (hs : (headOf H i).s = s) (hN : H.top ≤ H.ws.length) {k n : Int} (hv : valueK H k n = true) :
    headOf (H.put (putWs H.ws i s (H.word i).1 (headK 7 (headOf H i).s 0) (k, n))) i = ⟨7, (headOf H i).s, 0, true⟩ ∧ (H.put (putWs H.ws i s (H.word i).1 (headK 7 (headOf H i).s 0) (k, n))).word (i + 1) = (k, n) ∧
    valueK (H.put (putWs H.ws i s (H.word i).1 (headK 7 (headOf H i).s 0) (k, n))) k n = true ∧ (∀ a, a ≠ (i : Int) → (headOf H a).ok = true → headOf (H.put (putWs H.ws i s (H.word i).1 (headK 7 (headOf H i).s 0) (k, n))) a = headOf H a) ∧ Sound (H.put (putWs H.ws i s (H.word i).1 (headK 7 (headOf H i).s 0) (k, n))) gl := by
  obtain ⟨g1, g2, g3, g4⟩ := S.good.at_ i hi
  obtain ⟨hw6, hpw⟩ := head_ok g3
  have hpo := parts_ok (n := (H.word i).2) (by rw [hpw]; exact g3)
  rw [hpw] at hpo
  have hs1 : 1 ≤ s := by omega
  have hiN : i + 1 + s ≤ H.ws.length := by omega
  obtain ⟨H2, hH2⟩ : ∃ H2, H.put (putWs H.ws i s (H.word i).1 (headK 7 (headOf H i).s 0) (k, n)) = H2 := ⟨_, rfl⟩
  have hwi : H2.word i = ((H.word i).1, headK 7 (headOf H i).s 0) := by
    rw [← hH2]
    show (putWs _ _ _ _ _ _).getD i (0, 0) = _
    rw [putWs_low hiN (Nat.le_refl _), set_in (by omega)]
  have hhd : headOf H2 i = ⟨7, (headOf H i).s, 0, true⟩ := by
    have e : headOf H2 i = partsK (headK 7 (headOf H i).s 0) := by
      have ht : (i : Int) < H2.top := by rw [← hH2]; exact g2
      rw [headOf, Int.toNat_natCast, hwi, if_pos ⟨g1, ht, hw6⟩]
    rw [e]
    exact parts_head (by omega) (by omega) (by omega) (by omega) (by omega) (by omega) (by omega)
  have hout : ∀ j : Nat, ((j : Int) < i ∨ (i : Int) + 1 + (headOf H i).s ≤ j) → H2.word j = H.word j := by
    intro j hj
    rw [← hH2]
    show (putWs _ _ _ _ _ _).getD j (0, 0) = _
    rcases hj with q | q
    · rw [putWs_low hiN (by omega), set_out (by omega)]; rfl
    · rw [putWs_high hiN hs1 (by omega)]; rfl
  have hmid : ∀ j : Nat, i < j → j < i + 1 + s → H2.word j = if j = i + 1 then (k, n) else (0, 0) := by
    intro j q1 q2
    rw [← hH2]
    exact putWs_mid hiN hs1 q1 q2
  have hw1 : H2.word (i + 1) = (k, n) := by rw [hmid _ (by omega) (by omega), if_pos rfl]
  have hS2 : Sound H2 gl := by
    subst hH2
    refine S.within hi hout (by rw [hhd]) (by rw [hhd]) (by omega) (fun j h1 h2 => ?_) (fun _ => by rw [hw1]; exact hv)
    rw [hmid j (by omega) (by omega)]
    split
    · exact value_stands hv
    · rfl
  rw [hH2]
  refine ⟨hhd, hw1, ?_, fun a ha hok => ?_, hS2⟩
  · have hi2 : (i : Int) ∈ H2.st := by rw [← hH2]; exact hi
    have := hS2.ind i hi2 (by rw [hhd])
    rw [Int.toNat_natCast, hw1] at this
    exact this
  · have ha2 := S.heads a hok
    have q1 := S.good.at_ a ha2
    rw [← hH2]
    refine head_same ?_
    rw [hH2]
    refine hout _ ?_
    rcases Int.lt_or_gt_of_ne ha with q | q
    · left; omega
    · have := S.good.apart i hi a ha2 q; right; omega

theorem spl_mid {ws us : List Wd} {o j : Nat} (h1 : o ≤ j) (h2 : j < o + us.length) (ho : o ≤ ws.length) : (spl ws us o).getD j (0, 0) = us.getD (j - o) (0, 0) := by
  unfold spl
  have hl : (List.take o ws).length = o := by rw [List.length_take]; omega
  rw [List.getD_eq_getElem?_getD, List.getD_eq_getElem?_getD, List.append_assoc, List.getElem?_append_right (by omega), hl, List.getElem?_append_left (by omega)]
theorem alloc_word {H : HS} {kind info : Int} {us : List Wd} {j : Nat} (h1 : H.top < j) (h2 : j < H.top + 1 + us.length) (ht : H.top + 1 ≤ H.ws.length) : (H.alloc kind info us).word j = us.getD (j - (H.top + 1)) (0, 0) := by
  unfold HS.word HS.alloc
  simp only
  exact spl_mid (by omega) h2 (by simpa using ht)

theorem Sound.alloc {H : HS} {gl : List Wd} (S : Sound H gl) {kind info : Int} {us : List Wd} (ht : H.top + 1 ≤ H.ws.length) (h1 : 1 ≤ kind) (h2 : kind ≤ 5) (h3 : us.length ≤ 65536) (h4 : 0 ≤ info) (h5 : info ≤ 1073741824) (h6 : kind < 5 ∨ 1 ≤ us.length)
    (hu : ∀ u ∈ us, standsK H u.1 u.2 = true) : Sound (H.alloc kind info us) gl := by
  have hn := head_new (H := H) (kind := kind) (info := info) (us := us) ht h1 h2 h3 h4 h5 h6
  have hst : ∀ a, a ∈ (H.alloc kind info us).st ↔ a ∈ H.st ∨ a = (H.top : Int) := by intro a; show a ∈ H.st ++ [(H.top : Int)] ↔ _; simp
  have htop : ((H.alloc kind info us).top : Int) = H.top + 1 + us.length := by show ((H.top + 1 + us.length : Nat) : Int) = _; omega
  have hmono : ∀ a, (headOf H a).ok = true → (headOf (H.alloc kind info us) a).ok = true := by
    intro a ha
    have := head_lt ha
    rw [head_alloc this.1 this.2.1 ht]
    exact ha
  have hsm : ∀ {k n : Int}, standsK H k n = true → standsK (H.alloc kind info us) k n = true := fun h => stands_mono (H := H) (H' := H.alloc kind info us) rfl hmono h
  have hgd : ∀ t : Nat, t < us.length → standsK H (us.getD t (0, 0)).1 (us.getD t (0, 0)).2 = true := by
    intro t ht
    rw [List.getD_eq_getElem?_getD, List.getElem?_eq_getElem ht]
    exact hu _ (List.getElem_mem _)
  refine ⟨S.good.alloc ht h1 h2 h3 h4 h5 h6, fun a ha => ?_, fun a ha j hj1 hj2 => ?_, fun a ha hk7 => ?_, fun x hx => hsm (S.gs x hx), S.gn⟩
  · have hl := head_lt ha
    rw [hst]
    by_cases c1 : a < H.top
    · rw [head_alloc hl.1 c1 ht] at ha
      exact .inl (S.heads a ha)
    · by_cases c2 : a = H.top
      · exact .inr c2
      · exfalso
        obtain ⟨t, rfl⟩ := Int.eq_ofNat_of_zero_le hl.1
        have h6' := hl.2.2
        have hl2 := hl.2.1
        rw [htop] at hl2
        rw [Int.toNat_natCast, alloc_word (by omega) (by omega) ht] at h6'
        exact stands_not6 (hgd _ (by omega)) h6'
  · rcases (hst a).1 ha with ha | rfl
    · obtain ⟨q1, q2, q3, q4⟩ := S.good.at_ a ha
      rw [head_alloc q1 q2 ht] at hj2
      rw [alloc_low (by omega) ht]
      exact hsm (S.ins a ha j hj1 hj2)
    · rw [hn] at hj2
      dsimp only at hj2
      rw [alloc_word (by omega) (by omega) ht]
      exact hsm (hgd _ (by omega))
  · rcases (hst a).1 ha with ha | rfl
    · obtain ⟨q1, q2, q3, q4⟩ := S.good.at_ a ha
      rw [head_alloc q1 q2 ht] at hk7
      obtain ⟨t, rfl⟩ := Int.eq_ofNat_of_zero_le q1
      have hpo := parts_ok (n := (H.word t).2) (by rw [(head_ok q3).2]; exact q3)
      rw [(head_ok q3).2] at hpo
      rw [Int.toNat_natCast, alloc_low (by omega) ht]
      have hv := S.ind t ha hk7
      rw [Int.toNat_natCast] at hv
      refine value_of hv (hsm (value_stands hv)) (fun k5 q => ?_)
      rw [k5] at hv
      have := head_lt (value_low hv).1
      rw [head_alloc this.1 this.2.1 ht]
      exact q
    · rw [hn] at hk7
      dsimp only at hk7
      omega

theorem Sound.glob {H : HS} {gl : List Wd} (S : Sound H gl) {i : Nat} {k n : Int} (h : standsK H k n = true) : Sound H (gl.set i (k, n)) :=
  ⟨S.good, S.heads, S.ins, S.ind, fun x hx => by
    rcases List.mem_or_eq_of_mem_set hx with hx | rfl
    · exact S.gs x hx
    · exact h, by rw [List.length_set]; exact S.gn⟩

/-- A word that Check lets through. -/
theorem Sound.mark {H : HS} {gl : List Wd} (S : Sound H gl) {n : Int} (h : standsK H 5 n = true) : n ∈ H.st := S.heads n (by simpa [standsK] using h)

end Go.Proofs.Ytlmljommgmbckaa
