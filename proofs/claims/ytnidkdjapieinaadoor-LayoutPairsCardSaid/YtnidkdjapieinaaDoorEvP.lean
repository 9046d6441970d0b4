/- The search of a region's orders stands for the model's. No program is walked here. -/
import Derived.Test.YtnidkdjapieinaaDoorEvO
noncomputable section
namespace Go.Proofs.YtnidkdjapieinaaDoor.Ev
open Go.RowKit
set_option linter.unusedSimpArgs false
set_option linter.unusedVariables false

section
variable {P : Program} {Φ : Facts}
variable {ν : Nat → Value} [FactsOk P ν Φ] {B : Zone} {w0 w : World} {E : Env} {M : Mem}
variable {a : Act}

theorem edge_of {ops : Array Oper} {j i : Nat} {oj : Oper} (hj : ops[j]? = some oj) (h : ∀ e ∈ oj.after, Region.binds .any e = true → e.on ≠ i) : edge ops j i = false := by
  unfold edge
  rw [hj]
  simp only
  rw [Array.any_eq_false']
  intro e he hc
  simp only [Bool.and_eq_true, beq_iff_eq] at hc
  exact h e he hc.1 hc.2

theorem take_one {ops : Array Oper} {H : Held} {base : Nat} {E0 : Env} {ws : World} (hH : ∀ h ∈ H, ∃ p, E0 h.2.1 = some p)
    (hfree : freeAll ops = true) (hsel : Region.noSelect ops = true) {Q : Exit → Act → World → Prop} (hQp : ∀ c a w, ¬ Q (.panic c) a w) {r mask k : Nat} {st s : St} {o : Oper}
    (hInv : Inv ν B w0 ops H base E0 ws ⟨r + 1, mask, st⟩ E a w) (hk : ops[k]? = some o) (hb : mask.testBit k = false) (he : edgesIn mask o.after.toList = true) (hs : atake P Φ ops.toList H st k o = some s)
    (next : ∀ E' a' w', Inv ν B w0 ops H base E0 ws ⟨r, mask ||| 2 ^ k, s⟩ E' a' w' → wpAnyK P ops Q (KH H E0 ws) r (lst ops.size (mask ||| 2 ^ k)) a' w') : wpAnyK P ops Q (KH H E0 ws) (r + 1) (lst ops.size mask) a w := by
  have hklt : k < ops.size := (Array.getElem?_eq_some_iff.1 hk).1
  have hready : k ∈ Region.ready .any ops (lst ops.size mask) := (ready_iff hInv.bits).2 ⟨hklt, hb, o, hk, he⟩
  have hun : ∀ i, (mask ||| 2 ^ k).testBit i = false → mask.testBit i = false ∧ i ≠ k := by
    intro i hi
    rw [Nat.testBit_or, Nat.testBit_two_pow, Bool.or_eq_false_iff] at hi
    exact ⟨hi.1, fun e => by simp [e] at hi⟩
  have fin : ∀ (v : AV) (x : Value), V ν E v x → st.put o.dst v st.m = some s → YieldsIf P ops (KH H E0 ws k) o x a → wpAnyK P ops Q (KH H E0 ws) (r + 1) (lst ops.size mask) a w := by
    intro v x hv hp hy
    refine wpAnyK_first hk (Region.noSelect_spec hsel) (fun c a w hc => absurd hc (hQp c _ w)) r (lst ops.size mask) a w (fun j oj hj hne hunl hno => ?_) hready hy (hInv.held k hb) ?_
    · refine freeAll_ok hfree hk hj hne (edge_of hj hno) (edge_of hk fun e he' hbi heq => ?_)
      have h1 := edgesIn_iff.1 he e (by simpa using he') hbi
      rw [heq] at h1
      have hjlt := (Array.getElem?_eq_some_iff.1 hj).1
      rw [lst_getD true hjlt] at hunl
      rw [h1] at hunl; cases hunl
    · rw [lst_set]
      refine next E _ w ?_
      have hm := St.put_m hp
      refine ⟨hInv.sr.put (Env.le_refl E) hv hInv.sr.mr hInv.sr.kn hp, by show base + ops.size ≤ s.m.n; rw [hm]; exact hInv.room, fun i hi hbi => hInv.free i hi (hun i hbi).1, fun i hi => ?_, fun i hi => hInv.held i (hun i hi).1, hInv.late, hInv.old⟩
      simp only [Nat.testBit_or, Nat.testBit_two_pow, Bool.or_eq_true, decide_eq_true_eq] at hi
      rcases hi with hi | hi
      · exact hInv.bits i hi
      · omega
  rw [atake_eq] at hs
  split at hs
  · rename_i hw
    exact fin (.tup []) undef V.undef hs (.inr ⟨awanted_ok hInv.sr.tm hw, rfl⟩)
  · rename_i hw
    split at hs
    · rename_i v hv
      obtain ⟨x, h1, h2⟩ := apure_ok hInv.sr.tm hv
      exact fin v x h2 hs (.inl ⟨awanted_ok hInv.sr.tm hw, fun w' _ => h1 w'⟩)
    · split at hs
      · rename_i v hv
        obtain ⟨x, h1, h2⟩ := heldLoad_ok hInv hH hb hv
        exact fin v x h2 hs (.inl ⟨awanted_ok hInv.sr.tm hw, h1⟩)
      · cases hs
  · cases hs

theorem takes_ok {ops : Array Oper} {H : Held} {base : Nat} {E0 : Env} {ws : World} (hH : ∀ h ∈ H, ∃ p, E0 h.2.1 = some p)
    (hfree : freeAll ops = true) (hsel : Region.noSelect ops = true) {Q : Exit → Act → World → Prop} (hQp : ∀ c a w, ¬ Q (.panic c) a w) :
    ∀ (os : List Oper) (i r mask : Nat) (st : St) (E : Env) (a : Act) (w : World), ops.toList.drop i = os → Inv ν B w0 ops H base E0 ws ⟨r, mask, st⟩ E a w →
      (∀ E' a' w', Inv ν B w0 ops H base E0 ws (takes P Φ ops.toList H os i r mask st) E' a' w' → wpAnyK P ops Q (KH H E0 ws) (takes P Φ ops.toList H os i r mask st).r (lst ops.size (takes P Φ ops.toList H os i r mask st).mask) a' w') →
      wpAnyK P ops Q (KH H E0 ws) r (lst ops.size mask) a w
  | [], i, r, mask, st, E, a, w, hd, hInv, hQ => hQ E a w hInv
  | o :: os, i, r, mask, st, E, a, w, hd, hInv, hQ => by
    have hi : ops.toList[i]? = some o := by
      have := List.getElem?_drop (xs := ops.toList) (i := i) (j := 0)
      rw [hd] at this
      simpa using this.symm
    have hi' : ops[i]? = some o := by rw [← Array.getElem?_toList]; exact hi
    have hd' : ops.toList.drop (i + 1) = os := by rw [← List.drop_drop, hd]; rfl
    rw [takes_cons] at hQ
    split at hQ
    · exact takes_ok hH hfree hsel hQp os (i + 1) r mask st E a w hd' hInv hQ
    · rename_i hb
      rw [tb_eq] at hb
      split at hQ
      · exact takes_ok hH hfree hsel hQp os (i + 1) r mask st E a w hd' hInv hQ
      · rename_i he
        split at hQ
        · exact hQ E a w hInv
        · rename_i r
          split at hQ
          · rename_i s hs
            exact take_one hH hfree hsel hQp hInv hi' hb he hs fun E' a' w' hInv' => takes_ok hH hfree hsel hQp os (i + 1) r (mask ||| 2 ^ i) s E' a' w' hd' hInv' hQ
          · exact takes_ok hH hfree hsel hQp os (i + 1) (r + 1) mask st E a w hd' hInv hQ

theorem allDone_ok : ∀ {l : List Node}, allDone l = true → ∀ nd ∈ l, nd.r = 0
  | [], h, nd, hnd => by cases hnd
  | ⟨0, m, s⟩ :: ns, h, nd, hnd => by
    simp only [allDone] at h
    rcases List.mem_cons.1 hnd with rfl | hnd
    · rfl
    · exact allDone_ok h nd hnd
  | ⟨r + 1, m, s⟩ :: ns, h, nd, hnd => by simp only [allDone] at h; cases h

theorem levels_ok {cf : CF} (hcf : CFok P cf ν) {ops : Array Oper} {H : Held} {base : Nat} {E0 : Env} {ws : World} (hH : ∀ h ∈ H, ∃ p, E0 h.2.1 = some p)
    (hfree : freeAll ops = true) (hsel : Region.noSelect ops = true) {Q : Exit → Act → World → Prop} (hQp : ∀ c a w, ¬ Q (.panic c) a w) {full : Nat} (hfull : ∀ i, i < ops.size → full.testBit i = true) :
    ∀ (f : Nat) (F outs : List Node), levels P Φ cf ops.toList H base f F = some outs → (∀ nd ∈ outs, nd.mask = full) → ∀ nd ∈ F, ∀ E a w, Inv ν B w0 ops H base E0 ws nd E a w →
      (∀ nd' ∈ outs, ∀ E' a' w', Inv ν B w0 ops H base E0 ws nd' E' a' w' → Q .normal a' w') → wpAnyK P ops Q (KH H E0 ws) nd.r (lst ops.size nd.mask) a w
  | 0, F, outs, h, hall, nd, hnd, E, a, w, hInv, hQ => by simp only [levels] at h; cases h
  | f + 1, F, outs, h, hall, nd, hnd, E, a, w, hInv, hQ => by
    simp only [levels] at h
    split at h
    · rename_i hdone
      simp only [Option.some.injEq] at h; subst h
      rw [allDone_ok hdone nd hnd]
      refine ⟨?_, hQ nd hnd E a w hInv⟩
      rw [List.eq_nil_iff_forall_not_mem]
      intro i hi
      obtain ⟨h1, h2, _⟩ := (ready_iff hInv.bits).1 hi
      rw [hall nd hnd, hfull i h1] at h2
      cases h2
    split at h
    · cases h
    rename_i F' hF'
    obtain ⟨o', ho', hsub⟩ := runAll_mem hF' nd hnd
    have next : ∀ nd' ∈ F', ∀ E a w, Inv ν B w0 ops H base E0 ws nd' E a w → wpAnyK P ops Q (KH H E0 ws) nd'.r (lst ops.size nd'.mask) a w := by
      intro nd' hnd' E' a' w' hInv'
      split at h
      · rename_i n
        exact levels_ok hcf hH hfree hsel hQp hfull f _ outs h hall nd' hnd' E' a' w' hInv' hQ
      · exact levels_ok hcf hH hfree hsel hQp hfull f _ outs h hall nd' (dedupe_ok hnd') E' a' w' hInv' hQ
    obtain ⟨r, mask, st⟩ := nd
    cases r with
    | zero =>
      simp only [expand, Option.some.injEq] at ho'; subst ho'
      exact next ⟨0, mask, st⟩ (hsub _ (by simp)) E a w hInv
    | succ r =>
      simp only [expand] at ho'
      refine takes_ok (Φ := Φ) hH hfree hsel hQp ops.toList 0 (r + 1) mask st E a w rfl hInv fun E1 a1 w1 hInv1 => ?_
      generalize takes P Φ ops.toList H ops.toList 0 (r + 1) mask st = nd at ho' hInv1 ⊢
      obtain ⟨r1, mask1, st1⟩ := nd
      cases r1 with
      | zero =>
        simp only [Option.some.injEq] at ho'; subst ho'
        exact next ⟨0, mask1, st1⟩ (hsub _ (by simp)) E1 a1 w1 hInv1
      | succ r1 =>
        simp only at ho'
        split at ho'
        · rename_i n ns hbr
          simp only [Option.some.injEq] at ho'; subst ho'
          refine ⟨fun hnil => ?_, fun j hj => ?_⟩
          · exfalso
            have hne : ∃ k o, ops.toList[k]? = some o ∧ mask1.testBit k = false ∧ edgesIn mask1 o.after.toList = true := by
              have key : ∀ (os : List Oper) (i : Nat) (l : List Node), ops.toList.drop i = os → branch P Φ cf ops.toList H base r1 mask1 st1 os i = some l → l ≠ [] → ∃ k o, ops.toList[k]? = some o ∧ mask1.testBit k = false ∧ edgesIn mask1 o.after.toList = true := by
                intro os
                induction os with
                | nil => intro i l _ hb hne; simp only [branch, Option.some.injEq] at hb; exact absurd hb.symm hne
                | cons q qs ih =>
                  intro i l hd hb hne
                  have hi : ops.toList[i]? = some q := by
                    have := List.getElem?_drop (xs := ops.toList) (i := i) (j := 0)
                    rw [hd] at this
                    simpa using this.symm
                  have hd' : ops.toList.drop (i + 1) = qs := by rw [← List.drop_drop, hd]; rfl
                  simp only [branch] at hb
                  split at hb
                  · exact ih _ _ hd' hb hne
                  · rename_i h1
                    split at hb
                    · exact ih _ _ hd' hb hne
                    · rename_i h2
                      exact ⟨i, q, hi, by rw [← tb_eq]; exact h1, h2⟩
              exact key _ 0 _ rfl hbr (by simp)
            obtain ⟨k, o, h1, h2, h3⟩ := hne
            have hk : ops[k]? = some o := by rw [← Array.getElem?_toList]; exact h1
            have : k ∈ Region.ready .any ops (lst ops.size mask1) := (ready_iff hInv1.bits).2 ⟨(Array.getElem?_eq_some_iff.1 hk).1, h2, o, hk, h3⟩
            rw [hnil] at this; cases this
          · obtain ⟨hjlt, hb, o, hjo, he⟩ := (ready_iff hInv1.bits).1 hj
            obtain ⟨ss, hss, hha, hmem⟩ := branch_ok rfl hbr j o (Nat.zero_le _) (by rw [Array.getElem?_toList]; exact hjo) hb he
            have hun : ∀ i, (mask1 ||| 2 ^ j).testBit i = false → mask1.testBit i = false ∧ i ≠ j := by
              intro i hi
              rw [Nat.testBit_or, Nat.testBit_two_pow, Bool.or_eq_false_iff] at hi
              exact ⟨hi.1, fun e => by simp [e] at hi⟩
            have hroom := hInv1.room
            simp only at hroom
            refine stepOp_ok hcf hInv1.sr (hInv1.free j hjlt hb) hjo hss fun s hs E' a' w' hn hE hext hSR _ => ?_
            simp only at hn hext
            have hheld := heldOk_ok hInv1.sr.mr hSR.mr hInv1.late hE hjo (heldAll_ok hha s hs) (E0 := E0) (ws := ws)
            refine ⟨hheld, ?_⟩
            rw [lst_set]
            refine next ⟨r1, mask1 ||| 2 ^ j, s⟩ (hsub _ (hmem s hs)) E' a' w' ?_
            refine ⟨hSR, by show base + ops.size ≤ s.m.n; omega, fun i hi hbi => ?_, fun i hi => ?_, fun i hi => ?_, Env.le_trans hInv1.late hE, fun b hb' => ?_⟩
            · obtain ⟨h1, h2⟩ := hun i hbi
              rw [hext (base + i) (by omega) (by omega)]
              exact hInv1.free i hi h1
            · simp only [Nat.testBit_or, Nat.testBit_two_pow, Bool.or_eq_true, decide_eq_true_eq] at hi
              rcases hi with hi | hi
              · exact hInv1.bits i hi
              · omega
            · obtain ⟨h1, h2⟩ := hun i hi
              refine hheld i (edge_of hjo fun e he' hbi heq => ?_) (hInv1.held i h1)
              have := edgesIn_iff.1 he e (by simpa using he') hbi
              rw [heq, h1] at this; cases this
            · rw [hext b (by omega) (by omega)]
              exact hInv1.old b hb'
        · cases ho'

theorem states_ok {full : Nat} : ∀ {l : List Node} {ss : List St}, states full l = some ss → ∀ nd ∈ l, nd.mask = full ∧ nd.st ∈ ss
  | [], ss, h, nd, hnd => by cases hnd
  | ⟨r, m, s⟩ :: ns, ss, h, nd, hnd => by
    simp only [states] at h
    split at h
    case h_2 => cases h
    rename_i h1
    split at h
    case h_2 => cases h
    rename_i l hl
    simp only [Option.some.injEq] at h; subst h
    rcases List.mem_cons.1 hnd with rfl | hnd
    · exact ⟨Nat.eq_of_beq_eq_true h1, by simp⟩
    · obtain ⟨g1, g2⟩ := states_ok hl nd hnd
      exact ⟨g1, by simp [g2]⟩

/-- The cells of loads that are held lie in blocks that are there. -/
def heldIn (M : Mem) : Held → Bool
  | [] => true
  | (_, b, _, _) :: hs => match M.get b with
    | some _ => heldIn M hs
    | none => false
theorem heldIn_ok (h : MR ν B w0 E M w) : ∀ {H : Held}, heldIn M H = true → ∀ q ∈ H, ∃ p, E q.2.1 = some p
  | [], _, q, hq => by cases hq
  | (r1, r2, r3, r4) :: rs, hh, q, hq => by
    simp only [heldIn] at hh
    split at hh
    · rename_i o ho
      rcases List.mem_cons.1 hq with rfl | hq
      · obtain ⟨p, hp, _⟩ := h.obj _ o ho; exact ⟨p, hp⟩
      · exact heldIn_ok h hh q hq
    · cases hh
theorem explore_ok {cf : CF} (hcf : CFok P cf ν) (hmix : P.follows .mixedOrders = true) {ops : Array Oper} (hfree : freeAll ops = true) (hsel : Region.noSelect ops = true) {H : Held} {st : St} {outs : List St} (hH : heldIn st.m H = true) (he : explore P Φ cf ops ops.toList ops.size H st = some outs)
    {id : Nat} {Q : Exit → Act → World → Prop} (h : SR ν B w0 E st a w) (hQ : ∀ st' ∈ outs, ∀ E' a' w', Late st.m.n E st'.m.n E' → SR ν B w0 E' st' a' w' → Q .normal a' w') : (Code.region id ops true).wp P Q a w := by
  unfold explore at he
  split at he
  case h_2 => cases he
  rename_i F hF
  have hall := states_ok he
  let Q' : Exit → Act → World → Prop := fun e a w => e = .normal ∧ Q .normal a w
  refine wp_mono (Q := Q') (wp_region_any hmix (wpAny_of_K (K := KH H E w.drew) _ _ _ _ ?_)) (fun e a w hq => by obtain ⟨rfl, hq⟩ := hq; exact hq)
  rw [← lst_zero]
  have hfull : ∀ i, i < ops.size → (2 ^ ops.size - 1).testBit i = true := fun i hi => by rw [Nat.testBit_two_pow_sub_one]; simpa using hi
  have hmr := h.mr.drew
  have hst : SR ν B w0 E (reserve ops.size st) a w.drew := by
    obtain ⟨t, s, ⟨hh, m, kk⟩⟩ := st
    refine ⟨h.tm, h.sz, h.df, hmr.congr (fun _ _ k => k) (Nat.le_add_right _ _) ?_, rfl⟩
    show E (m + ops.size) = none
    cases e : E (m + ops.size) with
    | none => rfl
    | some p => have := hmr.dom _ p e; simp only at this; omega
  have hres : (reserve ops.size st).m.n = st.m.n + ops.size := by obtain ⟨t, s, ⟨hh, m, kk⟩⟩ := st; rfl
  refine levels_ok hcf (heldIn_ok h.mr hH) hfree hsel (fun c a w hc => by obtain ⟨hc, _⟩ := hc; cases hc) hfull _ _ F hF (fun nd hnd => (hall nd hnd).1) _ (List.mem_singleton.2 rfl) E a w.drew ⟨hst, by show _ ≤ (reserve ops.size st).m.n; rw [hres]; exact Nat.le_refl _, fun i hi _ => ?_, fun i hi => ?_, fun i hi q hq hqi p hp j hj => rfl, Env.le_refl E, fun _ _ => rfl⟩ fun nd hnd E' a' w' hInv => ⟨rfl, ?_⟩
  · cases e : E (st.m.n + i) with
    | none => rfl
    | some p => have := hmr.dom _ p e; omega
  · simp at hi
  · exact hQ nd.st (hall nd hnd).2 E' a' w' ⟨by have := hInv.room; omega, hInv.late, fun b hb => hInv.old b hb⟩ hInv.sr
end

end Go.Proofs.YtnidkdjapieinaaDoor.Ev
