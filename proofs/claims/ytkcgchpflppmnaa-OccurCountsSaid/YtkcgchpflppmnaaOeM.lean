/- core: the names that are free in an expression are put into a set. core.Free: the list of the names that are free. -/
import Derived.Test.YtkcgchpflppmnaaOeO
import Derived.MapKept
import Derived.Test.YtkcgchpflppmnaaShelfS
import Derived.Maps.RangeRun
import Derived.Laws.IdiomRangeMap
namespace Go.Proofs.Ytkcgchpflppmnaa
open Go.RowKit
set_option linter.unusedSimpArgs false
set_option linter.unusedVariables false

/-- A set of texts in memory whose entries' births are in order: it may be ranged over. -/
def SSt (W : World) (m : Nat) (l : List ByteArray) : Prop := ∃ ms ck, W.heap[m]? = some (.map ms ck) ∧ ms.toList.map (fun e => (e.key, e.val)) = setE l ∧ MapKept.Stamped ms ck
theorem SSt.lt {W : World} {m : Nat} {l : List ByteArray} (h : SSt W m l) : m < W.heap.size := by
  obtain ⟨ms, ck, h1, -⟩ := h
  exact (Array.getElem?_eq_some_iff.1 h1).1
theorem SSt.of_same {W W' : World} {m : Nat} {l : List ByteArray} (h : SSt W m l) (he : W'.heap[m]? = W.heap[m]?) : SSt W' m l := by
  obtain ⟨ms, ck, h1, h2⟩ := h
  exact ⟨ms, ck, he.trans h1, h2⟩
theorem SSt.alloc {W : World} {m : Nat} {l : List ByteArray} (h : SSt W m l) (o : Obj) : SSt (W.alloc o) m l := h.of_same (Below.heap_alloc _ _ _ h.lt)
theorem SSt.below {W W' : World} {m : Nat} {l : List ByteArray} (h : SSt W m l) (hb : Below W.heap.size W W') : SSt W' m l := h.of_same (hb.block m h.lt)
theorem SSt.new (w : World) : SSt (w.alloc (.map #[] 0)) w.heap.size [] := ⟨#[], 0, heap_alloc_new w _, rfl, MapKept.stamped_empty 0⟩
theorem Bad.st {W : World} {m : Nat} {l : List ByteArray} (h : SSt W m l) : Bad W m := by
  obtain ⟨ms, ck, h1, h2, -⟩ := h
  exact Bad.set (l := l) ⟨ms, ck, h1, h2⟩
def FrePost (W : World) (m : Nat) (l : List ByteArray) (P : ByteArray → Prop) (n : Nat) (r : Ending) (W' : World) : Prop := r = .returned (.tuple #[]) ∧ W.grownBy W' (some m) ∧ ∃ l', SSt W' m l' ∧ (∀ y, y ∈ l' ↔ y ∈ l ∨ P y) ∧ l'.length ≤ l.length + n
theorem FrePost.mk {W : World} {m : Nat} {l : List ByteArray} {P : ByteArray → Prop} {n : Nat} {r : Ending} {W' : World} {l' : List ByteArray} (h : r = .returned (.tuple #[])) (hg : W.grownBy W' (some m)) (hs : SSt W' m l') (hm : ∀ y, y ∈ l' ↔ y ∈ l ∨ P y) (hl : l'.length ≤ l.length + n) : FrePost W m l P n r W' := ⟨h, hg, l', hs, hm, hl⟩
theorem take_or {β : Type} {l : List β} {k : Nat} {x : β} (hx : l[k]? = some x) (P : β → Prop) : (∃ y ∈ l.take (k + 1), P y) ↔ (∃ y ∈ l.take k, P y) ∨ P x := by
  rw [List.take_add_one, hx]
  simp only [Option.toList_some, List.mem_append, List.mem_singleton]
  constructor
  · rintro ⟨y, hy | rfl, h⟩
    · exact .inl ⟨y, hy, h⟩
    · exact .inr h
  · rintro (⟨y, hy, h⟩ | h)
    · exact ⟨y, .inl hy, h⟩
    · exact ⟨x, .inr rfl, h⟩
theorem take_none {β : Type} {l : List β} (P : β → Prop) : ¬ ∃ y ∈ l.take 0, P y := by simp
theorem grown_of_drew {w w' : World} {row : Option Nat} (h : w.drew.grownBy w' row) : w.grownBy w' row := ⟨h.os, h.tape, h.output, h.size, h.block⟩
theorem grown_drew (w : World) (row : Option Nat) : w.grownBy w.drew row := ⟨rfl, rfl, rfl, Nat.le_refl _, fun _ _ _ => rfl⟩
theorem grown_reflE (w : World) (row : Option Nat) : w.grownBy w row := ⟨rfl, rfl, rfl, Nat.le_refl _, fun _ _ _ => rfl⟩
theorem grown_allocE {w w' : World} {row : Option Nat} (h : w.grownBy w' row) (o : Obj) : w.grownBy (w'.alloc o) row := grown_transE h (grown_belowE row ((Below.refl _ w').alloc (Nat.le_refl _) _))
theorem set_put2 {w : World} {m : Nat} {l : List ByteArray} (h : SSt w m l) (a : ByteArray) : ∃ w' l', (Instr.mapUpdate 76 (.map (some m)) (.string a) (.bool true)).run Try.prog w = .ok () w' ∧ w.grownBy w' (some m) ∧ SSt w' m l' ∧ (∀ x, x ∈ l' ↔ x = a ∨ x ∈ l) ∧ l'.length ≤ l.length + 1 := by
  obtain ⟨ms, ck, h1, h2, h3⟩ := h
  have hlt := (Array.getElem?_eq_some_iff.1 h1).1
  by_cases ha : a ∈ l
  · obtain ⟨j, k1⟩ := set_some h2 ha
    obtain ⟨e, -, he, hk⟩ := find_key k1
    obtain ⟨s, hs, e1, e2⟩ := set_mem h2 (List.mem_of_getElem? he)
    rw [e1, same_str] at hk
    have hsa : a = s := by simpa using hk
    subst hsa
    rw [Nat.sub_zero, Array.getElem?_toList] at he
    refine ⟨{ w with heap := w.heap.setIfInBounds m (.map (ms.modify j fun e => { e with key := .string a, val := .bool true }) ck) }, l, ?_, ⟨rfl, rfl, rfl, by simp, fun k hk hne => Array.getElem?_setIfInBounds_ne (fun e => hne (by rw [e]))⟩, ⟨_, _, Array.getElem?_setIfInBounds_self_of_lt hlt, ?_, MapKept.stamped_modify h3 _ _ (fun _ _ => rfl) (fun e' he' hej => by rw [he] at hej; cases hej; exact e1.symm)⟩, fun x => ⟨.inr, fun hx => hx.elim (fun e => e ▸ ha) id⟩, Nat.le_succ _⟩
    · simp [Instr.mapUpdate, run_underlying Try.underlying76, Ev.run_getMap h1, Ev.run_checkKey keyS, Ev.run_findKey keyS k1, Ev.run_setMap h1, Instr.keyThatStays, he, e1, same_bits]
    · rw [← h2]
      apply List.ext_getElem?
      intro i
      rw [List.getElem?_map, List.getElem?_map, Array.getElem?_toList, Array.getElem?_toList, Array.getElem?_modify]
      split
      · next hi =>
        subst hi
        rw [he]
        simp [e1, e2]
      · rfl
  · refine ⟨{ w with heap := w.heap.setIfInBounds m (.map (ms.push { key := .string a, val := .bool true, born := ck }) (ck + 1)) }, l ++ [a], ?_, ⟨rfl, rfl, rfl, by simp, fun k hk hne => Array.getElem?_setIfInBounds_ne (fun e => hne (by rw [e]))⟩, ⟨_, _, Array.getElem?_setIfInBounds_self_of_lt hlt, ?_, MapKept.stamped_push h3 (fun x hx hk => by obtain ⟨s, hs, e1, -⟩ := set_mem h2 hx; rw [e1] at hk; cases hk; exact ha hs)⟩, fun x => by simp [or_comm], by simp⟩
    · simp [Instr.mapUpdate, run_underlying Try.underlying76, Ev.run_getMap h1, Ev.run_checkKey keyS, Ev.run_findKey keyS (set_none h2 ha), Ev.run_setMap h1]
    · rw [Array.toList_push, List.map_append, h2]
      unfold setE
      rw [List.map_append]; rfl
theorem sum_le_next {β : Type} (f : β → Nat) {l : List β} {k : Nat} {x : β} (hx : l[k]? = some x) {m m' R T : Nat} (hm : m' ≤ m + f x) (h : m + (((l.drop k).map f).sum + R) ≤ T) : m' + (((l.drop (k + 1)).map f).sum + R) ≤ T := by
  obtain ⟨hk, rfl⟩ := List.getElem?_eq_some_iff.1 hx
  rw [List.drop_eq_getElem_cons hk, List.map_cons, List.sum_cons] at h
  omega
theorem sum_le_end {β : Type} (f : β → Nat) {l : List β} {n : Nat} (hn : l.length = n) {m R T : Nat} (h : m + (((l.drop n).map f).sum + R) ≤ T) : m + R ≤ T := by
  subst hn; rw [List.drop_length] at h; simpa using h
set_option maxRecDepth 100000 in
set_option maxHeartbeats 8000000 in
theorem free_step (d : Nat)
    (hfree : ∀ (x : Ex d) (b o : Nat) (fs : List (List ByteArray)) (W : World) (v : Value) (m : Nat) (l : List ByteArray), b < W.heap.size → ExAt W d b o x → Sm d x → FrAt W v fs → FrSm fs → SSt W m l →
      Calls Try.prog 38 #[.pointer (some ⟨b, o, none⟩), v, .map (some m)] W fun r W' => FrePost W m l (Fre d x fs) (sizeK d x) r W')
    (e : ExN (Ex d)) (b o : Nat) (fs : List (List ByteArray)) (wi : World) (v : Value) (m : Nat) (l : List ByteArray) (hb : b < wi.heap.size) (h : ExAt wi (d + 1) b o e) (hs : Sm (d + 1) e) (hf : FrAt wi v fs) (hn : FrSm fs) (hm : SSt wi m l) :
    Calls Try.prog 38 #[.pointer (some ⟨b, o, none⟩), v, .map (some m)] wi fun r W' => FrePost wi m l (Fre (d + 1) e fs) (sizeK (d + 1) e) r W' := by
  obtain ⟨cs, hcs, ps, bs, es, ls, rfl, h1, ⟨q4, r4, rfl, h2⟩, ⟨q5, r5, rfl, h3⟩, ⟨q6, r6, rfl, h4⟩⟩ := h
  obtain ⟨q3, r3, rfl, h1'⟩ := id h1
  have hbad := Bad.st hm
  obtain ⟨T, hT⟩ : ∃ T, l.length + sizeK (d + 1) e = T := ⟨_, rfl⟩
  have HT := Lib.hid (show l.length + 1 + (((e.args.drop 0).map (sizeK d)).sum + ((e.binds.map fun x => sizeK d x.2).sum + ((e.alts.map fun x => sizeK d x.e).sum + 0))) ≤ T by rw [List.drop_zero, ← hT, size_succ]; omega)
  have HTT := Lib.hid hT
  obtain ⟨SS, hSS⟩ : ∃ s, sizeK (d + 1) e = s := ⟨_, rfl⟩
  rw [hSS] at HTT ⊢
  clear hT hSS
  have hsh : ∃ p, v = .pointer p := by
    rcases fs with _ | ⟨ns, r⟩
    · exact ⟨none, hf⟩
    · obtain ⟨b, vs, vo, h1, -⟩ := hf; exact ⟨_, h1⟩
  obtain ⟨pv, rfl⟩ := hsh
  have hbm : b ≠ m := fun e => (hbad (o + 1)).1 _ (e ▸ hcs 1 _ rfl)
  obtain ⟨N3, hN3⟩ : ∃ N, e.params.length = N := ⟨_, rfl⟩
  obtain ⟨N4, hN4⟩ : ∃ N, e.binds.length = N := ⟨_, rfl⟩
  obtain ⟨N5, hN5⟩ : ∃ N, e.args.length = N := ⟨_, rfl⟩
  obtain ⟨N6, hN6⟩ : ∃ N, e.alts.length = N := ⟨_, rfl⟩
  have hcl := fun j c hj W (hW : wi.grownBy W (some m)) => cell_grown hW (hcs j c hj) hbm hb
  have C0 := Lib.hid (show ∀ W, wi.grownBy W (some m) → W.cell? ⟨b, o, none⟩ = _ from hcl 0 _ rfl)
  have C1 := Lib.hid (hcl 1 _ rfl)
  have C3 := Lib.hid (hcl 3 _ rfl)
  have C4 := Lib.hid (hcl 4 _ rfl)
  have C5 := Lib.hid (hcl 5 _ rfl)
  have C6 := Lib.hid (hcl 6 _ rfl)
  have m4 : N4 ≤ 10000000 := hN4 ▸ hs.2.1.1
  have m5 : N5 ≤ 10000000 := hN5 ▸ hs.2.2.1.1
  have m6 : N6 ≤ 10000000 := hN6 ▸ hs.2.2.2.1
  rw [hN3] at C3 h1
  rw [hN4] at C4
  rw [hN5] at C5
  rw [hN6] at C6
  have HN4 := Lib.hid hN4
  have HN5 := Lib.hid hN5
  have HN6 := Lib.hid hN6
  have H2 := Lib.hid (show ∀ k x, e.binds[k]? = some x → ∃ p o', q4 = some ⟨p, o', none⟩ ∧ p < wi.heap.size ∧ ExAt wi d p (o' + k * 8 + 1) x.2 from fun k x hx => by
    obtain ⟨p, o', hq, hp, hat⟩ := h2 (Nat.lt_of_le_of_lt (Nat.zero_le _) (List.getElem?_eq_some_iff.1 hx).1)
    exact ⟨p, o', hq, hp, (hat k x hx).2⟩)
  have H3 := Lib.hid h3
  have H4 := Lib.hid h4
  have HS := Lib.hid hs
  have HF := Lib.hid hf
  have HFN := Lib.hid hn
  have HM := Lib.hid hm
  have HCN := Lib.hid hfree
  have HBad := Lib.hid hbad
  have H1 := Lib.hid h1
  obtain ⟨bns, hbns⟩ : ∃ l, e.binds.map (·.1) = l := ⟨_, rfl⟩
  obtain ⟨pns, hpns⟩ : ∃ l, e.params = l := ⟨_, rfl⟩
  have HBN := Lib.hid (show BNs wi (.slice q4 N4 r4) bns from by have := names_of (show SlAt wi 8 _ (.slice q4 N4 r4) e.binds from ⟨q4, r4, by rw [hN4], h2⟩); rw [hbns] at this; exact this)
  have HBNs := Lib.hid hbns
  have HPNs := Lib.hid hpns
  rw [hpns] at H1
  have hlb : bns.length ≤ 10000000 := by rw [← hbns, List.length_map]; exact hs.2.1.1
  have hlp : pns.length ≤ 10000000 := by rw [← hpns]; exact hs.1
  have HSM := Lib.hid (FrSm.cons hlp (FrSm.cons hlb hn))
  have hfr := fun y => fre_succ d e fs y hpns hbns
  obtain ⟨PP, hPP⟩ : ∃ P, P = Fre (d + 1) e fs := ⟨_, rfl⟩
  rw [← hPP]
  rw [← hPP] at hfr
  obtain ⟨kd, hkd⟩ : ∃ k, e.kind = k := ⟨_, rfl⟩
  obtain ⟨nm, hnm⟩ : ∃ k, e.name = k := ⟨_, rfl⟩
  obtain ⟨inner, hinner⟩ : ∃ i, pns :: bns :: fs = i := ⟨_, rfl⟩
  rw [hinner] at hfr HSM
  rw [hkd] at C0 hfr
  rw [hnm] at C1 hfr
  have HFR := Lib.hid hfr
  have HI := Lib.hid hinner
  have KB := Lib.hid (show Calls Try.prog 37 #[.slice q4 N4 r4] wi.drew fun e w' => ∃ v', e = .returned v' ∧ SOwn w' wi.heap.size v' bns ∧ Below wi.heap.size wi.drew w' from cbinds_any _ bns wi.drew (HBN.out.grown (grown_drew wi (some m)) hbad) hlb)
  clear hcs hcl h1 h1' h2 h3 h4 hs hf hn hm hfree hbad hbm hbns hpns hN3 hN4 hN5 hN6 hkd hnm hinner hlb hlp hPP hfr
  go_enter Try.func38, Try.ntmps38
  go_upto_region 0 with fail
  go_cut [6] (fun s6 wx => ∃ g, s6 = .pointer (some ⟨g, 0, none⟩) ∧ Hid (FrAt wx s6 inner) ∧ Hid (wi.grownBy wx (some m)) ∧ Hid (SSt wx m l))
  case first =>
    go_upto_region 0 with fail
    have hS0 : wi.drew.cell? ⟨b, o + 3, none⟩ = some (.slice q3 N3 r3) ∧ wi.drew.cell? ⟨b, o + 4, none⟩ = some (.slice q4 N4 r4) := ⟨C3.out _ (grown_drew wi _), C4.out _ (grown_drew wi _)⟩
    go_wp2_with (fail)
    go_region_held3 (fun wx => wx.cell? ⟨b, o + 3, none⟩ = some (.slice q3 N3 r3) ∧ wx.cell? ⟨b, o + 4, none⟩ = some (.slice q4 N4 r4)) (assumption) ((go_at_call 37; refine KB.out.mono ?_; rintro r1 w1 ⟨v', rfl, o1, b1⟩; obtain ⟨av, cv, rfl⟩ := own_shape o1; have q1 := below_of_drew b1; have G1 := grown_belowE (some m) q1; have G2 := grown_allocE G1 (.cells #[.slice av bns.length cv, .pointer pv] 70); have hS1 : w1.cell? ⟨b, o + 3, none⟩ = some (.slice q3 N3 r3) ∧ w1.cell? ⟨b, o + 4, none⟩ = some (.slice q4 N4 r4) := ⟨C3.out _ G1, C4.out _ G1⟩; have hS2 : (w1.alloc (.cells #[.slice av bns.length cv, .pointer pv] 70)).cell? ⟨b, o + 3, none⟩ = some (.slice q3 N3 r3) ∧ (w1.alloc (.cells #[.slice av bns.length cv, .pointer pv] 70)).cell? ⟨b, o + 4, none⟩ = some (.slice q4 N4 r4) := ⟨C3.out _ G2, C4.out _ G2⟩; have F1 := Lib.hid (FrAt.push o1.txs (FrAt.below q1 fs _ HF.out) 70); have F2 := Lib.hid (FrAt.push (H1.out.grown G2 HBad.out) F1.out 70); have G3 := Lib.hid (grown_allocE G2 (.cells #[.slice q3 N3 r3, .pointer (some ⟨w1.heap.size, 0, none⟩)] 70)); have hS3 : ((w1.alloc (.cells #[.slice av bns.length cv, .pointer pv] 70)).alloc (.cells #[.slice q3 N3 r3, .pointer (some ⟨w1.heap.size, 0, none⟩)] 70)).cell? ⟨b, o + 3, none⟩ = some (.slice q3 N3 r3) ∧ ((w1.alloc (.cells #[.slice av bns.length cv, .pointer pv] 70)).alloc (.cells #[.slice q3 N3 r3, .pointer (some ⟨w1.heap.size, 0, none⟩)] 70)).cell? ⟨b, o + 4, none⟩ = some (.slice q4 N4 r4) := ⟨C3.out _ G3.out, C4.out _ G3.out⟩; have S3 := Lib.hid (((HM.out.below q1).alloc (.cells #[.slice av bns.length cv, .pointer pv] 70)).alloc (.cells #[.slice q3 N3 r3, .pointer (some ⟨w1.heap.size, 0, none⟩)] 70)); rw [HI.out] at F2; clear o1 b1 q1 G1 G2 F1))
    all_goals
      go_wp2
      go_meet
      exact ⟨_, rfl, by simpa using F2, G3, S3⟩
  case rest =>
    obtain ⟨g, rfl, HFI, HG, HS0⟩ := hcut
    clear HM KB HF HI C3 H1
    obtain ⟨AA, hAA⟩ : ∃ A, A = (inner.any fun l => decide (nm ∈ l)) := ⟨_, rfl⟩
    have HAA := Lib.hid hAA
    have HFR := Lib.hid (show ∀ y, PP y ↔ (kd = 1 ∧ AA = false ∧ y = nm) ∨ _ from fun y => by rw [hAA]; exact HFR.out y)
    clear hAA
    go_upto_region 1 with fail
    go_cut [37] (fun s37 wx => s37 = .bool (decide (kd = 1) && !AA) ∧ Hid (FrAt wx (.pointer (some ⟨g, 0, none⟩)) inner) ∧ Hid (wi.grownBy wx (some m)) ∧ Hid (SSt wx m l))
    case first =>
      have x0 := C0.out _ HG.out
      have x1 := C1.out _ HG.out
      have KH := frHas_any _ inner nm _ HFI.out HSM.out
      rw [← HAA.out] at KH
      by_cases hk : kd = 1
      · have f1 : (kd == 1) = true := by simpa using hk
        have f2 : decide (kd = 1) = true := by simpa using hk
        go_wp2_with (go_at_call 56; refine KH.mono ?_; rintro r1 w1 ⟨rfl, b1⟩)
        go_meet
        exact ⟨by rw [f2]; rfl, Lib.hid (FrAt.below b1 _ _ HFI.out), Lib.hid (grown_transE HG.out (grown_belowE _ b1)), Lib.hid (HS0.out.below b1)⟩
      · have f1 : (kd == 1) = false := by simpa using hk
        have f2 : decide (kd = 1) = false := by simpa using hk
        go_wp2_with fail
        go_meet
        exact ⟨by rw [f2]; rfl, HFI, HG, HS0⟩
    case rest =>
    obtain ⟨rfl, HFI1, HG1, HS1⟩ := hcut
    clear HFI HG HS0 HAA C0
    go_upto_if 37 with fail
    go_cut [] (fun wx => Hid (FrAt wx (.pointer (some ⟨g, 0, none⟩)) inner) ∧ Hid (wi.grownBy wx (some m)) ∧ ∃ ls, Hid (SSt wx m ls) ∧ Hid (∀ y, y ∈ ls ↔ y ∈ l ∨ (kd = 1 ∧ AA = false ∧ y = nm)) ∧ Hid (ls.length ≤ l.length + 1))
    case first =>
      cases hc : (decide (kd = 1) && !AA) with
      | false =>
        have hno : ¬ (kd = 1 ∧ AA = false) := fun ⟨h1, h2⟩ => by rw [h2, decide_eq_true h1] at hc; cases hc
        go_wp2_with fail
        go_meet
        exact ⟨HFI1, HG1, l, HS1, Lib.hid fun y => ⟨.inl, fun h => h.elim id fun ⟨h1, h2, _⟩ => (hno ⟨h1, h2⟩).elim⟩, Lib.hid (Nat.le_succ _)⟩
      | true =>
        have hyes : kd = 1 ∧ AA = false := by simpa using hc
        have x1 := C1.out _ HG1.out
        obtain ⟨w3, ls3, hput, hg, hS3, hmem, hle⟩ := set_put2 HS1.out nm
        have L3 := Lib.hid hle
        have F3 := Lib.hid (FrAt.grown hg (Bad.st HS1.out) _ _ HFI1.out)
        have G3 := Lib.hid (grown_transE HG1.out hg)
        have S3 := Lib.hid hS3
        have M3 := Lib.hid hmem
        have Y3 := Lib.hid hyes
        clear hg hS3 hmem hyes hle
        go_wp2_with fail
        go_meet
        exact ⟨F3, G3, ls3, S3, Lib.hid fun y => by rw [M3.out y]; exact ⟨fun h => h.elim (fun e => .inr ⟨Y3.out.1, Y3.out.2, e⟩) .inl, fun h => h.elim .inr fun h => .inl h.2.2⟩, L3⟩
    case rest =>
    obtain ⟨HFI, HG, ls0, HS1', HM0, HL0⟩ := hcut
    have HT := Lib.hid (show ls0.length + (((e.args.drop 0).map (sizeK d)).sum + ((e.binds.map fun x => sizeK d x.2).sum + ((e.alts.map fun x => sizeK d x.e).sum + 0))) ≤ T by have h1 := HT.out; have h2 := HL0.out; omega)
    clear HL0
    clear HFI1 HG1 HS1 C1
    obtain ⟨P0, hP0⟩ : ∃ P : ByteArray → Prop, P = fun y => y ∈ l ∨ (kd = 1 ∧ AA = false ∧ y = nm) := ⟨_, rfl⟩
    have HM0 := Lib.hid (show ∀ y, y ∈ ls0 ↔ P0 y from fun y => by rw [hP0]; exact HM0.out y)
    have HEND := Lib.hid (show ∀ y, (((P0 y ∨ (∃ x ∈ e.args, Fre d x inner y)) ∨ (∃ x ∈ e.binds, Fre d x.2 inner y)) ∨ ∃ x ∈ e.alts, Fre d x.e (x.vars :: inner) y) ↔ y ∈ l ∨ PP y from fun y => by
      rw [HFR.out y, hP0]
      constructor
      · rintro ((((h | h) | h) | h) | h)
        · exact .inl h
        · exact .inr (.inl h)
        · exact .inr (.inr (.inl h))
        · exact .inr (.inr (.inr (.inl h)))
        · exact .inr (.inr (.inr (.inr h)))
      · rintro (h | h | h | h | h)
        · exact .inl (.inl (.inl (.inl h)))
        · exact .inl (.inl (.inl (.inr h)))
        · exact .inl (.inl (.inr h))
        · exact .inl (.inr h)
        · exact .inr h)
    clear HFR hP0
    go_upto_region 3 with fail
    have xx5 := C5.out _ HG.out
    go_upto_region 4 with fail
    clear xx5
    go_loopw [7, 48] (fun _ i wr => ∃ (k : Nat) (ls : List ByteArray), i = .int .i64 k ∧ k ≤ N5 ∧ Hid (SSt wr m ls) ∧ Hid (∀ y, y ∈ ls ↔ P0 y ∨ ∃ x ∈ e.args.take k, Fre d x inner y) ∧ Hid (FrAt wr (.pointer (some ⟨g, 0, none⟩)) inner) ∧ Hid (wi.grownBy wr (some m)) ∧ Hid (ls.length + (((e.args.drop k).map (sizeK d)).sum + ((e.binds.map fun x => sizeK d x.2).sum + ((e.alts.map fun x => sizeK d x.e).sum + 0))) ≤ T)) (fun _ i _ => N5 - (intOf i).toNat)
    case atStart => exact ⟨0, _, rfl, Nat.zero_le _, HS1', Lib.hid (fun y => by rw [HM0.out y]; exact ⟨.inl, fun h => h.elim id fun h => (take_none _ h).elim⟩), HFI, HG, HT⟩
    case round =>
      clear HS1' HM0 HFI HG HT
      obtain ⟨k, ls, rfl, hk, HSS, HMM, HFI, HG, HT⟩ := hrel
      have cc := C5.out wr HG.out
      by_cases hlt : k < N5
      · have hlt2 : decide ((k : Int) < (N5 : Int)) = true := by simp; omega
        have hlt3 : decide (k < N5) = true := by simp; omega
        have hi0 : (0 : Int) ≤ (k : Int) := by omega
        have hkt : k < e.args.length := by rw [HN5.out]; exact hlt
        obtain ⟨x, hx⟩ : ∃ x, e.args[k]? = some x := ⟨_, List.getElem?_eq_getElem hkt⟩
        obtain ⟨p, o', hq, hp, hat⟩ := H3.out (by omega)
        subst hq
        have HGA := HG
        have HFA := HFI
        have HSA := HSS
        have KO := Lib.hid (HCN.out x p (o' + k * 7) inner wr _ m ls (Nat.lt_of_lt_of_le hp HG.out.size) (ExAt.grown HG.out HBad.out d p _ x hp (hat k x hx)) (HS.out.2.2.1.2 x (List.mem_of_getElem? hx)) HFI.out HSM.out HSS.out)
        have HTK := Lib.hid (fun y => take_or hx (fun x => Fre d x inner y))
        have HTN := Lib.hid (fun m' (hm' : m' ≤ ls.length + sizeK d x) => sum_le_next (sizeK d) hx hm' HT.out)
        clear hat hx
        go_wp2_with (go_at_call 38; refine KO.out.mono ?_; rintro r1 w1 ⟨rfl, hg1, l1, hs1, hm1, hl1⟩; have L1 := Lib.hid hl1; have G1 := Lib.hid (grown_transE HGA.out hg1); have F1 := Lib.hid (FrAt.grown hg1 (Bad.st HSA.out) _ _ HFA.out); have S1 := Lib.hid hs1; have M1 := Lib.hid hm1; clear hg1 hs1 hm1 hl1)
        go_roundw
        case measure => simp [intOf]; omega
        case rel => exact ⟨k + 1, _, by go_num, by omega, S1, Lib.hid (fun y => by rw [M1.out y, HMM.out y, HTK.out y, or_assoc]), F1, G1, Lib.hid (HTN.out _ L1.out)⟩
      · have hlt2 : decide ((k : Int) < (N5 : Int)) = false := by simp; omega
        have hlt3 : decide (k < N5) = false := by simp; omega
        obtain rfl : N5 = k := by omega
        have HM0 := Lib.hid (show ∀ y, y ∈ ls ↔ (P0 y ∨ (∃ x ∈ e.args, Fre d x inner y)) from fun y => by rw [HMM.out y, take_whole HN5.out])
        have HT1 := Lib.hid (sum_le_end _ HN5.out HT.out)
        clear HT
        have HT := Lib.hid (show _ + (((e.binds.drop 0).map fun x => sizeK d x.2).sum + ((e.alts.map fun x => sizeK d x.e).sum + 0)) ≤ T from by first | (rw [List.drop_zero]; exact HT1.out) | exact HT1.out)
        clear HT1
        have HS1' := HSS
        clear HMM HSS hlt hlt2 hlt3 hk
        have cn := C4.out wr HG.out
        go_upto_region 9 with fail
        clear cc cn
        go_loopw [8, 66] (fun _ i wr => ∃ (k : Nat) (ls : List ByteArray), i = .int .i64 k ∧ k ≤ N4 ∧ Hid (SSt wr m ls) ∧ Hid (∀ y, y ∈ ls ↔ (P0 y ∨ (∃ x ∈ e.args, Fre d x inner y)) ∨ ∃ x ∈ e.binds.take k, Fre d x.2 inner y) ∧ Hid (FrAt wr (.pointer (some ⟨g, 0, none⟩)) inner) ∧ Hid (wi.grownBy wr (some m)) ∧ Hid (ls.length + (((e.binds.drop k).map (fun x => sizeK d x.2)).sum + ((e.alts.map fun x => sizeK d x.e).sum + 0)) ≤ T)) (fun _ i _ => N4 - (intOf i).toNat)
        case atStart => exact ⟨0, _, rfl, Nat.zero_le _, HS1', Lib.hid (fun y => by rw [HM0.out y]; exact ⟨.inl, fun h => h.elim id fun h => (take_none _ h).elim⟩), HFI, HG, HT⟩
        case round =>
          clear HS1' HM0 HFI HG HT
          obtain ⟨k, ls, rfl, hk, HSS, HMM, HFI, HG, HT⟩ := hrel
          have cc := C4.out wr HG.out
          by_cases hlt : k < N4
          · have hlt2 : decide ((k : Int) < (N4 : Int)) = true := by simp; omega
            have hlt3 : decide (k < N4) = true := by simp; omega
            have hi0 : (0 : Int) ≤ (k : Int) := by omega
            have hkt : k < e.binds.length := by rw [HN4.out]; exact hlt
            obtain ⟨x, hx⟩ : ∃ x, e.binds[k]? = some x := ⟨_, List.getElem?_eq_getElem hkt⟩
            obtain ⟨p, o', hq, hp, hex⟩ := H2.out k x hx
            subst hq
            have HGA := HG
            have HFA := HFI
            have HSA := HSS
            have KO := Lib.hid (HCN.out x.2 p (o' + k * 8 + 1) inner wr _ m ls (Nat.lt_of_lt_of_le hp HG.out.size) (ExAt.grown HG.out HBad.out d p _ x.2 hp hex) (HS.out.2.1.2 x (List.mem_of_getElem? hx)) HFI.out HSM.out HSS.out)
            have HTK := Lib.hid (fun y => take_or hx (fun x => Fre d x.2 inner y))
            have HTN := Lib.hid (fun m' (hm' : m' ≤ ls.length + sizeK d x.2) => sum_le_next (fun x => sizeK d x.2) hx hm' HT.out)
            clear hex hx
            go_wp2_with (go_at_call 38; refine KO.out.mono ?_; rintro r1 w1 ⟨rfl, hg1, l1, hs1, hm1, hl1⟩; have L1 := Lib.hid hl1; have G1 := Lib.hid (grown_transE HGA.out hg1); have F1 := Lib.hid (FrAt.grown hg1 (Bad.st HSA.out) _ _ HFA.out); have S1 := Lib.hid hs1; have M1 := Lib.hid hm1; clear hg1 hs1 hm1 hl1)
            go_roundw
            case measure => simp [intOf]; omega
            case rel => exact ⟨k + 1, _, by go_num, by omega, S1, Lib.hid (fun y => by rw [M1.out y, HMM.out y, HTK.out y, or_assoc]), F1, G1, Lib.hid (HTN.out _ L1.out)⟩
          · have hlt2 : decide ((k : Int) < (N4 : Int)) = false := by simp; omega
            have hlt3 : decide (k < N4) = false := by simp; omega
            obtain rfl : N4 = k := by omega
            have HM0 := Lib.hid (show ∀ y, y ∈ ls ↔ ((P0 y ∨ (∃ x ∈ e.args, Fre d x inner y)) ∨ (∃ x ∈ e.binds, Fre d x.2 inner y)) from fun y => by rw [HMM.out y, take_whole HN4.out])
            have HT1 := Lib.hid (sum_le_end _ HN4.out HT.out)
            clear HT
            have HT := Lib.hid (show _ + (((e.alts.drop 0).map fun x => sizeK d x.e).sum + 0) ≤ T from by first | (rw [List.drop_zero]; exact HT1.out) | exact HT1.out)
            clear HT1
            have HS1' := HSS
            clear HMM HSS hlt hlt2 hlt3 hk
            have cn := C6.out wr HG.out
            go_upto_region 14 with fail
            clear cc cn
            go_loopw [9, 85] (fun _ i wr => ∃ (k : Nat) (ls : List ByteArray), i = .int .i64 k ∧ k ≤ N6 ∧ Hid (SSt wr m ls) ∧ Hid (∀ y, y ∈ ls ↔ ((P0 y ∨ (∃ x ∈ e.args, Fre d x inner y)) ∨ (∃ x ∈ e.binds, Fre d x.2 inner y)) ∨ ∃ x ∈ e.alts.take k, Fre d x.e (x.vars :: inner) y) ∧ Hid (FrAt wr (.pointer (some ⟨g, 0, none⟩)) inner) ∧ Hid (wi.grownBy wr (some m)) ∧ Hid (ls.length + (((e.alts.drop k).map (fun x => sizeK d x.e)).sum + 0) ≤ T)) (fun _ i _ => N6 - (intOf i).toNat)
            case atStart => exact ⟨0, _, rfl, Nat.zero_le _, HS1', Lib.hid (fun y => by rw [HM0.out y]; exact ⟨.inl, fun h => h.elim id fun h => (take_none _ h).elim⟩), HFI, HG, HT⟩
            case round =>
              clear HS1' HM0 HFI HG HT
              obtain ⟨k, ls, rfl, hk, HSS, HMM, HFI, HG, HT⟩ := hrel
              have cc := C6.out wr HG.out
              by_cases hlt : k < N6
              · have hlt2 : decide ((k : Int) < (N6 : Int)) = true := by simp; omega
                have hlt3 : decide (k < N6) = true := by simp; omega
                have hi0 : (0 : Int) ≤ (k : Int) := by omega
                have hkt : k < e.alts.length := by rw [HN6.out]; exact hlt
                obtain ⟨x, hx⟩ : ∃ x, e.alts[k]? = some x := ⟨_, List.getElem?_eq_getElem hkt⟩
                obtain ⟨p, o', hq, hp, hat⟩ := H4.out (by omega)
                subst hq
                obtain ⟨vs, hcs, htx, hex⟩ := hat k x hx
                obtain ⟨aw, cw, rfl, -⟩ := id htx
                have hpm : p ≠ m := fun e => (HBad.out (o' + k * 11 + 1)).1 x.name (e ▸ hcs 1 _ rfl)
                have HC6 := Lib.hid (fun W (hW : wi.grownBy W (some m)) => (⟨C6.out W hW, cell_grown hW (hcs 3 _ rfl) hpm hp⟩ : W.cell? ⟨b, o + 6, none⟩ = some (.slice (some ⟨p, o', none⟩) N6 r6) ∧ W.cell? ⟨p, o' + k * 11 + 3, none⟩ = some (.slice aw x.vars.length cw)))
                have hwd := grown_transE HG.out (grown_drew wr (some m))
                have hwa := grown_allocE hwd (.cells #[.slice aw x.vars.length cw, .pointer (some ⟨g, 0, none⟩)] 70)
                have HGA := Lib.hid hwa
                have HSA := Lib.hid ((HSS.out.below ((Below.refl _ wr).drew)).alloc (.cells #[.slice aw x.vars.length cw, .pointer (some ⟨g, 0, none⟩)] 70))
                have hfp := FrAt.push (W := wr.drew) (htx.grown hwd HBad.out) (FrAt.below ((Below.refl _ wr).drew) inner _ HFI.out) 70
                have HFA := Lib.hid (FrAt.below (((Below.refl _ wr).drew).alloc (Nat.le_refl _) (.cells #[.slice aw x.vars.length cw, .pointer (some ⟨g, 0, none⟩)] 70)) inner _ HFI.out)
                have KO := Lib.hid (HCN.out x.e p (o' + k * 11 + 4) (x.vars :: inner) _ _ m ls (Nat.lt_of_lt_of_le hp hwa.size) (ExAt.grown hwa HBad.out d p _ x.e hp hex) (HS.out.2.2.2.2 x (List.mem_of_getElem? hx)).2 hfp (FrSm.cons (HS.out.2.2.2.2 x (List.mem_of_getElem? hx)).1 HSM.out) HSA.out)
                have HTK := Lib.hid (fun y => take_or hx (fun x => Fre d x.e (x.vars :: inner) y))
                have HTN := Lib.hid (fun m' (hm' : m' ≤ ls.length + sizeK d x.e) => sum_le_next (fun x => sizeK d x.e) hx hm' HT.out)
                obtain ⟨FX, hFX⟩ : ∃ F, F = Fre d x.e (x.vars :: inner) := ⟨_, rfl⟩
                rw [← hFX] at KO
                have HFX := Lib.hid hFX
                have hS0 := HC6.out _ hwd
                have hS1 := HC6.out _ hwa
                have HC6' := HC6
                clear hcs htx hex hx hpm hwd hwa hfp hFX HC6 cc
                generalize x.vars.length = nv at *
                go_upto_region 16 with fail
                go_wp2_with (fail)
                go_region_held3 (fun wx => wx.cell? ⟨b, o + 6, none⟩ = some (.slice (some ⟨p, o', none⟩) N6 r6) ∧ wx.cell? ⟨p, o' + k * 11 + 3, none⟩ = some (.slice aw nv cw)) (assumption) ((go_at_call 38; refine KO.out.mono ?_; rintro r1 w1 ⟨rfl, hg1, l1, hs1, hm1, hl1⟩; have L1 := Lib.hid hl1; have G1 := Lib.hid (grown_transE HGA.out hg1); have F1 := Lib.hid (FrAt.grown hg1 (Bad.st HSA.out) _ _ HFA.out); have S1 := Lib.hid hs1; have M1 := Lib.hid hm1; clear hg1 hs1 hm1 hl1; have hS2 := HC6'.out w1 G1.out))
                all_goals
                  go_wp2
                  go_roundw
                  case measure => simp [intOf]; omega
                  case rel => exact ⟨k + 1, _, by go_num, by omega, S1, Lib.hid (fun y => by rw [M1.out y, HMM.out y, HTK.out y, HFX.out, or_assoc]), F1, G1, Lib.hid (HTN.out _ L1.out)⟩
              · have hlt2 : decide ((k : Int) < (N6 : Int)) = false := by simp; omega
                have hlt3 : decide (k < N6) = false := by simp; omega
                obtain rfl : N6 = k := by omega
                have HM0 := Lib.hid (show ∀ y, y ∈ ls ↔ (((P0 y ∨ (∃ x ∈ e.args, Fre d x inner y)) ∨ (∃ x ∈ e.binds, Fre d x.2 inner y)) ∨ ∃ x ∈ e.alts, Fre d x.e (x.vars :: inner) y) from fun y => by rw [HMM.out y, take_whole HN6.out])
                have HT1 := Lib.hid (sum_le_end _ HN6.out HT.out)
                clear HT
                have HT := Lib.hid (show _ + 0 ≤ T from by first | (rw [List.drop_zero]; exact HT1.out) | exact HT1.out)
                clear HT1
                have HS1' := HSS
                clear HMM HSS hlt hlt2 hlt3 hk
                go_wp2
                go_end0
                exact FrePost.mk rfl HG.out HS1'.out (fun y => by rw [HM0.out y]; exact HEND.out y) (by rw [HTT.out]; exact Nat.le_trans (Nat.le_add_right _ _) HT.out)
theorem free_any : ∀ (d : Nat) (x : Ex d) (b o : Nat) (fs : List (List ByteArray)) (W : World) (v : Value) (m : Nat) (l : List ByteArray), b < W.heap.size → ExAt W d b o x → Sm d x → FrAt W v fs → FrSm fs → SSt W m l →
      Calls Try.prog 38 #[.pointer (some ⟨b, o, none⟩), v, .map (some m)] W fun r W' => FrePost W m l (Fre d x fs) (sizeK d x) r W'
  | 0, x, _, _, _, _, _, _, _, _, _, _, _, _, _ => nomatch (x : Empty)
  | d + 1, x, b, o, fs, W, v, m, l, hb, h, hs, hf, hn, hm => free_step d (free_any d) x b o fs W v m l hb h hs hf hn hm
end Go.Proofs.Ytkcgchpflppmnaa

namespace Go.Proofs.Ytkcgchpflppmnaa
open Go.RowKit Go.Shelf Go.ChangeMaps
set_option linter.unusedSimpArgs false
set_option linter.unusedVariables false

theorem enc_str (s : ByteArray) : encStr s.data.toList = .string s := by
  cases s with | mk a => rfl
theorem sortS_any (v : Value) (l : List ByteArray) (w0 w : World) (hw : Below w0.heap.size w0 w) (h : SOwn w w0.heap.size v l) (h2 : l.length ≤ 1000000) :
    Calls Try.prog 39 #[v] w fun e w' => e = .returned (.tuple #[]) ∧ (∃ l', Txs w' v l' ∧ (∀ y, y ∈ l' ↔ y ∈ l) ∧ l'.length = l.length) ∧ Below w0.heap.size w0 w' := by
  have h0 := h
  have hsh := own_shape h
  rcases h.2 with ⟨_, hz⟩ | ⟨g, cap, cur, rfl, hg, hb, hcap, _⟩
  · have hl : l = [] := List.length_eq_zero_iff.1 hz
    subst hl
    obtain ⟨a, c, rfl⟩ := hsh
    refine (Try.slices_Sort_string_none a c w).mono ?_
    rintro e w' ⟨rfl, rfl⟩
    exact ⟨rfl, ⟨[], ⟨a, c, rfl, fun h => by simp at h⟩, fun y => Iff.rfl, rfl⟩, hw⟩
  have hgl : g < w.heap.size := (Array.getElem?_eq_some_iff.1 hb).1
  obtain ⟨ss, hss⟩ : ∃ ss, ss = l.map fun s => s.data.toList := ⟨_, rfl⟩
  have hsl : ss.length = l.length := by rw [hss, List.length_map]
  have hH : Go.Sort.Holds encStr w g 0 ss.toArray := fun j hj => by
    have hjl : j < ss.length := by simpa using hj
    have hjl2 : j < l.length := by omega
    have hc := h0.cells (g := g) rfl j (.string l[j]) (by unfold strV; rw [List.getElem?_map, List.getElem?_eq_getElem hjl2]; rfl)
    have hd : ss.toArray[j]! = l[j].data.toList := by rw [getElem!_pos ss.toArray j hj]; subst hss; simp
    rw [hd, enc_str]
    refine ⟨?_, by simp [World.frozen?, hb]⟩
    rw [Nat.zero_add]
    cases j with
    | zero => simpa [Addr.add] using hc
    | succ j => simpa [Addr.add] using hc
  rw [← hsl]
  refine (Try.slices_Sort_string g 0 cap ss w hH hgl (by omega)).mono ?_
  rintro e w' ⟨rfl, n, os, rfl⟩
  obtain ⟨S, hS⟩ : ∃ S, ss.mergeSort (fun x y => decide (x ≤ y)) = S := ⟨_, rfl⟩
  have hSl : S.length = ss.length := by rw [← hS]; exact List.length_mergeSort _
  have hSm : ∀ y, y ∈ S ↔ y ∈ ss := fun y => by rw [← hS]; exact (List.mergeSort_perm ss _).mem_iff
  rw [hS]
  have hH' : Go.Sort.Holds encStr (Go.Sort.ahead w n) g 0 ss.toArray := hH
  have hP := Go.Sort.holds_grow encStr (Go.Sort.putRow encStr (Go.Sort.ahead w n) g 0 S.toArray) os g 0 S.toArray (by rw [Go.Sort.size_putRow]; exact hgl) (Go.Sort.holds_putRow encStr (Go.Sort.ahead w n) g 0 ss.toArray S.toArray hH' (by simp [hSl]))
  refine ⟨rfl, ⟨S.map fun x => ⟨x.toArray⟩, ⟨some ⟨g, 0, none⟩, cap, by rw [List.length_map, hSl], fun _ => ⟨g, 0, rfl, ?_, fun k x hx => ?_⟩⟩, fun y => ?_, by rw [List.length_map, hSl]⟩, ?_⟩
  · rw [Go.Sort.size_grow, Go.Sort.size_putRow]; exact Nat.lt_of_lt_of_le hgl (Nat.le_add_right _ _)
  · rw [List.getElem?_map] at hx
    obtain ⟨z, hz, rfl⟩ := Option.map_eq_some_iff.1 hx
    obtain ⟨hk, hz⟩ := List.getElem?_eq_some_iff.1 hz
    have := (hP k (by simpa using hk)).1
    rw [Nat.mul_one, this]
    have hd : S.toArray[k]! = S[k] := by rw [getElem!_pos S.toArray k (by simpa using hk)]; rfl
    rw [hd, hz]
  · rw [List.mem_map]
    constructor
    · rintro ⟨z, hz, rfl⟩
      rw [hSm, hss] at hz
      obtain ⟨s, hs, rfl⟩ := List.mem_map.1 hz
      cases s with | mk a => simpa using hs
    · intro hy
      refine ⟨y.data.toList, ?_, by cases y with | mk a => simp⟩
      rw [hSm, hss]
      exact List.mem_map.2 ⟨y, hy, rfl⟩
  · refine hw.trans ⟨rfl, rfl, rfl, ?_, fun k hk => ?_⟩
    · rw [Go.Sort.size_grow, Go.Sort.size_putRow]; exact Nat.le_add_right _ _
    · rw [Go.Sort.heap_grow_old _ _ (by rw [Go.Sort.size_putRow]; show k < w.heap.size; omega)]
      show (w.heap.modify g _)[k]? = _
      rw [Array.getElem?_modify, if_neg (by omega)]

theorem below_setBlock {B r : Nat} {w wx : World} (h : Below B w wx) (hr : B ≤ r) (o : Obj) : Below B w (setBlock wx r o) :=
  ⟨h.os, h.tape, h.output, by simpa [setBlock] using h.size, fun k hk => by
    have : (setBlock wx r o).heap[k]? = wx.heap[k]? := by
      show (wx.heap.setIfInBounds r o)[k]? = _
      exact Array.getElem?_setIfInBounds_ne (by omega)
    rw [this]
    exact h.block k hk⟩
theorem setBlock_at {w : World} {r : Nat} {o : Obj} (hr : r < w.heap.size) : (setBlock w r o).heap[r]? = some o := by
  show (w.heap.setIfInBounds r o)[r]? = _
  exact Array.getElem?_setIfInBounds_self_of_lt hr
theorem iterSeen_of {w : World} {r : Nat} {a : Option Nat} {b : Nat} {s : Array Nat} {c : Nat} (h : w.heap[r]? = some (.mapIter a b s c)) : w.iterSeen r = s := by
  unfold World.iterSeen
  rw [h]
theorem grown_setBlock (w : World) (r : Nat) (o : Obj) : w.grownBy (setBlock w r o) (some r) :=
  ⟨rfl, rfl, rfl, by simp [setBlock], fun k hk hne => by
    show (w.heap.setIfInBounds r o)[k]? = _
    exact Array.getElem?_setIfInBounds_ne (fun e => hne (by rw [e]))⟩
/-- The list that is gathered while the set is ranged over. -/
def Gath (ms : Array MapEntry) (l o : List ByteArray) (seen : Array Nat) : Prop :=
  (∀ y ∈ o, y ∈ l) ∧ (∀ e ∈ ms.toList, seen.contains e.born = true → ∃ s ∈ o, e.key = .string s) ∧ o.length + (leftOf ms seen).size ≤ ms.size
theorem Gath.start (ms : Array MapEntry) (l : List ByteArray) : Gath ms l [] #[] := by
  refine ⟨fun y h => by simp at h, fun e _ h => by simp at h, ?_⟩
  unfold leftOf
  rw [List.length_nil, Nat.zero_add]
  exact Array.size_filter_le
theorem Gath.next {ms : Array MapEntry} {l o : List ByteArray} {seen : Array Nat} (h : Gath ms l o seen) {e : MapEntry} (he : e ∈ (leftOf ms seen).toList) {s : ByteArray} (hk : e.key = .string s) (hs : s ∈ l) (hn : (ms.toList.map (·.born)).Nodup) : Gath ms l (o ++ [s]) (seen.push e.born) := by
  obtain ⟨h1, h2, h3⟩ := h
  refine ⟨fun y hy => ?_, fun e' he' hb => ?_, ?_⟩
  · rcases List.mem_append.1 hy with hy | hy
    · exact h1 y hy
    · simp at hy; rw [hy]; exact hs
  · rw [Array.contains_push, Bool.or_eq_true] at hb
    rcases hb with hb | hb
    · obtain ⟨t, ht, hke⟩ := h2 e' he' hb
      exact ⟨t, by simp [ht], hke⟩
    · have heb : e'.born = e.born := by simpa using hb
      have hem := (mem_left he).1
      have a := find_born e' ms.toList hn he'
      have b := find_born e ms.toList hn hem
      rw [heb] at a
      exact ⟨s, by simp, by rw [Option.some.inj (a.symm.trans b)]; exact hk⟩
  · have := left_shrinks ms seen e he
    simp only [List.length_append, List.length_singleton]
    omega
theorem Gath.done {ms : Array MapEntry} {l o : List ByteArray} {seen : Array Nat} (h : Gath ms l o seen) (h0 : (leftOf ms seen).size = 0) (hk : ms.toList.map (fun e => (e.key, e.val)) = setE l) : ∀ y, y ∈ o ↔ y ∈ l := fun y => by
  refine ⟨h.1 y, fun hy => ?_⟩
  have hm : (Value.string y, Value.bool true) ∈ ms.toList.map (fun e => (e.key, e.val)) := by rw [hk]; exact List.mem_map.2 ⟨y, hy, rfl⟩
  obtain ⟨e, he, hee⟩ := List.mem_map.1 hm
  have hc : seen.contains e.born = true := by
    have : leftOf ms seen = #[] := Array.size_eq_zero_iff.1 h0
    by_cases hx : seen.contains e.born = true
    · exact hx
    · exfalso
      have : e ∈ leftOf ms seen := by unfold leftOf; simp at hx he ⊢; exact ⟨he, hx⟩
      rw [‹leftOf ms seen = #[]›] at this
      simp at this
  obtain ⟨s, hs, hks⟩ := h.2.1 e he hc
  have : e.key = .string y := (Prod.mk.inj hee).1
  rw [this] at hks
  cases hks
  exact hs
theorem set_len {ms : Array MapEntry} {l : List ByteArray} (hk : ms.toList.map (fun e => (e.key, e.val)) = setE l) : ms.size = l.length := by
  have := congrArg List.length hk
  unfold setE at this
  simpa using this
def FreeP (w : World) (P : ByteArray → Prop) (r : Ending) (w' : World) : Prop := ∃ v' o, r = .returned v' ∧ Txs w' v' o ∧ o.length ≤ 4096 ∧ (∀ y, y ∈ o ↔ P y) ∧ Below w.heap.size w w'
set_option maxRecDepth 100000 in
set_option maxHeartbeats 8000000 in
theorem Free_step (d : Nat) (v : Value) (e : ExN (Ex d)) (w : World) (h : ExIs w (d + 1) v e) (hs : Sm (d + 1) e) (hz : sizeK (d + 1) e ≤ 4096) :
    Calls Try.prog 22 #[v] w fun r w' => FreeP w (fun y => 0 < cN y (d + 1) e) r w' := by
  obtain ⟨PP, hPP⟩ : ∃ P : ByteArray → Prop, (fun y => 0 < cN y (d + 1) e) = P := ⟨_, rfl⟩
  rw [hPP]
  have HPP := Lib.hid hPP.symm
  clear hPP
  obtain ⟨l0, rfl, hp⟩ := h
  obtain ⟨pa, pb, pc, pd, pa2, pb2, pc2, pd2, rfl⟩ := parts_form hp
  have hx0 : ExIs w (d + 1) (.agg #[.int .i64 e.kind, .string e.name, .int .i64 e.num, .slice pa e.params.length pa2, .slice pb e.binds.length pb2, .slice pc e.args.length pc2, .slice pd e.alts.length pd2]) e := ⟨_, rfl, hp⟩
  have hbx : ExAt (w.alloc (.cells #[.int .i64 e.kind, .string e.name, .int .i64 e.num, .slice pa e.params.length pa2, .slice pb e.binds.length pb2, .slice pc e.args.length pc2, .slice pd e.alts.length pd2] 29)) (d + 1) w.heap.size 0 e := ExIs.boxed (t := 29) (d := d + 1) (W := w) (x := e) ⟨_, rfl, hp⟩
  have R0 := Blk.new w #[.int .i64 e.kind, .string e.name, .int .i64 e.num, .slice pa e.params.length pa2, .slice pb e.binds.length pb2, .slice pc e.args.length pc2, .slice pd e.alts.length pd2] 29
  have hB0 : Below w.heap.size w (w.alloc (.cells #[.int .i64 e.kind, .string e.name, .int .i64 e.num, .slice pa e.params.length pa2, .slice pb e.binds.length pb2, .slice pc e.args.length pc2, .slice pd e.alts.length pd2] 29)) := (Below.refl _ w).alloc (Nat.le_refl _) _
  have HX0 := Lib.hid hx0
  have HBX := Lib.hid hbx
  have HS := Lib.hid hs
  unfold exV
  clear hp hx0 hbx hs
  generalize e.kind = kd at R0 hB0 HX0 HBX ⊢
  generalize e.name = nm at R0 hB0 HX0 HBX ⊢
  generalize e.num = nu at R0 hB0 HX0 HBX ⊢
  generalize e.params.length = n3 at R0 hB0 HX0 HBX ⊢
  generalize e.binds.length = n4 at R0 hB0 HX0 HBX ⊢
  generalize e.args.length = n5 at R0 hB0 HX0 HBX ⊢
  generalize e.alts.length = n6 at R0 hB0 HX0 HBX ⊢
  go_enter Try.func22, Try.ntmps22
  go_upto_region 1 with fail
  generalize w.alloc (.cells #[.int .i64 kd, .string nm, .int .i64 nu, .slice pa n3 pa2, .slice pb n4 pb2, .slice pc n5 pc2, .slice pd n6 pd2] 29) = W0 at R0 hB0 HBX ⊢
  have HB0 := Lib.hid hB0
  have HR0 := Lib.hid R0
  generalize hbq : w.heap.size = b at R0 HBX HR0 ⊢
  have x0 : W0.cell? ⟨b, 0, none⟩ = _ := R0.cell 0
  have x1 : W0.cell? ⟨b, 1, none⟩ = _ := R0.cell 1
  have x2 : W0.cell? ⟨b, 2, none⟩ = _ := R0.cell 2
  have x3 : W0.cell? ⟨b, 3, none⟩ = _ := R0.cell 3
  have x4 : W0.cell? ⟨b, 4, none⟩ = _ := R0.cell 4
  have x5 : W0.cell? ⟨b, 5, none⟩ = _ := R0.cell 5
  have x6 : W0.cell? ⟨b, 6, none⟩ = _ := R0.cell 6
  simp only [List.getElem?_toArray, List.getElem?_cons_zero, List.getElem?_cons_succ] at x0 x1 x2 x3 x4 x5 x6
  have hb := R0.lt
  clear R0 hB0
  have s0 := HB0.out.size
  have KF := Lib.hid (fits_any (d + 1) e _ W0 (ExIs.below HB0.out (d + 1) _ e HX0.out) HS.out hz)
  have hmm : ∀ W, (Instr.makeMap 76 none).run Try.prog W = .ok (.map (some W.heap.size)) (W.alloc (.map #[] 0)) := fun W => by simp [Instr.makeMap]
  have hbw : w.heap.size ≤ b := Nat.le_of_eq hbq
  go_upto_region 3 with (go_at_call 34; refine KF.out.mono ?_; rintro r1 w1 ⟨rfl, b1⟩; have HB1 := Lib.hid (HB0.out.trans (b1.mono s0)); have hb1 := Nat.lt_of_lt_of_le hb b1.size; have HX1 := Lib.hid (ExAt.below b1 (d + 1) b 0 e hb HBX.out); clear b1)
  clear x0 x1 x2 x3 x4 x5 x6 KF
  go_upto_region 4 with fail
  clear hmm
  have hS2 := SSt.new w1
  have hB2 : Below w.heap.size w (w1.alloc (.map #[] 0)) := HB1.out.alloc HB1.out.size _
  have hX2 := ExAt.below ((Below.refl _ w1).alloc (Nat.le_refl _) (.map #[] 0)) (d + 1) b 0 e hb1 HX1.out
  have hb2 : b < (w1.alloc (.map #[] 0)).heap.size := by simp; omega
  have hmw := HB1.out.size
  generalize w1.alloc (.map #[] 0) = W2 at hS2 hB2 hX2 hb2 ⊢
  generalize w1.heap.size = m at hS2 hmw ⊢
  have KR := Lib.hid (free_any (d + 1) e b 0 [] W2 (.pointer none) m [] hb2 hX2 HS.out rfl (fun x hx => by cases hx) hS2)
  have HB2 := Lib.hid hB2
  have Hmw := Lib.hid hmw
  clear hS2 hX2 HX1 HB1 hb1 hb2 hB2
  go_upto_region 6 with (go_at_call 38; refine KR.out.mono ?_; rintro r3 wq ⟨rfl, hg, l, hs, hm, hl⟩; have HQ := Lib.hid (below_gnew HB2.out hg Hmw.out); have HSQ := Lib.hid hs; have HMQ := Lib.hid hm; have HLQ := Lib.hid hl; clear hg hs hm hl)
  clear KR HB2
  obtain ⟨ms, ck, hms, hkeys, hst⟩ := HSQ.out
  have hrange := run_range_map (P := Try.prog) wq 76 9 4 m ms ck Try.underlying76 hms
  have hmslt := (Array.getElem?_eq_some_iff.1 hms).1
  have hstamp := Lib.hid ((MapKept.stamped_iff _ _).1 hst)
  have HMS := Lib.hid hms
  have HK := Lib.hid hkeys
  have hsz : ms.size ≤ 4096 := by have h1 := set_len hkeys; have h2 := HLQ.out; simp at h2; omega
  have Hsz := Lib.hid hsz
  obtain ⟨i0, hi, hz0, hz1, hz2⟩ := info_parts infoS
  obtain ⟨rr, hrr⟩ : ∃ rr, wq.heap.size = rr := ⟨_, rfl⟩
  have Hrr := Lib.hid hrr
  have R1 := Lib.hid (show (wq.alloc (.mapIter (some m) ck #[] ck)).heap[rr]? = some (.mapIter (some m) ck #[] ck) by rw [← hrr]; exact heap_alloc_new wq _)
  have B1 := Lib.hid (show Below w.heap.size w (wq.alloc (.mapIter (some m) ck #[] ck)) from HQ.out.alloc HQ.out.size _)
  have M1 := Lib.hid (show (wq.alloc (.mapIter (some m) ck #[] ck)).heap[m]? = some (.map ms ck) from (Below.heap_alloc _ _ _ hmslt).trans hms)
  have hmr : m < rr := by omega
  have hwr : w.heap.size ≤ rr := by rw [← hrr]; exact HQ.out.size
  have Hmr := Lib.hid (And.intro hmr hwr)
  rw [hrr] at hrange
  clear hms hkeys hst hsz hmslt HSQ hrr HMS hmr hwr
  go_upto_block 0 with fail
  clear hrange
  generalize wq.alloc (.mapIter (some m) ck #[] ck) = wr0 at R1 B1 M1 ⊢
  go_wp2
  go_loopw [4] (fun v wx => ∃ (o : List ByteArray) (seen : Array Nat), Hid (wx.heap[rr]? = some (.mapIter (some m) ck seen ck)) ∧ Hid (wx.heap[m]? = some (.map ms ck)) ∧ Hid (SOwn wx (rr + 1) v o) ∧ Hid (Below w.heap.size w wx) ∧ Hid (Gath ms l o seen)) (fun _ wx => (leftOf ms (wx.iterSeen rr)).size)
  case atStart => exact ⟨[], #[], R1, M1, Lib.hid (World.ownsRow_nil _ _ _ _), B1, Lib.hid (Gath.start ms l)⟩
  case round =>
    clear R1 M1 B1
    obtain ⟨o, seen, HIT, HMP, HO, HB, HG⟩ := hrel
    obtain ⟨va, vc, rfl⟩ := own_shape HO.out
    rcases run_next_at (P := Try.prog) wr 0 rr m ck ck seen ms ck HIT.out HMP.out hstamp.out.1 (Nat.le_refl _) with ⟨h0, hn⟩ | ⟨e', he, w1, hw1, hn⟩
    · have KS := sortS_any _ o w wr HB.out (own_low HO.out (by have := Hmr.out; omega)) (by have := HG.out.2.2; have := Hsz.out; omega)
      have HD := Lib.hid (HG.out.done h0 HK.out)
      have HLo := Lib.hid (show o.length ≤ 4096 by have := HG.out.2.2; have := Hsz.out; omega)
      go_wp2_with (go_at_call 39; refine KS.mono ?_; rintro r4 w4 ⟨rfl, ⟨l', t4, m4, n4⟩, b4⟩; have T4 := Lib.hid t4; have M4 := Lib.hid m4; have N4 := Lib.hid n4; have B4 := Lib.hid b4; clear t4 m4 n4 b4)
      go_ret
      refine ⟨_, l', rfl, T4.out, by rw [N4.out]; exact HLo.out, fun y => ?_, B4.out⟩
      rw [M4.out y, HD.out y, HMQ.out y, HPP.out]
      unfold Fre
      simp
    · have heM := (mem_left he).1
      obtain ⟨s, hs, hks, hvs⟩ := set_mem HK.out heM
      have hshr := Lib.hid (left_shrinks ms seen e' he)
      have hseen := Lib.hid (iterSeen_of HIT.out)
      have hrlt0 := (Array.getElem?_eq_some_iff.1 HIT.out).1
      have hg1 : wr.grownBy w1 (some rr) := by
        rcases hw1 with rfl | rfl
        · exact grown_reflE _ _
        · exact grown_drew _ _
      rw [hks, hvs] at hn
      generalize hW1 : setBlock w1 rr (.mapIter (some m) ck (seen.push e'.born) ck) = W1 at hn
      have hit1 : W1.heap[rr]? = some (.mapIter (some m) ck (seen.push e'.born) ck) := by rw [← hW1]; exact setBlock_at (Nat.lt_of_lt_of_le hrlt0 hg1.size)
      have hgW : wr.grownBy W1 (some rr) := by rw [← hW1]; exact grown_transE hg1 (grown_setBlock _ _ _)
      have hmp1 : W1.heap[m]? = some (.map ms ck) := (hgW.block m (Array.getElem?_eq_some_iff.1 HMP.out).1 (fun e => by have := Hmr.out.1; cases e; omega)).trans HMP.out
      have hen := run_entry_at (P := Try.prog) W1 rr m ck seen ms ck e' hit1 hmp1 heM hstamp.out.2.1
      rw [hks, hvs] at hen
      have hB1 : Below w.heap.size w W1 := HB.out.grown hgW HB.out.size (fun i e => by cases e; exact Hmr.out.2)
      have hO1 : SOwn W1 (rr + 1) (.slice va o.length vc) o := by
        unfold SOwn
        exact HO.out.kept hgW (.inr fun e => by have := own_from HO.out rr e; omega)
      have HG1 := Lib.hid (HG.out.next he hks hs hstamp.out.2.1)
      have HIT1 := Lib.hid hit1
      have HMP1 := Lib.hid hmp1
      have HB1 := Lib.hid hB1
      have HO1 := Lib.hid hO1
      have hln : o.length ≤ 4096 := by have := HG.out.2.2; have := Hsz.out; omega
      have HLn := Lib.hid hln
      have hss := hB1.size
      clear hit1 hmp1 hB1 hO1 hgW hg1 he heM hs hw1 hW1 hln HIT HMP HO HB HG hks hvs hrlt0
      go_upto_region 9 with fail
      clear hn hen
      go_wp2_with (at_builtin; refine wpList_append_own _ rfl _ _ 24 rfl (rr + 1) 9 i0 (.string ⟨#[]⟩) 1 16 Try.underlying24 hi hz0 hz1 hz2 rfl (by decide) _ o.length (strV o) rfl (HO1.out.alloc _) ⟨W1.heap.size, 0, none⟩ 1 1 [.string s] rfl rfl ?news (by intro u hu; simp at hu; subst hu; rfl) (by have := HLn.out; unfold maxLen; omega) (by have := HLn.out; omega) (by simp; have := (Array.getElem?_eq_some_iff.1 HIT1.out).1; omega) ?_)
      case news =>
        intro j u hj
        have := (Blk.new W1 #[.string s] 9).cell j
        rw [show (⟨W1.heap.size, 0, none⟩ : Addr).add j = ⟨W1.heap.size, j, none⟩ from by unfold Addr.add; split <;> simp_all]
        rw [this]
        simpa using hj
      intro v' w6 o6 g6 n6
      have hrl := (Array.getElem?_eq_some_iff.1 HIT1.out).1
      have hml := (Array.getElem?_eq_some_iff.1 HMP1.out).1
      have hne := fun k hk => fun (e : some k = _) => (show ¬ (rr + 1 ≤ k) from hk) (own_from HO1.out k e.symm)
      have HIT6 := Lib.hid ((g6.block rr (by simp; omega) (hne rr (by omega))).trans ((Below.heap_alloc W1 _ rr hrl).trans HIT1.out))
      have HMP6 := Lib.hid ((g6.block m (by simp; omega) (hne m (by have := Hmr.out.1; omega))).trans ((Below.heap_alloc W1 _ m hml).trans HMP1.out))
      have B6 := Lib.hid (show Below w.heap.size w w6 from (HB1.out.alloc hss _).grown g6 (by simp; omega) (fun i e => by have := own_from HO1.out i e; have := Hmr.out.2; omega))
      have HO6 := Lib.hid (show SOwn w6 (rr + 1) v' (o ++ [s]) by
        unfold SOwn strV
        rw [List.length_append, List.map_append]
        exact o6)
      clear o6 g6 n6
      go_wp2
      go_roundw
      case rel => exact ⟨o ++ [s], _, HIT6, HMP6, HO6, B6, HG1⟩
      case measure =>
        rw [iterSeen_of HIT6.out, hseen.out]
        exact hshr.out
theorem Free_any : ∀ (d : Nat) (x : Ex d) (v : Value) (w : World), ExIs w d v x → Sm d x → sizeK d x ≤ 4096 → Calls Try.prog 22 #[v] w fun r w' => FreeP w (fun y => 0 < cN y d x) r w'
  | 0, x, _, _, _, _, _ => nomatch (x : Empty)
  | d + 1, x, v, w, h, hs, hz => Free_step d v x w h hs hz
end Go.Proofs.Ytkcgchpflppmnaa
