/- The two tables' keys, as the shelf's laws on maps want them. -/
import Derived.Test.YtmgfgkikeflenaaDoorPcN
noncomputable section
namespace Go.Proofs.YtmgfgkikeflenaaDoor.Nm
open Go.RowKit Go.Maps Go.Sort Go.Shelf
open Ev (AV Mem V VL MR)
set_option linter.unusedVariables false
set_option linter.unusedSimpArgs false
set_option maxRecDepth 100000

abbrev Rany : Value → Option (DataW Unit × List MemPlace) := fun _ => some (.lit (.bool true), [])
def keyB (m : MapEntry) : List UInt8 := match m.key with | .string s => s.data.toList | _ => []
theorem key_of (s : List UInt8) (h : s.length ≤ 100) : keyOf Tryd.prog 9 (.string ⟨s.toArray⟩) = some (.string s) := by
  unfold keyOf mapKey
  rw [Tryd.underlying9]
  simp only
  rw [if_pos (by show s.toArray.size ≤ maxLen; unfold maxLen; simp; omega)]
theorem owns_of {w : World} {b : Nat} {ms : Array MapEntry} {ck : Nat} {names : List (List UInt8)} (hh : w.heap[b]? = some (.map ms ck)) (hst : MapKept.Stamped ms ck) (hnd : names.Nodup)
    (hk : ∀ m ∈ ms.toList, ∃ s ∈ names, m.key = .string ⟨s.toArray⟩) (hk2 : ∀ s ∈ names, ∃ m ∈ ms.toList, m.key = .string ⟨s.toArray⟩) (hlen : ∀ s ∈ names, s.length ≤ 100) (hn : names.length ≤ 100) :
    ∃ D0 : DataW Unit, w.ownsMap Tryd.prog 9 Rany b 100 D0 ∧ (strKeys D0).Perm names ∧ Maps.size D0 = names.length := by
  have hrd : ∀ m ∈ ms.toList, Go.WideElems.rd Tryd.prog 9 Rany m = some (.string (keyB m), .lit (.bool true)) := fun m hm => by
    obtain ⟨s, hs, e⟩ := hk m hm
    unfold Go.WideElems.rd
    have : keyB m = s := by unfold keyB; rw [e]
    rw [this, e, key_of s (hlen s hs)]
    rfl
  have hperm : (ms.toList.map keyB).Perm names := by
    refine (List.perm_ext_iff_of_nodup ?_ hnd).2 fun x => ?_
    · refine List.pairwise_map.2 ((List.pairwise_map.1 hst.2.2).imp_of_mem fun {p q} hp hq hne e => hne ?_)
      obtain ⟨s, _, e1⟩ := hk p hp
      obtain ⟨t, _, e2⟩ := hk q hq
      have a1 : keyB p = s := by unfold keyB; rw [e1]
      have a2 : keyB q = t := by unfold keyB; rw [e2]
      rw [e1, e2, ← a1, ← a2, e]
    · rw [List.mem_map]
      constructor
      · rintro ⟨m, hm, rfl⟩
        obtain ⟨s, hs, e⟩ := hk m hm
        have : keyB m = s := by unfold keyB; rw [e]
        rw [this]; exact hs
      · intro hx
        obtain ⟨m, hm, e⟩ := hk2 x hx
        exact ⟨m, hm, by unfold keyB; rw [e]⟩
  have hlen2 : ms.toList.length = names.length := by rw [← hperm.length_eq, List.length_map]
  have hrg : (ms.toList.map (Go.WideElems.rg Tryd.prog 9 Rany)) = ms.toList.map fun m => (Lit.string (keyB m), (DataW.lit (.bool true) : DataW Unit)) :=
    List.map_congr_left fun m hm => by unfold Go.WideElems.rg; rw [hrd m hm]; rfl
  have hsp := Go.WideShapes.sorted_perm (ms.toList.map (Go.WideElems.rg Tryd.prog 9 Rany))
  refine ⟨_, ⟨ms, ck, hh, ⟨by show ms.toList.length ≤ _; rw [hlen2]; unfold maxLen; omega, hst, fun x hx => ⟨_, hrd x hx⟩⟩, by show ms.toList.length ≤ _; omega, rfl⟩, ?_, ?_⟩
  · refine ((hsp.map fun p => strOf p.1).trans ?_).trans hperm
    rw [hrg, List.map_map]
    exact List.Perm.refl _
  · show (List.foldr DataW.insert [] _).length = _
    rw [hsp.length_eq, List.length_map, hlen2]

/-! ## The machine's answer -/
def isN (n : List Nat) : AV → Bool
  | .str l => decide (l = n)
  | _ => false
def anyN (n : List Nat) : List AV → Bool
  | [] => false
  | a :: l => isN n a || anyN n l
def inN (a : AV) : List (List Nat) → Bool
  | [] => false
  | n :: ns => isN n a || inN a ns
def allIn (ns : List (List Nat)) : List AV → Bool
  | [] => true
  | a :: l => inN a ns && allIn ns l
def allHas (l : List AV) : List (List Nat) → Bool
  | [] => true
  | n :: ns => anyN n l && allHas l ns
def okK (ns : List (List Nat)) (l : List AV) : Bool := allIn ns l && allHas l ns
def nodupN : List Nat → Bool
  | [] => true
  | a :: l => !(l.any fun b => Nat.beq a b) && nodupN l
def nodupS : List AV → Bool
  | [] => true
  | .str a :: l => !(anyN a l) && nodupS l
  | _ :: _ => false
noncomputable def oneK (ns : List (List Nat)) : AV × Mem → Bool
  | (.map b, M) => match M.get b with
    | some (.umap es) => okK ns (es.map (·.1))
    | some (.map es ck) => okK ns (es.map (·.1)) && (nodupS (es.map (·.1)) && (nodupN (es.map (·.2.2)) && es.all fun e => Nat.blt e.2.2 ck))
    | _ => false
  | _ => false
noncomputable def allK (ns : List (List Nat)) : List (AV × Mem) → Bool
  | [] => true
  | r :: l => oneK ns r && allK ns l
noncomputable def ansK (ns : List (List Nat)) : Option (List (AV × Mem)) → Bool
  | some l => allK ns l
  | none => false
def namesA : List (List Nat) := (List.range 15).map nameN
def namesO : List (List Nat) := (List.range 9).map fun k => nameN (15 + k)
set_option maxRecDepth 1000000 in
theorem runsA : ansK namesA (Ev.calls Tryd.prog Ev.noFacts 100000 60 25 [] Mem.start) = true := by kernel_rfl
set_option maxRecDepth 1000000 in
theorem runsO : ansK namesO (Ev.calls Tryd.prog Ev.noFacts 100000 60 27 [] Mem.start) = true := by kernel_rfl

theorem isN_iff {n : List Nat} {a : AV} : isN n a = true ↔ a = .str n := by
  cases a <;> simp [isN]
theorem anyN_iff {n : List Nat} : ∀ {l : List AV}, anyN n l = true ↔ AV.str n ∈ l
  | [] => by simp [anyN]
  | a :: l => by rw [anyN, Bool.or_eq_true, isN_iff, anyN_iff, List.mem_cons]; exact ⟨fun h => h.imp Eq.symm id, fun h => h.imp Eq.symm id⟩
theorem inN_iff {a : AV} : ∀ {ns : List (List Nat)}, inN a ns = true ↔ ∃ n ∈ ns, a = .str n
  | [] => by simp [inN]
  | n :: ns => by rw [inN, Bool.or_eq_true, isN_iff, inN_iff]; simp
theorem allIn_at {ns : List (List Nat)} : ∀ {l : List AV}, allIn ns l = true → ∀ a ∈ l, ∃ n ∈ ns, a = .str n
  | [], _, a, ha => by cases ha
  | b :: l, h, a, ha => by
    rw [allIn, Bool.and_eq_true] at h
    rcases List.mem_cons.1 ha with rfl | ha
    · exact inN_iff.1 h.1
    · exact allIn_at h.2 a ha
theorem allHas_at {l : List AV} : ∀ {ns : List (List Nat)}, allHas l ns = true → ∀ n ∈ ns, AV.str n ∈ l
  | [], _, n, hn => by cases hn
  | m :: ns, h, n, hn => by
    rw [allHas, Bool.and_eq_true] at h
    rcases List.mem_cons.1 hn with rfl | hn
    · exact anyN_iff.1 h.1
    · exact allHas_at h.2 n hn
theorem nodupN_ok : ∀ {l : List Nat}, nodupN l = true → l.Nodup
  | [], _ => List.nodup_nil
  | a :: l, h => by
    rw [nodupN, Bool.and_eq_true] at h
    refine List.nodup_cons.2 ⟨fun hm => ?_, nodupN_ok h.2⟩
    have := h.1
    rw [Bool.not_eq_true', List.any_eq_false] at this
    exact this a hm (Nat.beq_refl a)
theorem allK_mem {ns : List (List Nat)} : ∀ {l : List (AV × Mem)}, allK ns l = true → ∀ r ∈ l, oneK ns r = true
  | [], _, r, hr => by cases hr
  | q :: l, h, r, hr => by
    rw [allK, Bool.and_eq_true] at h
    rcases List.mem_cons.1 hr with rfl | hr
    · exact h.1
    · exact allK_mem h.2 r hr
def byN (n : List Nat) : List UInt8 := n.map UInt8.ofNat
theorem me_keys {ν : Nat → Value} {E : Ev.Env} : ∀ {es : List (AV × AV × Nat)} {ms : List MapEntry}, Ev.ME ν E es ms → ms.map (·.born) = es.map (·.2.2) ∧ (∀ m ∈ ms, ∃ e ∈ es, V ν E e.1 m.key) ∧ (∀ e ∈ es, ∃ m ∈ ms, V ν E e.1 m.key) ∧ (nodupS (es.map (·.1)) = true → (∀ e ∈ es, ∃ n, e.1 = .str n ∧ ∀ c ∈ n, c < 256) → (ms.map (·.key)).Nodup)
  | [], ms, h => by
    simp only [Ev.ME] at h
    subst h
    exact ⟨rfl, fun m hm => (by cases hm), fun e he => (by cases he), fun _ _ => List.nodup_nil⟩
  | e :: es, ms, h => by
    simp only [Ev.ME] at h
    obtain ⟨m, ms', rfl, h1, h2, h3, h4⟩ := h
    obtain ⟨i1, i2, i3, i4⟩ := me_keys h4
    refine ⟨by rw [List.map_cons, List.map_cons, i1, h3], fun m' hm' => ?_, fun e' he' => ?_, fun hn hs => ?_⟩
    · rcases List.mem_cons.1 hm' with rfl | hm'
      · exact ⟨e, List.mem_cons_self, h1⟩
      · obtain ⟨e', h, h'⟩ := i2 m' hm'; exact ⟨e', List.mem_cons_of_mem _ h, h'⟩
    · rcases List.mem_cons.1 he' with rfl | he'
      · exact ⟨m, List.mem_cons_self, h1⟩
      · obtain ⟨m', h, h'⟩ := i3 e' he'; exact ⟨m', List.mem_cons_of_mem _ h, h'⟩
    · obtain ⟨n, hen, hlt⟩ := hs e List.mem_cons_self
      rw [List.map_cons, hen, nodupS, Bool.and_eq_true] at hn
      rw [List.map_cons]
      refine List.nodup_cons.2 ⟨fun hm => ?_, i4 hn.2 fun e' he' => hs e' (List.mem_cons_of_mem _ he')⟩
      obtain ⟨m', hm', ek⟩ := List.mem_map.1 hm
      obtain ⟨e', he', hv'⟩ := i2 m' hm'
      obtain ⟨n', hen', hlt'⟩ := hs e' (List.mem_cons_of_mem _ he')
      rw [hen] at h1
      rw [hen'] at hv'
      simp only [V] at h1 hv'
      rw [h1.1, hv'.1] at ek
      have e1 : byN n' = byN n := by
        have := congrArg (fun v => match v with | Value.string s => s.data.toList | _ => []) ek
        exact this
      have e2 : n' = n := by
        have key : ∀ l : List Nat, (∀ c ∈ l, c < 256) → (byN l).map UInt8.toNat = l := fun l hl => by
          unfold byN
          rw [List.map_map]
          conv => rhs; rw [← List.map_id l]
          exact List.map_congr_left fun c hc => by have := hl c hc; simp; omega
        rw [← key n' hlt', ← key n hlt, e1]
      have := hn.1
      rw [Bool.not_eq_true', ← Bool.not_eq_true, anyN_iff] at this
      exact this (List.mem_map.2 ⟨e', he', by rw [hen', e2]⟩)

theorem keys_made {F : FuncId} {ns : List (List Nat)} (h : ansK ns (Ev.calls Tryd.prog Ev.noFacts 100000 60 F [] Mem.start) = true) (hnd : (ns.map byN).Nodup) (hlt : ∀ n ∈ ns, ∀ c ∈ n, c < 256) (hlen : ∀ n ∈ ns, n.length ≤ 100) (hn : ns.length ≤ 100) (w : World) :
    Calls Tryd.prog F #[] w fun e w' => ∃ b, ∃ D0 : DataW Unit, e = .returned (.map (some b)) ∧ Below w.heap.size w w' ∧ w'.ownsMap Tryd.prog 9 Rany b 100 D0 ∧ (strKeys D0).Perm (ns.map byN) ∧ Maps.size D0 = ns.length := by
  cases e : Ev.calls Tryd.prog Ev.noFacts 100000 60 F [] Mem.start with
  | none => rw [e] at h; cases h
  | some l =>
    rw [e] at h
    have hall := allK_mem (show allK ns l = true from h)
    refine Calls.mono (Ev.calls_ok (ν := fun _ => undef) mix 100000 60 _ _ F [] Mem.start l e rfl (fun _ => none) #[] w (by simp only [VL]) (MR.start w)) fun e w' he => ?_
    obtain ⟨⟨v, M⟩, hr, E', x, hext, rfl, hx, hM, hx9⟩ := he
    clear hx9 hext
    have h1 := hall _ hr
    cases v <;> first | (simp only [oneK] at h1; cases h1; done) | skip
    rename_i b
    simp only [V] at hx
    obtain ⟨q, hq, rfl⟩ := hx
    simp only [oneK] at h1
    have fin : ∀ (ms : Array MapEntry) (ck : Nat), w'.heap[q.1]? = some (.map ms ck) → MapKept.Stamped ms ck → (∀ m ∈ ms.toList, ∃ n ∈ ns, m.key = .string (Ev.bytes n)) → (∀ n ∈ ns, ∃ m ∈ ms.toList, m.key = .string (Ev.bytes n)) →
        ∃ D0 : DataW Unit, w'.ownsMap Tryd.prog 9 Rany q.1 100 D0 ∧ (strKeys D0).Perm (ns.map byN) ∧ Maps.size D0 = ns.length := fun ms ck hh hst a1 a2 => by
      have := owns_of (names := ns.map byN) hh hst hnd (fun m hm => by obtain ⟨n, hn, e⟩ := a1 m hm; exact ⟨byN n, List.mem_map_of_mem hn, e⟩) (fun s hs => by
        obtain ⟨n, hn, rfl⟩ := List.mem_map.1 hs
        obtain ⟨m, hm, e⟩ := a2 n hn
        exact ⟨m, hm, e⟩) (fun s hs => by
        obtain ⟨n, hn, rfl⟩ := List.mem_map.1 hs
        have := hlen n hn
        unfold byN
        rw [List.length_map]; exact this) (by rw [List.length_map]; exact hn)
      rwa [List.length_map] at this
    split at h1
    · rename_i es hg
      obtain ⟨p, hp, ho⟩ := hM.obj b _ hg
      rw [hq] at hp
      obtain rfl := Option.some.inj hp
      obtain ⟨ms, ck, hh, hu, hst⟩ := ho
      rw [okK, Bool.and_eq_true] at h1
      obtain ⟨D0, d1, d2, d3⟩ := fin ms ck hh hst (fun m hm => by
        obtain ⟨e, he, hke, _⟩ := hu.1 m hm
        obtain ⟨n, hn, en⟩ := allIn_at h1.1 e.1 (List.mem_map_of_mem he)
        rw [en] at hke
        simp only [V] at hke
        exact ⟨n, hn, hke.1⟩) (fun n hn => by
        have := allHas_at h1.2 n hn
        obtain ⟨e, he, en⟩ := List.mem_map.1 this
        obtain ⟨m, hm, hke, _⟩ := hu.2 e he
        rw [en] at hke
        simp only [V] at hke
        exact ⟨m, hm, hke.1⟩)
      exact ⟨q.1, D0, rfl, hM.low, d1, d2, d3⟩
    · rename_i es ck hg
      obtain ⟨p, hp, ho⟩ := hM.obj b _ hg
      rw [hq] at hp
      obtain rfl := Option.some.inj hp
      obtain ⟨ms, hh, hme⟩ := ho
      simp only [Bool.and_eq_true, okK] at h1
      obtain ⟨⟨k1, k2⟩, k3, k4, k5⟩ := h1
      obtain ⟨m1, m2, m3, m4⟩ := me_keys hme
      have hes : ∀ e ∈ es, ∃ n, e.1 = .str n ∧ ∀ c ∈ n, c < 256 := fun e he => by
        obtain ⟨n, hn, en⟩ := allIn_at k1 e.1 (List.mem_map_of_mem he)
        exact ⟨n, en, hlt n hn⟩
      have hst : MapKept.Stamped ms ck := by
        refine ⟨fun x hx => ?_, ?_, m4 k3 hes⟩
        · have : x.born ∈ es.map (·.2.2) := by rw [← m1]; exact List.mem_map_of_mem hx
          obtain ⟨e, he, eb⟩ := List.mem_map.1 this
          rw [← eb]
          exact Ev.blt_iff.1 (List.all_eq_true.1 k5 e he)
        · rw [m1]; exact nodupN_ok k4
      obtain ⟨D0, d1, d2, d3⟩ := fin ms ck hh hst (fun m hm => by
        obtain ⟨e, he, hke⟩ := m2 m hm
        obtain ⟨n, hn, en⟩ := allIn_at k1 e.1 (List.mem_map_of_mem he)
        rw [en] at hke
        simp only [V] at hke
        exact ⟨n, hn, hke.1⟩) (fun n hn => by
        have := allHas_at k2 n hn
        obtain ⟨e, he, en⟩ := List.mem_map.1 this
        obtain ⟨m, hm, hke⟩ := m3 e he
        rw [en] at hke
        simp only [V] at hke
        exact ⟨m, hm, hke.1⟩)
      exact ⟨q.1, D0, rfl, hM.low, d1, d2, d3⟩
    · cases h1
end Go.Proofs.YtmgfgkikeflenaaDoor.Nm
