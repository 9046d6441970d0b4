/- Contracts of lex.Word and lex.Sign: their sets are made by closed calls (the little machine); the look-up by hand. -/
import Derived.Test.YtnidkdjapieinaaDoorLxC
import Derived.Test.YtnidkdjapieinaaDoorEvW
namespace Go.Proofs.YtnidkdjapieinaaDoor
open Go.RowKit
open Ev (AV Mem AObj V VL MR ME CFok callsT callsT_ok)

/-- A set of texts lies at block b. -/
def SetAt (w : World) (b : Nat) (ks : List (List UInt8)) : Prop :=
  ∃ ms ck, w.heap[b]? = some (.map ms ck) ∧ (∀ m ∈ ms.toList, (∃ k ∈ ks, m.key = .string ⟨k.toArray⟩) ∧ m.val = .agg #[]) ∧ ∀ k ∈ ks, ∃ m ∈ ms.toList, m.key = .string ⟨k.toArray⟩

namespace Sets
def isKeys : List (List Nat) → List (AV × AV × Nat) → Bool
  | [], [] => true
  | k :: ks, (.str l, .agg [], _) :: es => decide (k = l) && isKeys ks es
  | _, _ => false
noncomputable def oneMap (ks : List (List Nat)) : AV × Mem → Bool
  | (.map b, M) => match M.get b with
    | some (.map es _) => isKeys ks es
    | _ => false
  | _ => false
noncomputable def allMap (ks : List (List Nat)) : List (AV × Mem) → Bool
  | [] => true
  | r :: l => oneMap ks r && allMap ks l
noncomputable def ansMap (ks : List (List Nat)) : Option (List (AV × Mem)) → Bool
  | some l => allMap ks l
  | none => false
theorem allMap_mem {ks : List (List Nat)} : ∀ {l : List (AV × Mem)}, allMap ks l = true → ∀ r ∈ l, oneMap ks r = true
  | [], _, r, hr => by cases hr
  | q :: l, h, r, hr => by
    rw [allMap, Bool.and_eq_true] at h
    rcases List.mem_cons.1 hr with rfl | hr
    · exact h.1
    · exact allMap_mem h.2 r hr
theorem oneMap_inv {ks : List (List Nat)} {v : AV} {M : Mem} (h : oneMap ks (v, M) = true) : ∃ b es ck, v = .map b ∧ M.get b = some (.map es ck) ∧ isKeys ks es = true := by
  cases v <;> first | (simp only [oneMap] at h; cases h; done) | skip
  rename_i b
  simp only [oneMap] at h
  split at h
  · rename_i es ck e
    exact ⟨b, es, ck, rfl, e, h⟩
  · cases h
theorem bytes_of (k : List Nat) : Ev.bytes k = ⟨(k.map UInt8.ofNat).toArray⟩ := rfl
theorem keys_of {ν : Nat → Value} {E : Ev.Env} : ∀ {ks : List (List Nat)} {es : List (AV × AV × Nat)} {ms : List MapEntry}, isKeys ks es = true → ME ν E es ms →
    (∀ m ∈ ms, (∃ k ∈ ks, m.key = .string ⟨(k.map UInt8.ofNat).toArray⟩) ∧ m.val = .agg #[]) ∧ ∀ k ∈ ks, ∃ m ∈ ms, m.key = .string ⟨(k.map UInt8.ofNat).toArray⟩
  | [], [], ms, _, hm => by
    simp only [ME] at hm
    subst hm
    exact ⟨fun m hm => (by cases hm), fun k hk => (by cases hk)⟩
  | [], _ :: _, ms, h, _ => by simp [isKeys] at h
  | _ :: _, [], ms, h, _ => by simp [isKeys] at h
  | k :: ks, (a, b, c) :: es, ms, h, hm => by
    cases a <;> first | (simp only [isKeys] at h; cases h; done) | skip
    cases b <;> first | (simp only [isKeys] at h; cases h; done) | skip
    rename_i l q
    cases q with
    | cons _ _ => simp only [isKeys] at h; cases h
    | nil =>
      simp only [isKeys, Bool.and_eq_true, decide_eq_true_eq] at h
      simp only [ME, V] at hm
      obtain ⟨m, ms', rfl, h1, ⟨xs, h2, h2'⟩, h3, h4⟩ := hm
      obtain ⟨i1, i2⟩ := keys_of h.2 h4
      have hk : m.key = .string ⟨(k.map UInt8.ofNat).toArray⟩ := by rw [h1.1, h.1]; rfl
      have hv : m.val = .agg #[] := by
        rw [h2]
        simp only [VL] at h2'
        cases xs with | mk ys => simp at h2'; subst h2'; rfl
      refine ⟨fun m' hm' => ?_, fun k' hk' => ?_⟩
      · rcases List.mem_cons.1 hm' with rfl | hm'
        · exact ⟨⟨k, List.mem_cons_self, hk⟩, hv⟩
        · obtain ⟨⟨k2, hk2, e⟩, e'⟩ := i1 m' hm'
          exact ⟨⟨k2, List.mem_cons_of_mem _ hk2, e⟩, e'⟩
      · rcases List.mem_cons.1 hk' with rfl | hk'
        · exact ⟨m, List.mem_cons_self, hk⟩
        · obtain ⟨m2, hm2, e⟩ := i2 k' hk'
          exact ⟨m2, List.mem_cons_of_mem _ hm2, e⟩
theorem made {F : FuncId} {ks : List (List Nat)} (h : ansMap ks (callsT Tryd.prog Ev.noFacts (Ev.indexByteT 22) 100000 60 F [] Mem.start) = true) (w : World) :
    Calls Tryd.prog F #[] w fun e w' => ∃ b, e = .returned (.map (some b)) ∧ w.heap.size ≤ b ∧ SetAt w' b (ks.map (·.map UInt8.ofNat)) ∧ Below w.heap.size w w' := by
  cases e : callsT Tryd.prog Ev.noFacts (Ev.indexByteT 22) 100000 60 F [] Mem.start with
  | none => rw [e] at h; cases h
  | some l =>
    rw [e] at h
    have hall := allMap_mem (show allMap ks l = true from h)
    refine Calls.mono (callsT_ok Bytes.lib Bytes.mix 100000 60 _ _ F _ Mem.start l e rfl (fun _ => none) #[] w (by simp only [VL]) (MR.start w)) fun e w' he => ?_
    obtain ⟨⟨v, M⟩, hr, E', x, _, rfl, hx, hM, _⟩ := he
    obtain ⟨b, es, ck, rfl, hg, hk⟩ := oneMap_inv (hall _ hr)
    obtain ⟨p, hp, ho⟩ := hM.obj b _ hg
    simp only [V] at hx
    obtain ⟨q, hq, rfl⟩ := hx
    rw [hp] at hq
    obtain rfl := Option.some.inj hq
    obtain ⟨ms, h1, h2⟩ := ho
    obtain ⟨k1, k2⟩ := keys_of hk h2
    refine ⟨p.1, rfl, hM.rng b p hp, ⟨ms, ck, h1, fun m hm => ?_, fun k hk => ?_⟩, hM.low⟩
    · obtain ⟨⟨k, hk, e⟩, e'⟩ := k1 m hm
      exact ⟨⟨_, List.mem_map_of_mem hk, e⟩, e'⟩
    · obtain ⟨k0, hk0, rfl⟩ := List.mem_map.1 hk
      exact k2 k0 hk0
end Sets

def wordsN : List (List Nat) := [[99, 97, 115, 101], [100, 97, 116, 97], [100, 111], [101, 108, 115, 101], [105, 102], [105, 110], [105, 110, 102, 105, 120], [105, 110, 102, 105, 120, 108], [105, 110, 102, 105, 120, 114], [108, 101, 116], [111, 102], [116, 104, 101, 110], [119, 104, 101, 114, 101], [95]]
def signsN : List (List Nat) := [[46, 46], [61], [92], [124], [60, 45], [45, 62], [64], [126]]

set_option maxRecDepth 1000000 in
theorem words_any (w : World) : Calls Tryd.prog 78 #[] w fun e w' => ∃ b, e = .returned (.map (some b)) ∧ w.heap.size ≤ b ∧ SetAt w' b wordsL ∧ Below w.heap.size w w' :=
  Sets.made (ks := wordsN) (by kernel_rfl) w
set_option maxRecDepth 1000000 in
theorem signs_any (w : World) : Calls Tryd.prog 79 #[] w fun e w' => ∃ b, e = .returned (.map (some b)) ∧ w.heap.size ≤ b ∧ SetAt w' b signsL ∧ Below w.heap.size w w' :=
  Sets.made (ks := signsN) (by kernel_rfl) w

theorem keyS : Ev.keyDesc Tryd.prog 9 = some .string := by kernel_rfl
theorem bytes_beq (a b : ByteArray) : (a == b) = decide (a = b) := by
  rw [Bool.eq_iff_iff, decide_eq_true_eq]
  cases a with | mk x => cases b with | mk y =>
  show (x == y) = true ↔ _
  rw [beq_iff_eq, ByteArray.mk.injEq]
theorem same_str (a b : ByteArray) : Instr.sameNow .string (.string a) (.string b) = some (decide (a = b)) := by rw [show Instr.sameNow .string (.string a) (.string b) = some (a == b) from rfl]; congr 1; exact bytes_beq a b
theorem set_lookup {w : World} {b : Nat} {ks : List (List UInt8)} (h : SetAt w b ks) (s : ByteArray) :
    (Instr.lookup 109 (.map (some b)) (.string s) true).run Tryd.prog w = .ok (.tuple #[.agg #[], .bool (decide (s.data.toList ∈ ks))]) w := by
  obtain ⟨ms, ck, h1, h2, h3⟩ := h
  have key : ∀ k : List UInt8, (⟨k.toArray⟩ : ByteArray) = s ↔ k = s.data.toList := fun k => ⟨fun e => by rw [← e], fun e => by rw [e]⟩
  by_cases ha : s.data.toList ∈ ks
  · have hs := Ev.findNow_some (d := .string) (x := .string s) (R := fun v => v = .agg #[]) (ms := ms.toList) (i := 0) (fun m hm => by
      obtain ⟨⟨k, hk, e⟩, e'⟩ := h2 m hm
      rw [e, same_str]
      by_cases q : s = (⟨k.toArray⟩ : ByteArray)
      · exact .inr ⟨by rw [decide_eq_true q], e'⟩
      · exact .inl (by rw [decide_eq_false q])) (by
      obtain ⟨m, hm, e⟩ := h3 _ ha
      exact ⟨m, hm, by rw [e, same_str, decide_eq_true rfl]⟩)
    obtain ⟨j, y, k1, rfl⟩ := hs
    simp only [Instr.lookup, Sem.run_bind, run_underlying Tryd.underlying109, Result.andThen_ok, Ev.run_getMap h1, Sem.run_pure, Ev.run_checkKey keyS]
    simp [Ev.run_findKey keyS k1, ha]
  · have hn : Instr.findNow .string (.string s) ms.toList 0 = some none := Ev.findNow_none fun m hm => by
      obtain ⟨⟨k, hk, e⟩, _⟩ := h2 m hm
      rw [e, same_str]
      have : ¬ s = (⟨k.toArray⟩ : ByteArray) := fun q => ha ((key k).1 q.symm ▸ hk)
      rw [decide_eq_false this]
    simp only [Instr.lookup, Sem.run_bind, run_underlying Tryd.underlying109, Result.andThen_ok, Ev.run_getMap h1, Sem.run_pure, Ev.run_checkKey keyS]
    simp [Ev.run_findKey keyS hn, ha, Tryd.zeroValue101]

set_option maxRecDepth 100000 in
set_option maxHeartbeats 4000000 in
theorem Word_any (s : ByteArray) (w : World) : Calls Tryd.prog 58 #[.string s] w fun e w' => e = .returned (.bool (decide (s.data.toList ∈ wordsL))) ∧ Below w.heap.size w w' := by
  go_enter Tryd.func58, Tryd.ntmps58
  go_wp2_with (go_at_call 78; refine (words_any _).mono ?_; rintro e w1 ⟨b, rfl, hb, hset, b1⟩; have hlk := set_lookup hset s)
  go_ret
  exact ⟨rfl, b1.alloc b1.size _⟩
set_option maxRecDepth 100000 in
set_option maxHeartbeats 4000000 in
theorem Sign_any (s : ByteArray) (w : World) : Calls Tryd.prog 60 #[.string s] w fun e w' => e = .returned (.bool (decide (s.data.toList ∈ signsL))) ∧ Below w.heap.size w w' := by
  go_enter Tryd.func60, Tryd.ntmps60
  go_wp2_with (go_at_call 79; refine (signs_any _).mono ?_; rintro e w1 ⟨b, rfl, hb, hset, b1⟩; have hlk := set_lookup hset s)
  go_ret
  exact ⟨rfl, b1.alloc b1.size _⟩
end Go.Proofs.YtnidkdjapieinaaDoor
