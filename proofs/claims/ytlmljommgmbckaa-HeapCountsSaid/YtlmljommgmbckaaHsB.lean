/- The globals of a heap in memory; New with them. -/
import Derived.Test.YtlmljommgmbckaaHsA
import Derived.Test.YtlmljommgmbckaaHpI
namespace Go.Proofs.Ytlmljommgmbckaa
open Go.RowKit
set_option linter.unusedSimpArgs false

/-- The globals' words. -/
structure GAt (W : World) (b : Nat) (L : HL) (gb : Nat) (gl : List Wd) : Prop where
  vg : L.vg = .slice (some ⟨gb, 0, none⟩) gl.length gl.length
  wh : W.heap[gb]? = some (.cells (flat gl).toArray 32 (0, 0))
  nb : gb ≠ b
  ng : gb ≠ L.g
  nm : gb ≠ L.ms
  num : Ranged gl

theorem GAt.lt {W : World} {b : Nat} {L : HL} {gb : Nat} {gl : List Wd} (h : GAt W b L gb gl) : gb < W.heap.size := (Array.getElem?_eq_some_iff.1 h.wh).1
theorem GAt.on {W W' : World} {b : Nat} {L : HL} {gb : Nat} {gl : List Wd} (h : GAt W b L gb gl) (he : W'.heap[gb]? = W.heap[gb]?) : GAt W' b L gb gl := { h with wh := he.trans h.wh }
theorem GAt.not {W : World} {b : Nat} {L : HL} {gb : Nat} {gl : List Wd} (h : GAt W b L gb gl) : ¬ HFoot b L gb := by
  rintro (q | q | q)
  · exact h.nb q
  · exact h.ng q
  · exact h.nm q
theorem GAt.off {W W' : World} {b : Nat} {L : HL} {gb : Nat} {gl : List Wd} (h : GAt W b L gb gl) (ho : Off (HFoot b L) W W') : GAt W' b L gb gl := h.on (ho.block _ h.lt h.not)
theorem GAt.below {W W' : World} {b : Nat} {L : HL} {gb : Nat} {gl : List Wd} (h : GAt W b L gb gl) (hb : Below W.heap.size W W') : GAt W' b L gb gl := h.on (hb.block _ h.lt)
theorem GAt.blk {W : World} {b : Nat} {L : HL} {gb : Nat} {gl : List Wd} (h : GAt W b L gb gl) : Blk W gb (flat gl).toArray :=
  ⟨h.lt, fun j => by unfold World.cell?; rw [h.wh]; rfl, fun j => by unfold World.frozen?; rw [h.wh]; simp⟩
theorem GAt.at {W : World} {b : Nat} {L : HL} {gb : Nat} {gl : List Wd} (h : GAt W b L gb gl) : WAt W L.vg gl :=
  ⟨_, _, h.vg, fun _ => ⟨gb, 0, rfl, h.lt, fun j c hj => by rw [Nat.zero_add, h.blk.cell, List.getElem?_toArray]; exact hj⟩⟩

/-- A sound heap in memory. -/
structure GHeap (W : World) (b : Nat) (L : HL) (gb : Nat) (H : HS) (gl : List Wd) : Prop where
  inv : HInv W b L H
  ga : GAt W b L gb gl
  snd : Sound H gl
def GFoot (b : Nat) (L : HL) (gb : Nat) (k : Nat) : Prop := HFoot b L k ∨ k = gb
theorem GHeap.below {W W' : World} {b : Nat} {L : HL} {gb : Nat} {H : HS} {gl : List Wd} (h : GHeap W b L gb H gl) (hb : Below W.heap.size W W') : GHeap W' b L gb H gl := ⟨h.inv.below hb, h.ga.below hb, h.snd⟩
theorem GHeap.lt {W : World} {b : Nat} {L : HL} {gb : Nat} {H : HS} {gl : List Wd} (h : GHeap W b L gb H gl) (k : Nat) (hk : GFoot b L gb k) : k < W.heap.size := by
  rcases hk with q | rfl
  · exact h.inv.lt k q
  · exact h.ga.lt
theorem Off.wide {S T : Nat → Prop} {W W' : World} (h : Off S W W') (k : ∀ i, S i → T i) : Off T W W' := ⟨h.os, h.tape, h.output, h.size, fun i hi hn => h.block i hi (fun q => hn (k i q))⟩

set_option linter.unusedSimpArgs false in
theorem new_inv2 {w X : World} {nur old ng : Nat} {A1 A2 : Array Value} (hA1 : (flat (List.replicate (nur + 2 * old) (0, 0))).toArray = A1) (hA2 : (flat (List.replicate ng (0, 0))).toArray = A2) (h64 : 64 ≤ nur) (h2000 : nur ≤ 2000) (h64' : 64 ≤ old) (h2000' : old ≤ 2000) (b g g2 mn ms : Nat) (t : TypeId)
    (hsz : b = X.heap.size) (hg : X.heap[g]? = some (.cells A1 32 (0, 0))) (hg2 : X.heap[g2]? = some (.cells A2 32 (0, 0))) (hne : g2 ≠ g) (h3 : w.heap.size ≤ g2) (hm : X.heap[ms]? = some (.map #[] 0)) (hb : Below w.heap.size w X) (h1 : w.heap.size ≤ g) (h2 : w.heap.size ≤ ms) :
    ∃ b' L gb, Ending.returned (.tuple #[.pointer (some ⟨b, 0, none⟩), .int .i64 0]) = .returned (.tuple #[.pointer (some ⟨b', 0, none⟩), .int .i64 0]) ∧
      HInv (X.alloc (.cells #[.int .i64 nur, .int .i64 old, .int .i64 0, .int .i64 0, .int .i64 0, .slice (some ⟨g, 0, none⟩) (nur + 2 * old) (nur + 2 * old), .slice (some ⟨g2, 0, none⟩) ng ng, .slice none 0 0, .map (some mn), .map (some ms), .bool true, .bool false] t)).drew b' L ⟨nur, old, 0, List.replicate (nur + 2 * old) (0, 0), ng, []⟩ ∧
      GAt ((X.alloc (.cells #[.int .i64 nur, .int .i64 old, .int .i64 0, .int .i64 0, .int .i64 0, .slice (some ⟨g, 0, none⟩) (nur + 2 * old) (nur + 2 * old), .slice (some ⟨g2, 0, none⟩) ng ng, .slice none 0 0, .map (some mn), .map (some ms), .bool true, .bool false] t)).drew) b' L gb (List.replicate ng (0, 0)) ∧ (∀ k, HFoot b' L k ∨ k = gb → w.heap.size ≤ k) ∧ Below w.heap.size w (X.alloc (.cells #[.int .i64 nur, .int .i64 old, .int .i64 0, .int .i64 0, .int .i64 0, .slice (some ⟨g, 0, none⟩) (nur + 2 * old) (nur + 2 * old), .slice (some ⟨g2, 0, none⟩) ng ng, .slice none 0 0, .map (some mn), .map (some ms), .bool true, .bool false] t)).drew := by
  have lg := (Array.getElem?_eq_some_iff.1 hg).1
  have lm := (Array.getElem?_eq_some_iff.1 hm).1
  have lg2 := (Array.getElem?_eq_some_iff.1 hg2).1
  subst hsz
  refine ⟨X.heap.size, ⟨g, .slice (some ⟨g2, 0, none⟩) ng ng, .slice none 0 0, mn, ms⟩, g2, rfl, ?_, ?_, ?_, (hb.alloc hb.size _).drew⟩
  · refine { blk := ?_, wh := ?_, mks := ?_, bg := by show X.heap.size ≠ g; omega, bm := by show X.heap.size ≠ ms; omega, gm := ?_, vg := ⟨_, _, rfl⟩, len := by simp, nur := by show nur ≤ _; omega, old := by show old ≤ _; omega, top := Nat.zero_le _, num := ?_, pos := by show 0 < nur; omega, opos := by show 0 < old; omega }
    · have := (Blk.new X #[.int .i64 nur, .int .i64 old, .int .i64 0, .int .i64 0, .int .i64 0, .slice (some ⟨g, 0, none⟩) (nur + 2 * old) (nur + 2 * old), .slice (some ⟨g2, 0, none⟩) ng ng, .slice none 0 0, .map (some mn), .map (some ms), .bool true, .bool false] t).drew
      unfold HL.cells
      simp only [List.length_replicate]
      exact this
    · show _ = some (Obj.cells (flat (List.replicate (nur + 2 * old) (0, 0))).toArray _ (0, 0))
      rw [hA1]
      exact (Below.heap_alloc _ _ _ lg).trans hg
    · exact ⟨#[], 0, (Below.heap_alloc _ _ _ lm).trans hm, rfl, fun e he => by simp at he, MapKept.stamped_empty 0⟩
    · intro e
      have e' : g = ms := e
      rw [e', hm] at hg
      cases hg
    · intro x hx
      have := List.eq_of_mem_replicate hx
      subst this
      exact ⟨by decide, by decide⟩
  · refine ⟨?_, ?_, by omega, hne, ?_, ?_⟩
    · simp
    · rw [hA2]
      exact (Below.heap_alloc _ _ _ lg2).trans hg2
    · intro e
      have e' : g2 = ms := e
      rw [e', hm] at hg2
      cases hg2
    · intro x hx
      have := List.eq_of_mem_replicate hx
      subst this
      exact ⟨by decide, by decide⟩
  · intro k hk
    rcases hk with (rfl | rfl | rfl) | rfl
    · exact hb.size
    · exact h1
    · exact h2
    · exact h3

set_option maxRecDepth 100000 in
set_option maxHeartbeats 4000000 in
theorem hnew_g (nur old ng : Nat) (w : World) (h1 : 64 ≤ nur) (h2 : nur ≤ 2000) (h3 : 64 ≤ old) (h4 : old ≤ 2000) (h5 : ng ≤ 2000) :
    Calls Try.prog 13 #[.int .i64 nur, .int .i64 old, .int .i64 ng] w fun e w' => ∃ b L gb, e = .returned (.tuple #[.pointer (some ⟨b, 0, none⟩), .int .i64 0]) ∧ HInv w' b L ⟨nur, old, 0, List.replicate (nur + 2 * old) (0, 0), ng, []⟩ ∧ GAt w' b L gb (List.replicate ng (0, 0)) ∧ (∀ k, HFoot b L k ∨ k = gb → w.heap.size ≤ k) ∧ Below w.heap.size w w' := by
  have k1 := fun W => fine_any nur W
  have k2 := fun W => fine_any old W
  rw [show (decide ((64 : Int) ≤ (nur : Int)) && decide ((nur : Int) ≤ 4194304)) = true from by simp; omega] at k1
  rw [show (decide ((64 : Int) ≤ (old : Int)) && decide ((old : Int) ≤ 4194304)) = true from by simp; omega] at k2
  have K1 := Lib.hid k1; have K2 := Lib.hid k2
  have hg : decide ((4194304 : Int) < (ng : Int)) = false := by simp; omega
  have hg2 : decide (4194304 < ng) = false := by simp; omega
  clear k1 k2
  have hw1 : IntKind.i64.wrap (2 * (old : Int)) = 2 * (old : Int) := IntWalk.i64_in _ (by omega)
  have hw2 : IntKind.i64.wrap ((nur : Int) + 2 * (old : Int)) = (nur : Int) + 2 * (old : Int) := IntWalk.i64_in _ (by omega)
  have hm1 := fun W => run_make_words (nur + 2 * old) (by omega) W
  have hm2 := fun W => run_make_words ng (by omega) W
  rw [show ((nur + 2 * old : Nat) : Int) = (nur : Int) + 2 * (old : Int) by omega] at hm1
  obtain ⟨A1, hA1⟩ : ∃ A, (flat (List.replicate (nur + 2 * old) (0, 0))).toArray = A := ⟨_, rfl⟩
  obtain ⟨A2, hA2⟩ : ∃ A, (flat (List.replicate ng (0, 0))).toArray = A := ⟨_, rfl⟩
  rw [hA1] at hm1
  rw [hA2] at hm2
  have HA1 := Lib.hid hA1; have HA2 := Lib.hid hA2
  have hmm : ∀ W, (Instr.makeMap 65 none).run Try.prog W = .ok (.map (some W.heap.size)) (W.alloc (.map #[] 0)) := fun W => by simp [Instr.makeMap]
  have hng0 : decide ((ng : Int) < 0) = false := by simp
  clear hA1 hA2
  go_enter Try.func13, Try.ntmps13
  go_upto_region 4 with (first | (go_at_call_of 37 (Value.int .i64 nur); with_reducible refine (K1.out _).mono ?_; rintro e w1 ⟨rfl, rfl⟩) | (go_at_call_of 37 (Value.int .i64 old); with_reducible refine (K2.out _).mono ?_; rintro e w2 ⟨rfl, rfl⟩))
  go_region_with fail
  all_goals go_wp2
  all_goals
    refine bodyPost_ret (v := .tuple #[.pointer (some ⟨w2.heap.size + 1 + 1 + 1 + 1, 0, none⟩), .int .i64 0]) (by simp [results, Try.results13, go_sem, Act.put]) rfl ?_
    exact new_inv2 HA1.out HA2.out h1 h2 h3 h4 _ _ _ _ _ _ (by simp) (by ((repeat (first | (refine heap_at ?_; (simp; done)) | (refine heap_down ?_ ?_; focus (first | (simp; done) | (simp; omega))))))) (by ((repeat (first | (refine heap_at ?_; (simp; done)) | (refine heap_down ?_ ?_; focus (first | (simp; done) | (simp; omega))))))) (by omega) (by omega) (by ((repeat (first | (refine heap_at ?_; (simp; done)) | (refine heap_down ?_ ?_; focus (first | (simp; done) | (simp; omega))))))) (by ((repeat (first | exact Below.refl _ _ | (refine Below.alloc ?_ (by first | (simp [World.setCell]; done) | (simp [World.setCell]; omega)) _) | (refine Below.setCell ?_ (by first | (simp [World.setCell]; done) | (simp [World.setCell]; omega)) _) | refine Below.drew ?_)))) (by omega) (by omega)

theorem new_sound (nur old ng : Nat) : Sound ⟨nur, old, 0, List.replicate (nur + 2 * old) (0, 0), ng, []⟩ (List.replicate ng (0, 0)) :=
  ⟨⟨fun a ha => by simp at ha, fun a ha => by simp at ha⟩, fun a ha => by have := head_lt ha; have h2 := this.2.1; have h0 := this.1; simp at h2; omega, fun a ha => by simp at ha, fun a ha => by simp at ha, fun x hx => by rw [List.eq_of_mem_replicate hx]; rfl, by simp⟩

end Go.Proofs.Ytlmljommgmbckaa
