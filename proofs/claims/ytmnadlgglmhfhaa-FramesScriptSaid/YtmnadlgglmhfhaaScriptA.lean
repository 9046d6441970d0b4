/- The law FramesScript: what its walk keeps: the stack and the reference's stack, side by side. -/
import Derived.Test.YtmnadlgglmhfhaaPick
namespace Go.Proofs.Ytmnadlgglmhfhaa
open Go.RowKit

structure Both (w wr : World) (b r lim : Nat) (us vs : List Row) (vl vr : Value) : Prop where
  s : SInv wr b (b + 1) lim us vl
  t : RInv wr r (r + 1) lim vs vr
  apart : ∀ i, Foot b vl us i → Foot r vr vs i → False
  bel : Below w.heap.size w wr
  lows : w.heap.size ≤ b
  lowt : w.heap.size ≤ r
section
variable {w wr wx : World} {b r lim : Nat} {us vs : List Row} {vl vr : Value}
theorem Both.on (h : Both w wr b r lim us vs vl vr) (hb : Below wr.heap.size wr wx) : Both w wx b r lim us vs vl vr :=
  ⟨h.s.below hb, h.t.below hb, h.apart, h.bel.trans (hb.mono h.bel.size), h.lows, h.lowt⟩
theorem Both.onS (h : Both w wr b r lim us vs vl vr) {us' : List Row} {vl' : Value} (hi : SInv wx b (b + 1) lim us' vl') (hf : ∀ k, Foot b vl' us' k → Foot b vl us k ∨ wr.heap.size ≤ k) (hoff : Off (Foot b vl us) wr wx) : Both w wx b r lim us' vs vl' vr :=
  ⟨hi, h.t.off hoff (fun k hk hs => h.apart k hs hk), fun i h1 h2 => by
    rcases hf i h1 with q | q
    · exact h.apart i q h2
    · have := (h.t.foot_lt i h2).1; omega,
    h.bel.trans (hoff.below h.bel.size (foot_from h.s w.heap.size h.lows)), h.lows, h.lowt⟩
theorem Both.onT (h : Both w wr b r lim us vs vl vr) {vs' : List Row} {vr' : Value} (hi : RInv wx r (r + 1) lim vs' vr') (hf : ∀ k, Foot r vr' vs' k → Foot r vr vs k ∨ wr.heap.size ≤ k) (hoff : Off (Foot r vr vs) wr wx) : Both w wx b r lim us vs' vl vr' :=
  ⟨h.s.off hoff (fun k hk hs => h.apart k hk hs), hi, fun i h1 h2 => by
    rcases hf i h2 with q | q
    · exact h.apart i h1 q
    · have := (h.s.foot_lt i h1).1; omega,
    h.bel.trans (hoff.below h.bel.size (RInv.foot_from h.t w.heap.size h.lowt)), h.lows, h.lowt⟩
theorem foot_blks {b : Nat} {vl : Value} {us : List Row} {k : Nat} (h : k ∈ blksOf us) : Foot b vl us k := .inr (.inr h)
theorem foot_turn {b : Nat} {vl : Value} {us : List Row} (ls : List Wd) {k : Nat} (h : Foot b vl (turnRows us ls) k) : Foot b vl us k := by
  rcases h with h | h | h
  · exact .inl h
  · exact .inr (.inl h)
  · rw [turn_blks] at h; exact .inr (.inr h)
theorem Both.turnS (h : Both w wr b r lim us vs vl vr) (ls : List Wd) (hi : SInv wx b (b + 1) lim (turnRows us ls) vl) (hoff : Off (fun k => k ∈ blksOf us) wr wx) : Both w wx b r lim (turnRows us ls) vs vl vr :=
  h.onS hi (fun _ hk => .inl (foot_turn ls hk)) ⟨hoff.os, hoff.tape, hoff.output, hoff.size, fun k hk hn => hoff.block k hk (fun hs => hn (foot_blks hs))⟩
theorem Both.turnT (h : Both w wr b r lim us vs vl vr) (ls : List Wd) (hi : RInv wx r (r + 1) lim (turnRows vs ls) vr) (hoff : Off (fun k => k ∈ blksOf vs) wr wx) : Both w wx b r lim us (turnRows vs ls) vl vr :=
  h.onT hi (fun _ hk => .inl (foot_turn ls hk)) ⟨hoff.os, hoff.tape, hoff.output, hoff.size, fun k hk hn => hoff.block k hk (fun hs => hn (foot_blks hs))⟩
theorem Both.popS (h : Both w wr b r lim us vs vl vr) {us' : List Row} {vl' : Value} (hi : SInv wx b (b + 1) lim us' vl') (hf : ∀ k, Foot b vl' us' k → Foot b vl us k) (hoff : Off (fun i => i = b) wr wx) : Both w wx b r lim us' vs vl' vr :=
  h.onS hi (fun k hk => .inl (hf k hk)) ⟨hoff.os, hoff.tape, hoff.output, hoff.size, fun i hi hn => hoff.block i hi (fun hs => hn (.inl hs))⟩
theorem Both.popT (h : Both w wr b r lim us vs vl vr) {vs' : List Row} {vr' : Value} (hi : RInv wx r (r + 1) lim vs' vr') (hf : ∀ k, Foot r vr' vs' k → Foot r vr vs k) (hoff : Off (fun i => i = r) wr wx) : Both w wx b r lim us vs' vl vr' :=
  h.onT hi (fun k hk => .inl (hf k hk)) ⟨hoff.os, hoff.tape, hoff.output, hoff.size, fun i hi hn => hoff.block i hi (fun hs => hn (.inl hs))⟩
end

theorem same_words {us vs : List Row} (h : us.map Row.f = vs.map Row.f) : wordsAll us = wordsAll vs := by
  have e : ∀ l : List Row, wordsAll l = (l.map Row.f).flatMap fun f => f.ws ++ f.ds := by
    intro l
    simp [wordsAll, List.flatMap_map]
  rw [e, e, h]
theorem same_taken {us vs : List Row} (h : us.map Row.f = vs.map Row.f) : takenOf us = takenOf vs := by rw [taken_map, taken_map, h]
theorem same_len {us vs : List Row} (h : us.map Row.f = vs.map Row.f) : us.length = vs.length := by simpa using congrArg List.length h
theorem same_turn {us vs : List Row} (ls : List Wd) (h : us.map Row.f = vs.map Row.f) : (turnRows us ls).map Row.f = (turnRows vs ls).map Row.f := by
  induction us generalizing vs ls with
  | nil =>
    cases vs with
    | nil => rfl
    | cons v vs => simp at h
  | cons u us ih =>
    cases vs with
    | nil => simp at h
    | cons v vs =>
      simp only [List.map_cons, List.cons.injEq] at h
      simp only [turnRows, List.map_cons, List.cons.injEq, h.1, true_and]
      exact ih _ h.2

end Go.Proofs.Ytmnadlgglmhfhaa
