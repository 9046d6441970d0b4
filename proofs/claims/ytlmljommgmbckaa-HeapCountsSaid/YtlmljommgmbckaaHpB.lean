/- What is known of a heap in memory; the contracts of none, half, end, head. Conditions: spaces of at most 2^22 words. -/
import Derived.Test.YtlmljommgmbckaaHpA
import Derived.Deep.CutBlock
import Derived.Deep.DeepCutAuto
import Derived.Deep.RegionLaw
import Derived.StillTailTactics
import Derived.Laws.StructEq
import Derived.Laws.CopyOwn
import Derived.MapKept
namespace Go.Proofs.Ytlmljommgmbckaa
open Go.RowKit

/-- The places of a map's keys, each with true. -/
def Marks (W : World) (m : Nat) (l : List Int) : Prop :=
  ∃ ms ck, W.heap[m]? = some (.map ms ck) ∧ ms.toList.map (·.key) = l.map (fun a => Value.int .i64 a) ∧ (∀ e ∈ ms.toList, e.val = .bool true) ∧ MapKept.Stamped ms ck

/-- A heap's numbers and words. -/
structure HS where
  nur : Nat
  old : Nat
  top : Nat
  ws : List Wd
  ng : Nat
  st : List Int

/-- Where it lies. -/
structure HL where
  g : Nat
  vg : Value
  vr : Value
  mn : Nat
  ms : Nat

def HL.cells (L : HL) (H : HS) : Array Value :=
  #[.int .i64 H.nur, .int .i64 H.old, .int .i64 0, .int .i64 H.top, .int .i64 0, .slice (some ⟨L.g, 0, none⟩) H.ws.length H.ws.length, L.vg, L.vr, .map (some L.mn), .map (some L.ms), .bool true, .bool false]

structure HInv (W : World) (b : Nat) (L : HL) (H : HS) : Prop where
  blk : Blk W b (L.cells H)
  wh : W.heap[L.g]? = some (.cells (flat H.ws).toArray 32 (0, 0))
  mks : Marks W L.ms H.st
  bg : b ≠ L.g
  bm : b ≠ L.ms
  gm : L.g ≠ L.ms
  vg : ∃ p c, L.vg = .slice p H.ng c
  len : H.ws.length = H.nur + 2 * H.old
  nur : H.nur ≤ 4194304
  old : H.old ≤ 4194304
  top : H.top ≤ H.nur
  num : ∀ x ∈ H.ws, -9223372036854775808 ≤ x.2 ∧ x.2 ≤ 9223372036854775807
  pos : 0 < H.nur
  opos : 0 < H.old

theorem HInv.wd {W : World} {b : Nat} {L : HL} {H : HS} (h : HInv W b L H) : Blk W L.g (flat H.ws).toArray :=
  ⟨(Array.getElem?_eq_some_iff.1 h.wh).1, fun j => by unfold World.cell?; rw [h.wh]; rfl, fun j => by unfold World.frozen?; rw [h.wh]; simp⟩
theorem Marks.of_same {W W' : World} {m : Nat} {l : List Int} (h : Marks W m l) (he : W'.heap[m]? = W.heap[m]?) : Marks W' m l := by
  obtain ⟨ms, ck, h1, h2⟩ := h
  exact ⟨ms, ck, he.trans h1, h2⟩
theorem Marks.lt {W : World} {m : Nat} {l : List Int} (h : Marks W m l) : m < W.heap.size := by
  obtain ⟨ms, ck, h1, _⟩ := h
  exact (Array.getElem?_eq_some_iff.1 h1).1

/-- Where a heap lies. -/
def HFoot (b : Nat) (L : HL) (k : Nat) : Prop := k = b ∨ k = L.g ∨ k = L.ms
theorem HInv.on {W W' : World} {b : Nat} {L : HL} {H : HS} (h : HInv W b L H) (hs : W.heap.size ≤ W'.heap.size) (hb : ∀ k, HFoot b L k → W'.heap[k]? = W.heap[k]?) : HInv W' b L H :=
  { h with blk := h.blk.of_same (hb _ (.inl rfl)) hs, wh := (hb _ (.inr (.inl rfl))).trans h.wh, mks := h.mks.of_same (hb _ (.inr (.inr rfl))) }
theorem HInv.lt {W : World} {b : Nat} {L : HL} {H : HS} (h : HInv W b L H) (k : Nat) (hk : HFoot b L k) : k < W.heap.size := by
  rcases hk with rfl | rfl | rfl
  · exact h.blk.lt
  · exact h.wd.lt
  · exact h.mks.lt
theorem HInv.below {W W' : World} {b : Nat} {L : HL} {H : HS} (h : HInv W b L H) (hb : Below W.heap.size W W') : HInv W' b L H :=
  h.on hb.size fun k hk => hb.block k (h.lt k hk)

theorem HInv.drewN {w : World} {b : Nat} {L : HL} {H : HS} (h : HInv w b L H) (n : Nat) : HInv (w.drewN n) b L H := h.on (Nat.le_refl _) fun _ _ => rfl
/-- The word at a place. -/
def HS.word (H : HS) (a : Nat) : Wd := H.ws.getD a (0, 0)
theorem HInv.cell {W : World} {b : Nat} {L : HL} {H : HS} (h : HInv W b L H) {a : Nat} (ha : a < H.ws.length) : W.cell? ⟨L.g, a * 2, none⟩ = some (.int .i64 (H.word a).1) ∧ W.cell? ⟨L.g, a * 2 + 1, none⟩ = some (.int .i64 (H.word a).2) := by
  obtain ⟨h1, h2⟩ := flat_get H.ws a ha
  have e : H.word a = H.ws[a] := by unfold HS.word; simp [ha]
  rw [e]
  refine ⟨(h.wd.cell _).trans ?_, (h.wd.cell _).trans ?_⟩
  · rw [List.getElem?_toArray, Nat.mul_comm]; exact h1
  · rw [List.getElem?_toArray, Nat.mul_comm]; exact h2

theorem below_drewN (w : World) (n : Nat) : Below w.heap.size w (w.drewN n) := by
  induction n with
  | zero => exact Below.refl _ _
  | succ n ih => exact ih.drew
theorem keep_one {w wx wy : World} {p : Addr} {c : Value} (hb : p.block < w.heap.size) (h : wx.cell? p = some c ∧ Below w.heap.size w wx) (hy : Below wx.heap.size wx wy) : wy.cell? p = some c ∧ Below w.heap.size w wy :=
  ⟨(hy.cell (p := p) (Nat.lt_of_lt_of_le hb h.2.size)).trans h.1, h.2.trans (hy.mono h.2.size)⟩

def headOf (H : HS) (a : Int) : Pt := if 0 ≤ a ∧ a < H.top ∧ (H.word a.toNat).1 = 6 then partsK (H.word a.toNat).2 else ⟨0, 0, 0, false⟩

theorem nil_slice (a : Addr) (n m : Nat) (w : World) : (binOp .eql 33 (.slice (some a) n m) (.slice none 0 0)).run Try.prog w = .ok (.bool false) w := by
  show (do let r ← Op.equal 33 (.slice (some a) n m) (.slice none 0 0); pure (Value.bool r)).run Try.prog w = _
  have he : (Op.equal 33 (.slice (some a) n m) (.slice none 0 0)).run Try.prog w = .ok false w := by
    show (Op.equalIn (9999 + 1) 33 (.slice (some a) n m) (.slice none 0 0)).run Try.prog w = _
    unfold Op.equalIn
    simp [run_underlying Try.underlying33]
  simp [he]
set_option maxRecDepth 100000 in
set_option maxHeartbeats 4000000 in
theorem none_any (b : Nat) (L : HL) (H : HS) (w : World) (h : HInv w b L H) : Calls Try.prog 38 #[.pointer (some ⟨b, 0, none⟩)] w fun e w' => e = .returned (.bool false) ∧ w' = w := by
  have c := h.blk.cell
  unfold HL.cells at c
  have hp := h.pos
  have hl := h.len
  obtain ⟨N, hN⟩ : ∃ N, H.ws.length = N := ⟨_, rfl⟩
  rw [hN] at c hl
  have Hh := Lib.hid h
  have kn := nil_slice ⟨L.g, 0, none⟩ N N
  clear h hN hl
  go_enter Try.func38, Try.ntmps38
  go_wp2
  exact bodyPost_ret (v := .bool false) (by simp [results, Try.results38, go_sem]) rfl ⟨rfl, rfl⟩

set_option maxRecDepth 100000 in
set_option maxHeartbeats 4000000 in
theorem half_any (b : Nat) (L : HL) (H : HS) (w : World) (h : HInv w b L H) : Calls Try.prog 52 #[.pointer (some ⟨b, 0, none⟩)] w fun e w' => e = .returned (.int .i64 H.nur) ∧ ∃ n, w' = w.drewN n := by
  have c := h.blk.cell
  unfold HL.cells at c
  have hp := h.pos
  have hl := h.nur
  obtain ⟨N, hN⟩ : ∃ N, H.ws.length = N := ⟨_, rfl⟩
  rw [hN] at c
  have hw : IntKind.i64.wrap (0 * (H.old : Int)) = 0 := by rw [Int.zero_mul]; rfl
  have hw2 : IntKind.i64.wrap ((H.nur : Int) + 0) = H.nur := by rw [Int.add_zero]; exact IntWalk.i64_in _ (by omega)
  clear h hN
  go_enter Try.func52, Try.ntmps52
  go_upto_region 1 with fail
  go_quiet (fail)
  all_goals
    go_wp2
    go_ret
    exact ⟨rfl, _, rfl⟩

set_option maxRecDepth 100000 in
set_option maxHeartbeats 1000000 in
theorem end_any (b : Nat) (L : HL) (H : HS) (w : World) (h : HInv w b L H) (a : Int) (h1 : -9223372036854775808 ≤ a) (h2 : a ≤ 9223372036854775807) : Calls Try.prog 56 #[.pointer (some ⟨b, 0, none⟩), .int .i64 a] w fun e w' => e = .returned (.int .i64 (if 0 ≤ a ∧ a < H.top then H.top else -1)) ∧ ∃ n, w' = w.drewN n := by
  have c := h.blk.cell
  unfold HL.cells at c
  have hp := h.pos
  have hl := h.nur
  have ht := h.top
  have kh := fun n => half_any b L H (w.drewN n) (h.drewN n)
  have KH := Lib.hid kh
  obtain ⟨N, hN⟩ : ∃ N, H.ws.length = N := ⟨_, rfl⟩
  rw [hN] at c
  clear h hN kh
  have hw2 : IntKind.i64.wrap (H.nur : Int) = H.nur := IntWalk.i64_in _ (by omega)
  by_cases c1 : 0 ≤ a
  · by_cases c2 : a < H.top
    · rw [if_pos ⟨c1, c2⟩]
      go_enter Try.func56, Try.ntmps56
      go_wp2
      go_ret
      exact ⟨rfl, 0, rfl⟩
    · rw [if_neg (fun q => c2 q.2)]
      by_cases c3 : (H.nur : Int) ≤ a
      · have c3 : decide ((H.nur : Int) ≤ a) = true := by simp; omega
        go_enter Try.func56, Try.ntmps56
        go_upto_region 3 with fail
        go_quiet ((go_at_call 52; exact Calls.quiet_of (KH.out _)))
        all_goals
          go_wp2
          go_ret
          exact ⟨rfl, _, rfl⟩
      · have c3 : decide ((H.nur : Int) ≤ a) = false := by simp; omega
        go_enter Try.func56, Try.ntmps56
        go_upto_region 3 with fail
        go_quiet ((go_at_call 52; exact Calls.quiet_of (KH.out _)))
        all_goals
          go_wp2
          go_ret
          exact ⟨rfl, _, rfl⟩
  · rw [if_neg (fun q => c1 q.1)]
    have c3 : decide ((H.nur : Int) ≤ a) = false := by simp; omega
    go_enter Try.func56, Try.ntmps56
    go_upto_region 3 with fail
    go_quiet ((go_at_call 52; exact Calls.quiet_of (KH.out _)))
    all_goals
      go_wp2
      go_ret
      exact ⟨rfl, _, rfl⟩

end Go.Proofs.Ytlmljommgmbckaa
