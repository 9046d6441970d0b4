/- The contract of Alloc. -/
import Derived.Test.YtlmljommgmbckaaHpF
namespace Go.Proofs.Ytlmljommgmbckaa
open Go.RowKit

theorem WAt.word {W : World} {pl : Option Addr} {L cl : Nat} {ls : List Wd} (h : WAt W (.slice pl L cl) ls) (t : Nat) (ht : t < ls.length) :
    ∃ bl ol, pl = some ⟨bl, ol, none⟩ ∧ W.cell? ⟨bl, ol + t * 2, none⟩ = some (.int .i64 ls[t].1) ∧ W.cell? ⟨bl, ol + t * 2 + 1, none⟩ = some (.int .i64 ls[t].2) := by
  obtain ⟨a, cap, e, hc⟩ := h
  simp only [Value.slice.injEq] at e
  obtain ⟨rfl, rfl, rfl⟩ := e
  obtain ⟨bl, ol, rfl, _, hcl⟩ := hc (by omega)
  obtain ⟨h1, h2⟩ := flat_get ls t ht
  refine ⟨bl, ol, rfl, ?_, ?_⟩
  · have := hcl _ _ h1; rwa [Nat.mul_comm] at this
  · have := hcl _ _ h2; rw [Nat.mul_comm] at this; exact this
theorem WAt.off0 {S : Nat → Prop} {W W' : World} {v : Value} {ws : List Wd} (h : WAt W v ws) (hb : Off S W W') (hn : 0 < ws.length → ∀ g, v.ownBlock = some g → ¬ S g) : WAt W' v ws := by
  obtain ⟨a, cap, rfl, hc⟩ := h
  refine ⟨a, cap, rfl, fun hl => ?_⟩
  obtain ⟨b, o, rfl, h2, h3⟩ := hc hl
  have hbk := hb.block b h2 (hn hl b rfl)
  exact ⟨b, o, rfl, Nat.lt_of_lt_of_le h2 hb.size, fun j c hj => (World.cell?_of_block (w := W) (a := ⟨b, o + j, none⟩) hbk).trans (h3 j c hj)⟩

/-- The words behind a copy. -/
def spl (ws us : List Wd) (o : Nat) : List Wd := ws.take o ++ us ++ ws.drop (o + us.length)

theorem run_copy_at (w : World) (ty : TypeId) (g o n c m cl : Nat) (p : Option Addr) (ws us : List Wd) (hg : w.heap[g]? = some (.cells (flat ws).toArray 32 (0, 0))) (hw : WAt w (.slice p m cl) us) (hm : us.length = m) (hmn : m ≤ n) (hfit : o + m ≤ ws.length) :
    (Builtin.copy_ #[33, 33] ty #[.slice (some ⟨g, o * 2, none⟩) n c, .slice p m cl]).run Try.prog w = .ok (goInt m) (w.setRow g (flat (spl ws us o)).toArray) := by
  have hu := zeroW
  obtain ⟨i0, hi, hz1⟩ : ∃ i0, Try.prog.info? 32 = some i0 ∧ i0.size = 2 := by
    have := infoW
    cases q : Try.prog.info? 32 with
    | none => rw [q] at this; cases this
    | some i0 => rw [q] at this; simp at this; exact ⟨i0, rfl, this.2.1⟩
  have hmin : Nat.min m n = m := Nat.min_eq_left hmn
  have hst := run_storeCells_at (P := Try.prog) g (o * 2) 32 (flat us) 0 (flat ws).toArray w hg (by rw [flat_len, List.size_toArray, flat_len]; omega) (flat_one _)
  have hsp := flat_splice ws us o
  unfold spl
  by_cases h0 : m = 0
  · subst h0
    have hus : us = [] := List.length_eq_zero_iff.1 hm
    subst hus
    have hse : w.setRow g (flat ws).toArray = w := setRow_self w g _ _ _ hg
    rw [List.append_nil, List.length_nil, Nat.add_zero, List.take_append_drop, hse]
    cases p with
    | none => simp [Builtin.copy_, run_underlying hu, Builtin.lenOf, Builtin.firstCells, sizeOf, typeInfo, hi, storeCells]
    | some a =>
      have hl := run_loadCells_list (P := Try.prog) w a [] (fun j v h => by simp at h)
      simp [Builtin.copy_, run_underlying hu, Builtin.lenOf, Builtin.firstCells, sizeOf, typeInfo, hi] at hl ⊢
      simp [hl, storeCells]
  · obtain ⟨bl, ol, rfl, _, _⟩ := hw.word 0 (by omega)
    obtain ⟨a', cap', e', hcl⟩ := hw
    simp only [Value.slice.injEq] at e'
    obtain ⟨e1, e2, e3⟩ := e'
    obtain ⟨b2, o2, e4, hbl, hcc⟩ := hcl (by omega)
    rw [e4] at e1
    cases e1
    have hl := run_loadCells_list (P := Try.prog) w ⟨bl, ol, none⟩ (flat us) (fun j v h => by
      have := hcc j v h
      cases j with
      | zero => simpa [Addr.add] using this
      | succ j => simpa [Addr.add] using this)
    rw [flat_len, hm] at hl
    rw [flat_len] at hst
    simp [Builtin.copy_, run_underlying hu, Builtin.lenOf, Builtin.firstCells, sizeOf, typeInfo, hi, hz1, hmin, hl, hst, hm]
    rw [hm] at hsp
    rw [← List.append_assoc, ← List.append_assoc, ← hsp]

def HS.alloc (H : HS) (kind info : Int) (us : List Wd) : HS :=
  { H with top := H.top + 1 + us.length, ws := spl (H.ws.set H.top (6, headK kind us.length info)) us (H.top + 1), st := H.st ++ [(H.top : Int)] }
theorem spl_len {ws us : List Wd} {o : Nat} (h : o + us.length ≤ ws.length) : (spl ws us o).length = ws.length := by
  unfold spl; simp; omega
theorem spl_low {ws us : List Wd} {o j : Nat} (h : j < o) (ho : o ≤ ws.length) : (spl ws us o).getD j (0, 0) = ws.getD j (0, 0) := by
  unfold spl
  rw [List.getD_eq_getElem?_getD, List.getD_eq_getElem?_getD, List.append_assoc, List.getElem?_append_left (by rw [List.length_take]; omega), List.getElem?_take_of_lt h]
theorem alloc_low {H : HS} {kind info : Int} {us : List Wd} {j : Nat} (hj : j < H.top) (ht : H.top + 1 ≤ H.ws.length) : (H.alloc kind info us).word j = H.word j := by
  unfold HS.word HS.alloc
  simp only
  rw [spl_low (by omega) (by simpa using ht), List.getD_eq_getElem?_getD, List.getD_eq_getElem?_getD, List.getElem?_set_ne (by omega)]
theorem alloc_top {H : HS} {kind info : Int} {us : List Wd} (ht : H.top + 1 ≤ H.ws.length) : (H.alloc kind info us).word H.top = (6, headK kind us.length info) := by
  unfold HS.word HS.alloc
  simp only
  rw [spl_low (by omega) (by simpa using ht), List.getD_eq_getElem?_getD, List.getElem?_set_self (by omega)]
  rfl
theorem head_alloc {H : HS} {kind info : Int} {us : List Wd} {a : Int} (h0 : 0 ≤ a) (ha : a < H.top) (ht : H.top + 1 ≤ H.ws.length) : headOf (H.alloc kind info us) a = headOf H a := by
  obtain ⟨j, rfl⟩ := Int.eq_ofNat_of_zero_le h0
  unfold headOf
  simp only [Int.toNat_natCast]
  rw [alloc_low (by omega) ht]
  have e : (j : Int) < (H.alloc kind info us).top := by show ((j : Int) < ((H.top + 1 + us.length : Nat) : Int)); omega
  by_cases q : (H.word j).1 = 6
  · rw [if_pos ⟨h0, e, q⟩, if_pos ⟨h0, ha, q⟩]
  · rw [if_neg (fun h => q h.2.2), if_neg (fun h => q h.2.2)]
theorem head_new {H : HS} {kind info : Int} {us : List Wd} (ht : H.top + 1 ≤ H.ws.length) (h1 : 1 ≤ kind) (h2 : kind ≤ 5) (h3 : us.length ≤ 65536) (h4 : 0 ≤ info) (h5 : info ≤ 1073741824) (h6 : kind < 5 ∨ 1 ≤ us.length) : headOf (H.alloc kind info us) H.top = ⟨kind, us.length, info, true⟩ := by
  have e : headOf (H.alloc kind info us) (H.top : Int) = partsK (headK kind us.length info) := by
    unfold headOf
    simp only [Int.toNat_natCast]
    rw [alloc_top ht, if_pos ⟨by omega, by show ((H.top : Int) < ((H.top + 1 + us.length : Nat) : Int)); omega, rfl⟩]
  rw [e]
  exact parts_head h1 (by omega) (by omega) (by omega) h4 h5 (by omega)
theorem HGood.alloc {H : HS} (g : HGood H) {kind info : Int} {us : List Wd} (ht : H.top + 1 ≤ H.ws.length) (h1 : 1 ≤ kind) (h2 : kind ≤ 5) (h3 : us.length ≤ 65536) (h4 : 0 ≤ info) (h5 : info ≤ 1073741824) (h6 : kind < 5 ∨ 1 ≤ us.length) : HGood (H.alloc kind info us) := by
  have hn := head_new (H := H) (kind := kind) (info := info) (us := us) ht h1 h2 h3 h4 h5 h6
  have htop : ((H.alloc kind info us).top : Int) = H.top + 1 + us.length := by show ((H.top + 1 + us.length : Nat) : Int) = _; omega
  have hst : ∀ a, a ∈ (H.alloc kind info us).st ↔ a ∈ H.st ∨ a = (H.top : Int) := by intro a; show a ∈ H.st ++ [(H.top : Int)] ↔ _; simp
  refine ⟨fun a ha => ?_, fun a ha c hc hac => ?_⟩
  · rcases (hst a).1 ha with ha | rfl
    · obtain ⟨q1, q2, q3, q4⟩ := g.at_ a ha
      rw [head_alloc q1 q2 ht, htop]
      exact ⟨q1, by omega, q3, by omega⟩
    · rw [hn, htop]
      exact ⟨by omega, by omega, rfl, by show (H.top : Int) + 1 + us.length ≤ _; omega⟩
  · rcases (hst a).1 ha with ha | rfl
    · obtain ⟨q1, q2, q3, q4⟩ := g.at_ a ha
      rw [head_alloc q1 q2 ht]
      rcases (hst c).1 hc with hc | rfl
      · exact g.apart a ha c hc hac
      · omega
    · rcases (hst c).1 hc with hc | rfl
      · obtain ⟨q1, q2, _⟩ := g.at_ c hc; omega
      · omega

end Go.Proofs.Ytlmljommgmbckaa
