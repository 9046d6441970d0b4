/- All names, in order: prim.Names; the document's; texts that are the same. -/
import Derived.Test.YtmgfgkikeflenaaDoorPcO
import Derived.Test.YtmgfgkikeflenaaDoorShelfS
namespace Go.Proofs.YtmgfgkikeflenaaDoor
open Go.RowKit Go.Shelf
set_option linter.unusedSimpArgs false
set_option linter.unusedVariables false

/-- A slice that reads as these texts. -/
def TxRd (W : World) (v : Value) (l : List (List UInt8)) : Prop :=
  ∃ (a : Option Addr) (cap : Nat), v = .slice a l.length cap ∧ (0 < l.length → ∃ b o, a = some ⟨b, o, none⟩ ∧ b < W.heap.size ∧ ∀ k x, l[k]? = some x → W.cell? ⟨b, o + k, none⟩ = some (.string ⟨x.toArray⟩))
theorem TxRd.below {W W' : World} {v : Value} {l : List (List UInt8)} (h : TxRd W v l) (hb : Below W.heap.size W W') : TxRd W' v l := by
  obtain ⟨a, cap, hv, hc⟩ := h
  refine ⟨a, cap, hv, fun hl => ?_⟩
  obtain ⟨b, o, h1, h2, h3⟩ := hc hl
  exact ⟨b, o, h1, Nat.lt_of_lt_of_le h2 hb.size, fun k x hx => (hb.cell (p := ⟨b, o + k, none⟩) h2).trans (h3 k x hx)⟩

set_option maxRecDepth 100000 in
set_option maxHeartbeats 8000000 in
theorem same_texts (a b : Value) (gs : List (List UInt8)) (w : World) (ha : TxRd w a gs) (hb : TxRd w b gs) (hn : gs.length ≤ 100000) :
    Calls Tryd.prog 19 #[a, b] w fun e w' => e = .returned (.bool true) ∧ Below w.heap.size w w' := by
  obtain ⟨a, ca, rfl, ha⟩ := ha
  obtain ⟨b, cb, rfl, hb⟩ := hb
  obtain ⟨N, hN⟩ : ∃ N, gs.length = N := ⟨_, rfl⟩
  have HN := Lib.hid hN
  rw [hN] at hn ⊢
  have Ha := Lib.hid ha
  have Hb := Lib.hid hb
  have z1 : ((N : Int) != (N : Int)) = false := by simp
  clear ha hb hN
  go_enter Tryd.func19, Tryd.ntmps19
  go_wp2
  go_loopw [5] (fun i wr => ∃ k : Nat, i = .int .i64 k ∧ k ≤ N ∧ Below w.heap.size w wr) (fun i _ => N - (intOf i).toNat)
  case atStart => exact ⟨0, rfl, Nat.zero_le _, Below.refl _ _⟩
  case round =>
    obtain ⟨k, rfl, hk, hB⟩ := hrel
    by_cases hlt : k < N
    · have hlt2 : decide ((k : Int) < (N : Int)) = true := by simp; omega
      have hlt3 : decide (k < N) = true := by simp; omega
      have hkt : k < gs.length := by rw [HN.out]; exact hlt
      obtain ⟨p, o, rfl, hp, hat⟩ := Ha.out (by omega)
      obtain ⟨p', o', rfl, hp', hat'⟩ := Hb.out (by omega)
      obtain ⟨x, hx⟩ : ∃ x, gs[k]? = some x := ⟨_, List.getElem?_eq_getElem hkt⟩
      have c0 := (hB.cell (p := ⟨p, o + k, none⟩) hp).trans (hat k x hx)
      have g0 := (hB.cell (p := ⟨p', o' + k, none⟩) hp').trans (hat' k x hx)
      have hi0 : (0 : Int) ≤ (k : Int) := by omega
      clear hat hat' hx
      go_wp2
      go_quiet (fail)
      go_wp2
      go_roundw
      case rel => exact ⟨k + 1, by go_num, by omega, hB.trans ⟨rfl, rfl, rfl, Nat.le_refl _, fun _ _ => rfl⟩⟩
      case measure => simp [intOf]; omega
    · have hlt2 : decide ((k : Int) < (N : Int)) = false := by simp; omega
      have hlt3 : decide (k < N) = false := by simp; omega
      go_wp2
      go_ret
      exact ⟨rfl, hB⟩

/-- The document's list. -/
def refL : List (List UInt8) := [0, 19, 11, 14, 12, 22, 5, 16, 23, 10, 20, 9, 8, 7, 2, 6, 13, 21, 3, 4, 18, 15, 17, 1].map fun k => Nm.byN (nameN k)
def strs2 (l : List (List UInt8)) : List Value := l.map fun x => .string ⟨x.toArray⟩
set_option maxRecDepth 100000 in
set_option maxHeartbeats 8000000 in
theorem rNames_any (w : World) : Calls Tryd.prog 20 #[] w fun e w' => e = .returned (.slice (some ⟨w.heap.size, 0, none⟩) 24 24) ∧ w' = w.alloc (.cells (strs2 refL).toArray 9) := by
  go_enter Tryd.func20, Tryd.ntmps20
  go_wp2
  go_ret
  exact ⟨rfl, rfl⟩
theorem rNames_rd (w : World) : Calls Tryd.prog 20 #[] w fun e w' => ∃ v, e = .returned v ∧ TxRd w' v refL ∧ Below w.heap.size w w' :=
  (rNames_any w).mono (by
    rintro e w' ⟨rfl, rfl⟩
    refine ⟨_, rfl, ⟨_, 24, rfl, fun _ => ⟨w.heap.size, 0, rfl, by simp, fun k x hx => ?_⟩⟩, (Below.refl _ _).alloc (Nat.le_refl _) _⟩
    have h := (Blk.new w (strs2 refL).toArray 9).cell k
    rw [Nat.zero_add, h]
    simp [strs2, hx])

theorem namesA_nodup : (Nm.namesA.map Nm.byN).Nodup := by decide +kernel
theorem namesO_nodup : (Nm.namesO.map Nm.byN).Nodup := by decide +kernel
theorem names_lt (k : Nat) : ∀ c ∈ nameN k, c < 256 := Tab.name_lt k
theorem namesA_lt : ∀ n ∈ Nm.namesA, ∀ c ∈ n, c < 256 := fun n hn => by
  obtain ⟨k, _, rfl⟩ := List.mem_map.1 hn; exact names_lt k
theorem namesO_lt : ∀ n ∈ Nm.namesO, ∀ c ∈ n, c < 256 := fun n hn => by
  obtain ⟨k, _, rfl⟩ := List.mem_map.1 hn; exact names_lt _
theorem name_len (k : Nat) : (nameN k).length ≤ 100 := by unfold nameN; split <;> simp
theorem tableK (w : World) : Calls Tryd.prog 25 #[] w fun e w' => ∃ b, ∃ D0 : DataW Unit, e = .returned (.map (some b)) ∧ Below w.heap.size w w' ∧ w'.ownsMap Tryd.prog 9 Nm.Rany b 100 D0 ∧ (strKeys D0).Perm (Nm.namesA.map Nm.byN) ∧ Go.Maps.size D0 = Nm.namesA.length :=
  Nm.keys_made (F := 25) Nm.runsA namesA_nodup namesA_lt (fun n hn => by obtain ⟨k, _, rfl⟩ := List.mem_map.1 hn; exact name_len k) (by decide +kernel) w
theorem othersK (w : World) : Calls Tryd.prog 27 #[] w fun e w' => ∃ b, ∃ D0 : DataW Unit, e = .returned (.map (some b)) ∧ Below w.heap.size w w' ∧ w'.ownsMap Tryd.prog 9 Nm.Rany b 100 D0 ∧ (strKeys D0).Perm (Nm.namesO.map Nm.byN) ∧ Go.Maps.size D0 = Nm.namesO.length :=
  Nm.keys_made (F := 27) Nm.runsO namesO_nodup namesO_lt (fun n hn => by obtain ⟨k, _, rfl⟩ := List.mem_map.1 hn; exact name_len _) (by decide +kernel) w
theorem sorted_ref : (Nm.namesA.map Nm.byN ++ Nm.namesO.map Nm.byN).mergeSort (fun x y => decide (x ≤ y)) = refL := by
  rw [mergeSort_of_perm (show (Nm.namesA.map Nm.byN ++ Nm.namesO.map Nm.byN).Perm refL by decide +kernel)]
  exact List.mergeSort_of_pairwise (by decide +kernel)
theorem owned_later {w W : World} {b nn : Nat} {D0 : DataW Unit} {R : Value → Option (DataW Unit × List MemPlace)} (h : w.ownsMap Tryd.prog 9 R b nn D0) (hW : Below w.heap.size w W) : W.ownsMap Tryd.prog 9 R b nn D0 := by
  have hbl := h.lt
  obtain ⟨es, clock, hb, Ft, hs, hD⟩ := h
  exact ⟨es, clock, (hW.block b hbl).trans hb, Ft, hs, hD⟩
end Go.Proofs.YtmgfgkikeflenaaDoor
