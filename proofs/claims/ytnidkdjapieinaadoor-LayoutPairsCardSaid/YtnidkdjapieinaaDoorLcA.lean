/- Tokens of any kind in memory; an argument that is a list of them, opened. Tokens that are the same (kit). -/
import Derived.Test.YtnidkdjapieinaaDoorLxU
import Derived.Deep.Slices
import Derived.Deep.Fields
import Derived.ChangeArms
import Derived.SizedLaws
import Derived.Deep.Strs
import Derived.BigQuiet
namespace Go.Proofs.YtnidkdjapieinaaDoor
open Go.RowKit Go.Shelf Go.Deep Go.ChangeShapes
set_option linter.unusedSimpArgs false

structure GT where
  kind : Int
  text : ByteArray
  num : Int
  at_ : Int
  line : Int
  col : Int
  first : Bool
instance : Inhabited GT := ⟨⟨0, ⟨#[]⟩, 0, 0, 0, 0, false⟩⟩
def GT.cells (x : GT) : List Value := [.int .i64 x.kind, .string x.text, .int .i64 x.num, .int .i64 x.at_, .int .i64 x.line, .int .i64 x.col, .bool x.first]
def GT.ok (x : GT) : Prop := x.num ≤ 9223372036854775807 ∧ x.text.size ≤ 140737488355328
/-- A slice that reads as these tokens. -/
def GRd (W : World) (v : Value) (gs : List GT) : Prop :=
  ∃ (a : Option Addr) (cap : Nat), v = .slice a gs.length cap ∧ (0 < gs.length → ∃ b o, a = some ⟨b, o, none⟩ ∧ b < W.heap.size ∧ ∀ k x, gs[k]? = some x → ∀ j c, x.cells[j]? = some c → W.cell? ⟨b, o + k * 7 + j, none⟩ = some c)
theorem GRd.below {W W' : World} {v : Value} {gs : List GT} (h : GRd W v gs) (hb : Below W.heap.size W W') : GRd W' v gs := by
  obtain ⟨a, cap, hv, hc⟩ := h
  refine ⟨a, cap, hv, fun hl => ?_⟩
  obtain ⟨b, o, h1, h2, h3⟩ := hc hl
  exact ⟨b, o, h1, Nat.lt_of_lt_of_le h2 hb.size, fun k x hx j c hj => (hb.cell (p := ⟨b, o + k * 7 + j, none⟩) h2).trans (h3 k x hx j c hj)⟩

end Go.Proofs.YtnidkdjapieinaaDoor

namespace Go.Proofs.YtnidkdjapieinaaDoor
open Go.RowKit Go.Shelf
set_option linter.unusedSimpArgs false

set_option maxRecDepth 100000 in
set_option maxHeartbeats 8000000 in
theorem same_toks (a b : Value) (gs : List GT) (w : World) (ha : GRd w a gs) (hb : GRd w b gs) (hn : gs.length ≤ 100000) :
    Calls Tryd.prog 9 #[a, b] w fun e w' => e = .returned (.bool true) ∧ Below w.heap.size w w' := by
  obtain ⟨a, ca, rfl, ha⟩ := ha
  obtain ⟨b, cb, rfl, hb⟩ := hb
  obtain ⟨N, hN⟩ : ∃ N, gs.length = N := ⟨_, rfl⟩
  have HN := Lib.hid hN
  rw [hN] at hn ⊢
  have Ha := Lib.hid ha
  have Hb := Lib.hid hb
  have z1 : ((N : Int) != (N : Int)) = false := by simp
  clear ha hb hN
  go_enter Tryd.func9, Tryd.ntmps9
  go_wp2
  go_loopw [5] (fun i wr => ∃ k : Nat, i = .int .i64 k ∧ k ≤ N ∧ Below w.heap.size w wr) (fun i _ => N - (intOf i).toNat)
  case atStart => exact ⟨0, rfl, Nat.zero_le _, Below.refl _ _⟩
  case round =>
    obtain ⟨k, rfl, hk, hB⟩ := hrel
    by_cases hlt : k < N
    · have hlt2 : decide ((k : Int) < (N : Int)) = true := by simp; omega
      have hlt3 : decide (k < N) = true := by simp; omega
      have hkt : k < gs.length := by rw [HN.out]; exact hlt
      obtain ⟨p, o, rfl, hp, hat⟩ := Ha.out (by omega)
      obtain ⟨p', o', rfl, hp', hat'⟩ := Hb.out (by omega)
      obtain ⟨x, hx⟩ : ∃ x, gs[k]? = some x := ⟨_, List.getElem?_eq_getElem hkt⟩
      have ha := fun j c hc => (hB.cell (p := ⟨p, o + k * 7 + j, none⟩) hp).trans (hat k x hx j c hc)
      have hb := fun j c hc => (hB.cell (p := ⟨p', o' + k * 7 + j, none⟩) hp').trans (hat' k x hx j c hc)
      have c0 := ha 0 _ rfl
      have c1 := ha 1 _ rfl
      have c2 := ha 2 _ rfl
      have c3 := ha 3 _ rfl
      have c4 := ha 4 _ rfl
      have c5 := ha 5 _ rfl
      have c6 := ha 6 _ rfl
      have g0 := hb 0 _ rfl
      have g1 := hb 1 _ rfl
      have g2 := hb 2 _ rfl
      have g3 := hb 3 _ rfl
      have g4 := hb 4 _ rfl
      have g5 := hb 5 _ rfl
      have g6 := hb 6 _ rfl
      rw [Nat.add_zero] at c0 g0
      clear ha hb hat hat' hx
      go_wp2
      go_quiet (fail)
      go_wp2
      go_roundw
      case rel => exact ⟨k + 1, by go_num, by omega, below_drewN hB _⟩
      case measure => simp [intOf]; omega
    · have hlt2 : decide ((k : Int) < (N : Int)) = false := by simp; omega
      have hlt3 : decide (k < N) = false := by simp; omega
      go_wp2
      go_ret
      exact ⟨rfl, hB⟩
theorem TRd.gen {W : World} {v : Value} {ts : List Tp} (h : TRd W v ts) : GRd W v (ts.map fun x => ⟨x.t.kind, ⟨x.t.text.toArray⟩, x.t.num, x.at_, x.line, x.col, x.first⟩) := by
  obtain ⟨a, cap, rfl, hc⟩ := h
  refine ⟨a, cap, by rw [List.length_map], fun hl => ?_⟩
  obtain ⟨b, rfl, hb, hat⟩ := hc (by simpa using hl)
  refine ⟨b, 0, rfl, hb, fun k x hx j c hj => ?_⟩
  rw [List.getElem?_map] at hx
  have hk : k < ts.length := by
    rcases Nat.lt_or_ge k ts.length with h | h
    · exact h
    · rw [List.getElem?_eq_none h] at hx; cases hx
  rw [List.getElem?_eq_getElem hk] at hx
  cases hx
  have h := hat k hk
  rw [Nat.zero_add]
  have hj7 : j < 7 := by
    have := (List.getElem?_eq_some_iff.1 hj).1
    simpa [GT.cells] using this
  match j, hj7 with
  | 0, _ => cases hj; exact h.kind
  | 1, _ => cases hj; exact h.text
  | 2, _ => cases hj; exact h.num
  | 3, _ => cases hj; exact h.at_
  | 4, _ => cases hj; exact h.line
  | 5, _ => cases hj; exact h.col
  | 6, _ => cases hj; exact h.first
end Go.Proofs.YtnidkdjapieinaaDoor
