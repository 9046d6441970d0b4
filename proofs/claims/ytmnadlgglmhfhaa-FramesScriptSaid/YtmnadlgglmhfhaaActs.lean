/- Calls of a stack in memory (acts), read alone; the contract of thunkmilllaw24.small; append of words to an empty list of one's own. Conditions: lengths at most maxLen. -/
import Derived.Test.YtmnadlgglmhfhaaPop2
namespace Go.Proofs.Ytmnadlgglmhfhaa
open Go.RowKit

structure ActD where
  k : Int
  f : FrD
  vw : Value
  vd : Value
  va : Value
  la : Nat

def ActD.cells (x : ActD) : List Value := [.int .i64 x.k, .int .i64 x.f.k, .int .i64 x.f.o, .int .i64 x.f.n, .string x.f.s, x.vw, x.vd, x.va]

structure ActOk (W : World) (x : ActD) : Prop where
  w : WAt W x.vw x.f.ws
  d : WAt W x.vd x.f.ds
  a : ∃ p c, x.va = .slice p x.la c
  nw : x.f.ws.length ≤ 140737488355328
  nd : x.f.ds.length ≤ 140737488355328
  ns : x.f.s.size ≤ 140737488355328
  sw : x.vw = .slice none 0 0 ∨ ∃ p n c, x.vw = .slice (some p) n c
  sd : x.vd = .slice none 0 0 ∨ ∃ p n c, x.vd = .slice (some p) n c

def ActsAt (W : World) (v : Value) (xs : List ActD) : Prop :=
  ∃ (a : Option Addr) (cap : Nat), v = .slice a xs.length cap ∧ (0 < xs.length → ∃ b o, a = some ⟨b, o, none⟩ ∧ b < W.heap.size ∧ ∀ i x, xs[i]? = some x → ∀ j c, x.cells[j]? = some c → W.cell? ⟨b, o + i * 8 + j, none⟩ = some c) ∧ ∀ x ∈ xs, ActOk W x

theorem ActOk.below {B : Nat} {W W' : World} {x : ActD} (h : ActOk W x) (hb : Below B W W') (hB : W.heap.size ≤ B) : ActOk W' x :=
  ⟨h.w.below hb hB, h.d.below hb hB, h.a, h.nw, h.nd, h.ns, h.sw, h.sd⟩
theorem ActsAt.below {B : Nat} {W W' : World} {v : Value} {xs : List ActD} (h : ActsAt W v xs) (hb : Below B W W') (hB : W.heap.size ≤ B := by exact Nat.le_refl _) : ActsAt W' v xs := by
  obtain ⟨a, cap, hv, hc, ho⟩ := h
  refine ⟨a, cap, hv, fun hl => ?_, fun x hx => (ho x hx).below hb hB⟩
  obtain ⟨b, o, h1, h2, h3⟩ := hc hl
  exact ⟨b, o, h1, Nat.lt_of_lt_of_le h2 hb.size, fun i x hx j c hj => (hb.cell (p := ⟨b, o + i * 8 + j, none⟩) (by show b < B; omega)).trans (h3 i x hx j c hj)⟩

def smallA (x : ActD) : Bool := !(decide (200 < x.f.ws.length + x.f.ds.length) || decide (5000 < x.f.s.size) || decide (20000 < x.la))
def smallL (xs : List ActD) : Bool := xs.all smallA && decide (xs.length ≤ 100)

theorem small_no (xs : List ActD) (k : Nat) (x : ActD) (h : xs[k]? = some x) (hx : smallA x = false) : smallL xs = false := by
  unfold smallL
  rw [Bool.and_eq_false_iff]
  left
  rw [List.all_eq_false]
  exact ⟨x, List.mem_of_getElem? h, by simp [hx]⟩
theorem small_all (xs : List ActD) (N : Nat) (hN : xs.length = N) (h : ∀ j x, j < N → xs[j]? = some x → smallA x = true) : smallL xs = decide ((N : Int) ≤ 100) := by
  unfold smallL
  have : xs.all smallA = true := by
    rw [List.all_eq_true]
    intro x hx
    obtain ⟨j, hj, rfl⟩ := List.getElem_of_mem hx
    exact h j _ (by omega) (List.getElem?_eq_getElem hj)
  rw [this, hN]
  simp
  omega

set_option maxRecDepth 100000 in
set_option maxHeartbeats 4000000 in
theorem small_any (v : Value) (xs : List ActD) (w : World) (h : ActsAt w v xs) (hl : xs.length ≤ 1000000000000000) :
    Calls Try.prog 9 #[v] w fun e w' => e = .returned (.bool (smallL xs)) ∧ Below w.heap.size w w' := by
  obtain ⟨a, cap, rfl, hc, ho⟩ := h
  obtain ⟨N, hN⟩ : ∃ n, xs.length = n := ⟨_, rfl⟩
  have HN := Lib.hid hN
  rw [hN] at hc hl ⊢
  have Hc := Lib.hid hc; have Ho := Lib.hid ho
  clear hc ho hN
  go_enter Try.func9, Try.ntmps9
  go_wp2
  go_loopw [3] (fun i wr => ∃ k : Nat, i = .int .i64 k ∧ k ≤ N ∧ (∀ j x, j < k → xs[j]? = some x → smallA x = true) ∧ Below w.heap.size w wr) (fun i _ => N - (intOf i).toNat)
  case atStart => exact ⟨0, rfl, Nat.zero_le _, fun j x hj => by omega, Below.refl _ _⟩
  case round =>
    obtain ⟨k, rfl, hk, hs, hb⟩ := hrel
    have Hs := Lib.hid hs
    clear hs
    by_cases hlt : k < N
    · obtain ⟨b, o, rfl, s1, q1⟩ := Hc.out (by omega)
      obtain ⟨x, hx⟩ : ∃ x, xs[k]? = some x := ⟨xs[k]'(by rw [HN.out]; exact hlt), List.getElem?_eq_getElem _⟩
      have hxm : x ∈ xs := List.mem_of_getElem? hx
      obtain ⟨⟨aw, cw, e1, _⟩, ⟨ad, cd, e2, _⟩, ⟨pa, ca, e3⟩, nw, nd, ns, _, _⟩ := Ho.out x hxm
      have q := q1 k x hx
      have Hx := Lib.hid hx
      obtain ⟨x0, ⟨fk, fo, fn, fs, fws, fds⟩, vw, vd, va, la⟩ := x
      dsimp only at e1 e2 e3 nw nd ns
      subst e1; subst e2; subst e3
      obtain ⟨lw, hlw⟩ : ∃ l, fws.length = l := ⟨_, rfl⟩
      obtain ⟨ld, hld⟩ : ∃ l, fds.length = l := ⟨_, rfl⟩
      have r4 := (hb.cell (p := ⟨b, o + k * 8 + 4, none⟩) s1).trans (q 4 _ rfl)
      have r5 := (hb.cell (p := ⟨b, o + k * 8 + 5, none⟩) s1).trans (q 5 _ rfl)
      have r6 := (hb.cell (p := ⟨b, o + k * 8 + 6, none⟩) s1).trans (q 6 _ rfl)
      have r7 := (hb.cell (p := ⟨b, o + k * 8 + 7, none⟩) s1).trans (q 7 _ rfl)
      have hsm : smallA ⟨x0, ⟨fk, fo, fn, fs, fws, fds⟩, .slice aw fws.length cw, .slice ad fds.length cd, .slice pa la ca, la⟩ = !(decide (200 < lw + ld) || decide (5000 < fs.size) || decide (20000 < la)) := by subst hlw; subst hld; rfl
      rw [hlw] at r5 nw
      rw [hld] at r6 nd
      have Hsm := Lib.hid hsm
      have hwr : IntKind.i64.wrap ((lw : Int) + (ld : Int)) = (lw : Int) + (ld : Int) := IntWalk.i64_in _ (by omega)
      have hltI : (k : Int) < (N : Int) := by omega
      clear q q1 hsm hxm hx hlw hld
      have hno : smallA ⟨x0, ⟨fk, fo, fn, fs, fws, fds⟩, .slice aw fws.length cw, .slice ad fds.length cd, .slice pa la ca, la⟩ = false → smallL xs = false := fun e => small_no xs k _ Hx.out e
      have Hno := Lib.hid hno
      clear hno
      by_cases c1 : 200 < lw + ld
      · have d1 : decide ((200 : Int) < (lw : Int) + (ld : Int)) = true := by simp; omega
        go_wp2
        go_quiet (fail)
        go_wp2
        go_ret
        exact ⟨by rw [Hno.out (by rw [Hsm.out]; simp [c1])]; rfl, below_drewN hb _⟩
      by_cases c2 : 5000 < fs.size
      · have d1 : decide ((200 : Int) < (lw : Int) + (ld : Int)) = false := by simp; omega
        have d2 : decide ((5000 : Int) < (fs.size : Int)) = true := by simp; omega
        go_wp2
        go_quiet (fail)
        go_wp2
        go_ret
        exact ⟨by rw [Hno.out (by rw [Hsm.out]; simp [c2])]; rfl, below_drewN hb _⟩
      by_cases c3 : 20000 < la
      · have d1 : decide ((200 : Int) < (lw : Int) + (ld : Int)) = false := by simp; omega
        have d2 : decide ((5000 : Int) < (fs.size : Int)) = false := by simp; omega
        have d3 : decide ((20000 : Int) < (la : Int)) = true := by simp; omega
        go_wp2
        go_quiet (fail)
        go_wp2
        go_ret
        exact ⟨by rw [Hno.out (by rw [Hsm.out]; simp [c3])]; rfl, below_drewN hb _⟩
      have d1 : decide ((200 : Int) < (lw : Int) + (ld : Int)) = false := by simp; omega
      have d2 : decide ((5000 : Int) < (fs.size : Int)) = false := by simp; omega
      have d3 : decide ((20000 : Int) < (la : Int)) = false := by simp; omega
      go_wp2
      go_quiet (fail)
      go_wp2
      go_roundw
      case rel =>
        refine ⟨k + 1, by go_num, by omega, fun j y hj hy => ?_, below_drewN hb _⟩
        by_cases e : j = k
        · subst e
          rw [Hx.out] at hy
          cases hy
          rw [Hsm.out]
          simp [c1, c2, c3]
        · exact Hs.out j y (by omega) hy
      case measure => simp [intOf]; omega
    · have e : smallL xs = decide ((N : Int) ≤ 100) := small_all xs N HN.out (fun j x hj => Hs.out j x (by omega))
      have He := Lib.hid e
      clear e
      go_wp2
      go_ret
      exact ⟨by rw [He.out]; rfl, hb⟩

/-- append of words that can be read to an empty list of one's own. -/
theorem append_words {P : Program} {w : World} {ops : Array Oper} {rest : List Oper} {o : Oper} {a : Act} {Q : Exit → Act → World → Prop} (hgd : o.guard = none) (s x : Operand) (t : TypeId)
    (ho : o.op = .call { callee := .builtin .append, args := #[s, x], argTypes := #[t, t] }) (i : TypeInfo) (ht : P.underlying t = some (.slice 38)) (hi : P.info? 38 = some i)
    (hz : i.zero = some (.agg #[.int .i64 0, .int .i64 0])) (hsize : i.size = 2) (hby : i.bytes = 16) (base g : Nat) (hs : a.eval s = .slice (some ⟨g, 0, none⟩) 0 0) (hown : w.ownsRow base 38 2 (.slice (some ⟨g, 0, none⟩) 0 0) 0 [])
    (hbase : base ≤ w.heap.size) (v : Value) (hx : a.eval x = v) (ws : List Wd) (hw : WAt w v ws) (hv : v = .slice none 0 0 ∨ ∃ p n c, v = .slice (some p) n c) (hl : ws.length ≤ 1000000000000)
    (h : ∀ v' w', WOwn w' base v' ws → w.grownBy w' (some g) → (∃ p c, v' = .slice p ws.length c) → wpList P ops Q rest (a.put o.dst v') w') : wpList P ops Q (o :: rest) a w := by
  have hg0 : w.grownBy w (some g) := World.grownBy.refl _ _
  rcases hv with rfl | ⟨p, n, c, rfl⟩
  · obtain ⟨_, _, e, _⟩ := hw
    have hw0 : ws = [] := by
      simp only [Value.slice.injEq] at e
      exact List.length_eq_zero_iff.1 e.2.1.symm
    subst hw0
    exact wpList_append_own_none hgd s x t ho base 38 i 2 ht hi _ 0 [] hs hown hx (h _ w hown hg0 ⟨_, _, rfl⟩)
  · obtain ⟨a', cap, e, hc⟩ := hw
    simp only [Value.slice.injEq] at e
    obtain ⟨rfl, rfl, rfl⟩ := e
    refine wpList_append_own _ hgd s x t ho base 38 i _ 2 16 ht hi hz hsize hby rfl (by decide) _ 0 [] hs hown p ws.length c (flat ws) hx (flat_len ws) (fun j u hj => ?_) (flat_one ws) (by unfold maxLen; omega) (by omega) hbase (fun v' w' h1 h2 _ => ?_)
    · have hlt : 0 < ws.length := by
        rcases ws with _ | ⟨x, xs⟩
        · simp [flat] at hj
        · simp
      obtain ⟨b, o, hh, h2, h3⟩ := hc hlt
      cases hh
      have := h3 j u hj
      cases j with
      | zero => simpa [Addr.add] using this
      | succ j => simpa [Addr.add] using this
    · have h1' : WOwn w' base v' ws := by simpa using h1
      exact h v' w' h1' h2 (own_shape h1')

end Go.Proofs.Ytmnadlgglmhfhaa
