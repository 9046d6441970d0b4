/- The contract of Shape on a sound heap. -/
import Derived.Test.YtlmljommgmbckaaHsI
namespace Go.Proofs.Ytlmljommgmbckaa
open Go.RowKit
set_option linter.unusedSimpArgs false

def flatO (l : List (ObjS × Value)) : List Value := l.flatMap fun x => [.int .i64 x.1.k, .int .i64 x.1.i, x.2]
theorem flatO_len (l : List (ObjS × Value)) : (flatO l).length = l.length * 3 := by
  induction l with
  | nil => rfl
  | cons x xs ih => simp only [flatO, List.flatMap_cons, List.length_append, List.length_cons, List.length_nil] at ih ⊢; omega
theorem flatO_append (a b : List (ObjS × Value)) : flatO (a ++ b) = flatO a ++ flatO b := by simp [flatO]
theorem flatO_get (l : List (ObjS × Value)) (i : Nat) (x : ObjS × Value) (h : l[i]? = some x) : (flatO l)[i * 3]? = some (.int .i64 x.1.k) ∧ (flatO l)[i * 3 + 1]? = some (.int .i64 x.1.i) ∧ (flatO l)[i * 3 + 2]? = some x.2 := by
  induction l generalizing i with
  | nil => simp at h
  | cons y ys ih =>
    cases i with
    | zero => simp at h; subst h; simp [flatO]
    | succ i =>
      have := ih i (by simpa using h)
      rw [show (i + 1) * 3 = i * 3 + 1 + 1 + 1 by omega]
      simpa [flatO] using this
/-- A slice that reads as these objects; all of it lies behind base. -/
def ObjsAt (W : World) (base : Nat) (v : Value) (xs : List (ObjS × Value)) : Prop :=
  ∃ (a : Option Addr) (cap : Nat), v = .slice a xs.length cap ∧ xs.length ≤ cap ∧ (0 < xs.length → ∃ b o, a = some ⟨b, o, none⟩ ∧ b < W.heap.size ∧ base ≤ b ∧ ∀ i x, xs[i]? = some x → W.cell? ⟨b, o + i * 3, none⟩ = some (.int .i64 x.1.k) ∧ W.cell? ⟨b, o + i * 3 + 1, none⟩ = some (.int .i64 x.1.i) ∧ W.cell? ⟨b, o + i * 3 + 2, none⟩ = some x.2) ∧ ∀ x ∈ xs, WAt W x.2 x.1.ws ∧ ∀ k, 0 < x.1.ws.length → x.2.ownBlock = some k → base ≤ k
theorem ObjsAt.off {S : Nat → Prop} {W W' : World} {base : Nat} {v : Value} {xs : List (ObjS × Value)} (h : ObjsAt W base v xs) (hb : Off S W W') (hS : ∀ k, S k → k < base) : ObjsAt W' base v xs := by
  obtain ⟨a, cap, hv, hcap, hc, ho⟩ := h
  refine ⟨a, cap, hv, hcap, fun hl => ?_, fun x hx => ⟨(ho x hx).1.off0 hb (fun hl k hk hs => ?_), (ho x hx).2⟩⟩
  · obtain ⟨b, o, h1, h2, h4, h3⟩ := hc hl
    have hh : ∀ j, W'.cell? ⟨b, j, none⟩ = W.cell? ⟨b, j, none⟩ := fun j => World.cell?_of_block (hb.block b h2 (fun hs => by have := hS b hs; omega))
    exact ⟨b, o, h1, Nat.lt_of_lt_of_le h2 hb.size, h4, fun i x hx => ⟨(hh _).trans (h3 i x hx).1, (hh _).trans (h3 i x hx).2.1, (hh _).trans (h3 i x hx).2.2⟩⟩
  · have h1 := (ho x hx).2 k hl hk
    have h2 := hS k hs
    omega
theorem ObjsAt.below {W W' : World} {base : Nat} {v : Value} {xs : List (ObjS × Value)} (h : ObjsAt W base v xs) (hb : Below W.heap.size W W') : ObjsAt W' base v xs := h.off (S := fun _ => False) (Off.of_below hb) (fun _ h => h.elim)
theorem objs_of_own {W : World} {base : Nat} {p : Option Addr} {c : Nat} {xs : List (ObjS × Value)} (h : W.ownsRow base 41 3 (.slice p xs.length c) xs.length (flatO xs)) (ho : ∀ x ∈ xs, WAt W x.2 x.1.ws ∧ ∀ k, 0 < x.1.ws.length → x.2.ownBlock = some k → base ≤ k) : ObjsAt W base (.slice p xs.length c) xs := by
  rcases h.2 with ⟨e, h0⟩ | ⟨g, cap, cur, e, hg, hb, hcp, _⟩
  · exact ⟨p, c, rfl, by omega, fun hl => by omega, ho⟩
  · have hc := h.cells (g := g) (by rw [e]; rfl)
    simp only [Value.slice.injEq, true_and] at e
    obtain ⟨rfl, rfl⟩ := e
    refine ⟨_, c, rfl, hcp, fun hl => ⟨g, 0, rfl, (Array.getElem?_eq_some_iff.1 hb).1, hg, fun i x hx => ?_⟩, ho⟩
    obtain ⟨q1, q2, q3⟩ := flatO_get xs i x hx
    have ad : ∀ j, (⟨g, 0, none⟩ : Addr).add j = ⟨g, j, none⟩ := fun j => by unfold Addr.add; split <;> simp_all
    have r1 := hc _ _ q1
    have r2 := hc _ _ q2
    have r3 := hc _ _ q3
    rw [ad] at r1 r2 r3
    simpa using ⟨r1, r2, r3⟩
theorem infoO : (Try.prog.info? 41).map (fun i => (i.zero, i.size, i.bytes)) = some (some (.agg #[.int .i64 0, .int .i64 0, .slice none 0 0]), 3, 40) := by kernel_rfl
def lenV : Value → Nat
  | .slice _ n _ => n
  | _ => 0

/-- What Shape's loop keeps of the objects that are told. -/
structure OutI (W : World) (base : Nat) (v : Value) (xs : List (ObjS × Value)) (sb mb : Nat) (qv : Value) : Prop where
  own : W.ownsRow base 41 3 v xs.length (flatO xs)
  ap : ∀ k, v.ownBlock = some k → ¬ SFoot sb mb qv k
  ws : ∀ x ∈ xs, WAt W x.2 x.1.ws
  wa : ∀ x ∈ xs, ∀ k, 0 < x.1.ws.length → x.2.ownBlock = some k → ¬ SFoot sb mb qv k ∧ v.ownBlock ≠ some k ∧ base ≤ k
theorem wat_lt {W : World} {v : Value} {ws : List Wd} (h : WAt W v ws) (hl : 0 < ws.length) (k : Nat) (hk : v.ownBlock = some k) : k < W.heap.size := by
  obtain ⟨a, cap, rfl, hc⟩ := h
  obtain ⟨b, o, rfl, h2, _⟩ := hc hl
  cases hk
  exact h2

set_option maxRecDepth 100000 in
set_option maxHeartbeats 4000000 in
theorem shape_no {w : World} {b : Nat} {L : HL} {gb : Nat} {H : HS} {gl : List Wd} (G : GHeap w b L gb H gl) (p : Option Addr) (m c : Nat) (us : List Wd) (hm : us.length = m) (hu : WAt w (.slice p m c) us) (hr : Ranged us) (hv : p = none → c = 0) (hl : m ≤ 1000000) (hng : H.ng ≤ 1000000) (hs : us.all (fun x => standsK H x.1 x.2) = false) :
    Calls Try.prog 27 #[.pointer (some ⟨b, 0, none⟩), .slice p m c] w fun e w' => e = .returned (.tuple #[.slice none 0 0, .int .i64 13]) ∧ Below w.heap.size w w' := by
  have kc := check_any b L gb H gl w G p m c us hm hu hr hv (by omega) (by omega)
  rw [hs] at kc
  have KC := Lib.hid kc
  clear kc hs hr hu hv hm G
  go_enter Try.func27, Try.ntmps27
  go_wp2_with (go_at_call 24; with_reducible refine (KC.out).mono ?_; rintro e w1 ⟨rfl, hb1⟩)
  exact bodyPost_ret (v := .tuple #[.slice none 0 0, .int .i64 13]) (by simp [results, Try.results27, go_sem]) rfl ⟨rfl, hb1⟩

end Go.Proofs.Ytlmljommgmbckaa
