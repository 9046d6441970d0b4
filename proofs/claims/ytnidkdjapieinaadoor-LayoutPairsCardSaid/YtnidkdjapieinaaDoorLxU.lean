/- Tokens in memory, read. -/
import Derived.Test.YtnidkdjapieinaaDoorLxT
namespace Go.Proofs.YtnidkdjapieinaaDoor
open Go.RowKit Go.Shelf
set_option linter.unusedSimpArgs false

/-- A token lies at a place. -/
structure TokAt (W : World) (b o : Nat) (x : Tp) : Prop where
  kind : W.cell? ⟨b, o, none⟩ = some (.int .i64 x.t.kind)
  text : W.cell? ⟨b, o + 1, none⟩ = some (.string ⟨x.t.text.toArray⟩)
  num : W.cell? ⟨b, o + 2, none⟩ = some (.int .i64 x.t.num)
  at_ : W.cell? ⟨b, o + 3, none⟩ = some (.int .i64 x.at_)
  line : W.cell? ⟨b, o + 4, none⟩ = some (.int .i64 x.line)
  col : W.cell? ⟨b, o + 5, none⟩ = some (.int .i64 x.col)
  first : W.cell? ⟨b, o + 6, none⟩ = some (.bool x.first)
theorem tflat_get : ∀ (ts : List Tp) (k : Nat) (h : k < ts.length) (j : Nat), j < 7 → (tflat ts)[k * 7 + j]? = (tpC ts[k])[j]?
  | x :: ts, 0, _, j, hj => by
    simp only [tflat, List.flatMap_cons, Nat.zero_mul, Nat.zero_add, List.getElem_cons_zero]
    exact List.getElem?_append_left (by simpa [tpC] using hj)
  | x :: ts, k + 1, h, j, hj => by
    have e : tflat (x :: ts) = tpC x ++ tflat ts := by simp [tflat]
    rw [e, List.getElem?_append_right (by simp [tpC]; omega)]
    have : (k + 1) * 7 + j - (tpC x).length = k * 7 + j := by simp [tpC]; omega
    rw [this, tflat_get ts k (by simpa using h) j hj]
    rfl
/-- A slice that reads as these tokens. -/
def TRd (W : World) (v : Value) (ts : List Tp) : Prop :=
  ∃ (a : Option Addr) (cap : Nat), v = .slice a ts.length cap ∧ (0 < ts.length → ∃ b, a = some ⟨b, 0, none⟩ ∧ b < W.heap.size ∧ ∀ k (h : k < ts.length), TokAt W b (k * 7) ts[k])
theorem TOwn.rd {W : World} {base : Nat} {v : Value} {ts : List Tp} (h : TOwn W base v ts) : TRd W v ts := by
  have h0 := h
  rcases h.2 with ⟨rfl, h1⟩ | ⟨g, cap, cur, rfl, hg, hb, _⟩
  · exact ⟨none, 0, by rw [h1], fun h => by omega⟩
  · refine ⟨_, cap, rfl, fun _ => ⟨g, rfl, (Array.getElem?_eq_some_iff.1 hb).1, fun k hk => ?_⟩⟩
    have key : ∀ j, j < 7 → ∀ u, (tpC ts[k])[j]? = some u → W.cell? ⟨g, k * 7 + j, none⟩ = some u := by
      intro j hj u hu
      have := h0.cells (g := g) rfl (k * 7 + j) u (by rw [tflat_get ts k hk j hj]; exact hu)
      cases hm : k * 7 + j with
      | zero => rw [hm] at this; simpa [Addr.add] using this
      | succ m => rw [hm] at this; simpa [Addr.add] using this
    exact ⟨key 0 (by omega) _ rfl, key 1 (by omega) _ rfl, key 2 (by omega) _ rfl, key 3 (by omega) _ rfl, key 4 (by omega) _ rfl, key 5 (by omega) _ rfl, key 6 (by omega) _ rfl⟩
theorem TRd.below {W W' : World} {v : Value} {ts : List Tp} (h : TRd W v ts) (hb : Below W.heap.size W W') : TRd W' v ts := by
  obtain ⟨a, cap, hv, hc⟩ := h
  refine ⟨a, cap, hv, fun hl => ?_⟩
  obtain ⟨b, h1, h2, h3⟩ := hc hl
  have key : ∀ o, W'.cell? ⟨b, o, none⟩ = W.cell? ⟨b, o, none⟩ := fun o => hb.cell (p := ⟨b, o, none⟩) h2
  exact ⟨b, h1, Nat.lt_of_lt_of_le h2 hb.size, fun k hk => ⟨(key _).trans (h3 k hk).kind, (key _).trans (h3 k hk).text, (key _).trans (h3 k hk).num, (key _).trans (h3 k hk).at_, (key _).trans (h3 k hk).line, (key _).trans (h3 k hk).col, (key _).trans (h3 k hk).first⟩⟩

theorem allF_sort (l : List UInt8) : ((allF l).1 = (0, 0) ∧ allK l = .ok (allF l).2 ∧ checkF l = (0, 0)) ∨ ((allF l).1.1 ≠ 0 ∧ (allF l).2 = []) := by
  unfold allF
  split
  · rename_i hc
    cases hk : allK l with
    | ok ts => exact .inl ⟨rfl, rfl, hc⟩
    | error i => exact .inr ⟨by simp, rfl⟩
  · rename_i h
    exact .inr ⟨checkF_sort l h, rfl⟩

theorem all_known (s : ByteArray) (hs : s.size ≤ 9223372036854775807) (x : Int × Int) (ts : List Tp) (h1 : (allF s.data.toList).1 = x) (h2 : (allF s.data.toList).2 = ts) (w : World) :
    Calls Tryd.prog 5 #[.string s] w fun e w' => ∃ v, e = .returned (.tuple #[v, .agg #[.int .i64 x.1, .int .i64 x.2]]) ∧ TRd w' v ts ∧ Below w.heap.size w w' := by
  refine (All_any s hs w).mono ?_
  rintro e w' ⟨v, rfl, h, hb⟩
  rw [h1] at *
  rw [h2] at h
  exact ⟨v, rfl, h.rd, hb⟩

theorem placed_len {l : List UInt8} {ss : List (Option Tk × Nat)} (h : Lexes l ss) : ∀ (i : Nat) (p : Nat × Nat) (last : Nat), (placed l ss i p last).length ≤ l.length := by
  induction h with
  | nil => intros; simp [placed]
  | skip hs _ ih => intro i p last; have := (step_skip hs).1; exact Nat.le_trans (ih _ _ _) (by rw [List.length_drop]; omega)
  | @tok l t n ss hs _ ih => intro i p last; have := (step_tok hs).1; have := ih (i + n) (overL p (l.take n)) p.1; rw [List.length_drop] at this; simp only [placed, List.length_cons]; omega
end Go.Proofs.YtnidkdjapieinaaDoor
