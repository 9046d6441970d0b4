/- Contracts of (*frames.Stack).Top and Pop. -/
import Derived.Test.YtmnadlgglmhfhaaPush2
namespace Go.Proofs.Ytmnadlgglmhfhaa
open Go.RowKit
set_option linter.unusedSimpArgs false

theorem own_init {W : World} {base : Nat} {e : TypeId} {size g n cap : Nat} {xs ys : List Value} (h : W.ownsRow base e size (.slice (some ⟨g, 0, none⟩) (n + 1) cap) (n + 1) (xs ++ ys)) (hx : xs.length = n * size) : W.ownsRow base e size (.slice (some ⟨g, 0, none⟩) n cap) n xs := by
  refine ⟨hx, ?_⟩
  rcases h.2 with ⟨h1, _⟩ | ⟨g', cap', cur, h1, h2, h3, h4, h5, h6, h7⟩
  · simp at h1
  · simp at h1
    obtain ⟨rfl, rfl⟩ := h1
    refine .inr ⟨g, cap, cur, rfl, h2, h3, by omega, h5, h6, ?_⟩
    have : cur.toList.take (n * size) = (cur.toList.take ((n + 1) * size)).take (n * size) := by
      rw [List.take_take, Nat.min_eq_left (by rw [Nat.add_mul]; omega)]
    rw [this, h7, ← hx]
    simp

theorem SInv.slice {W : World} {b B lim : Nat} {us : List Row} {u : Row} {vl : Value} (h : SInv W b B lim (us ++ [u]) vl) : ∃ g cap, vl = .slice (some ⟨g, 0, none⟩) (us.length + 1) cap ∧ us.length + 1 ≤ cap := by
  rcases h.row.2 with ⟨_, h2⟩ | ⟨g, cap, cur, h1, _, _, h4, _⟩
  · simp at h2
  · exact ⟨g, cap, by rw [h1]; simp, by simpa using h4⟩

theorem SInv.last {W : World} {b B lim : Nat} {us : List Row} {u : Row} {g cap : Nat} (h : SInv W b B lim (us ++ [u]) (.slice (some ⟨g, 0, none⟩) (us.length + 1) cap)) (i : Nat) (hi : i < 6) : W.cell? ⟨g, us.length * 6 + i, none⟩ = u.cells[i]? := by
  have hx : (flatF (us ++ [u]))[us.length * 6 + i]? = u.cells[i]? := by
    rw [flatF_get (us ++ [u]) us.length (by simp) i hi]
    simp
  have hu : i < u.cells.length := by simpa [Row.cells] using hi
  rw [List.getElem?_eq_getElem hu] at hx ⊢
  have := h.row.cells (g := g) rfl _ _ hx
  rcases hj : us.length * 6 + i with _ | j
  · rw [hj] at this; simpa [Addr.add] using this
  · rw [hj] at this; simpa [Addr.add] using this

theorem SInv.popped {w WF : World} {b B lim : Nat} {us : List Row} {u : Row} {g cap : Nat} (h : SInv w b B lim (us ++ [u]) (.slice (some ⟨g, 0, none⟩) (us.length + 1) cap))
    (hT : Blk WF b #[.int .i64 lim, .int .i64 (takenOf us : Nat), .slice (some ⟨g, 0, none⟩) us.length cap, .bool true]) (hoff : Off (fun i => i = b) w WF) :
    SInv WF b B lim us (.slice (some ⟨g, 0, none⟩) us.length cap) ∧ (∀ k, Foot b (.slice (some ⟨g, 0, none⟩) us.length cap) us k → Foot b (.slice (some ⟨g, 0, none⟩) (us.length + 1) cap) (us ++ [u]) k) := by
  have hta : takenOf (us ++ [u]) = takenOf us + u.f.takes := by rw [takenOf_append, takenOf_one]
  have hr := h.row
  rw [flatF_append, List.length_append] at hr
  have hr2 := own_init (n := us.length) hr (flatF_len us)
  have htk := h.tk
  have hlt := h.lt
  refine ⟨⟨h.lt, Nat.le_trans h.sz hoff.size, hT, hoff.own hr2 (fun k hk e => ?_), fun x hx => ?_, ?_, by omega, h.lm⟩, ?_⟩
  · have := own_from hr2 k hk; omega
  · obtain ⟨q1, q2⟩ := h.wrd x (List.mem_append_left _ hx)
    exact ⟨hoff.own q1 (fun k hk e => by have := own_from q1 k hk; omega), hoff.own q2 (fun k hk e => by have := own_from q2 k hk; omega)⟩
  · have := h.inc
    rw [blksOf_append] at this
    exact (List.pairwise_append.1 this).1
  · intro k hk
    rcases hk with rfl | hk | hk
    · exact .inl rfl
    · exact .inr (.inl hk)
    · exact .inr (.inr (by rw [blksOf_append]; exact List.mem_append_left _ hk))

set_option maxHeartbeats 1000000 in
theorem top_none (b B lim : Nat) (vl : Value) (w : World) (h : SInv w b B lim [] vl) :
    Calls Try.prog 20 #[.pointer (some ⟨b, 0, none⟩)] w fun e w' => e = .returned (.tuple #[.agg #[.int .i64 0, .int .i64 0, .int .i64 0, .string ⟨#[]⟩, .slice none 0 0, .slice none 0 0], .bool false]) ∧ Below w.heap.size w w' := by
  have hS := h.blk
  obtain ⟨a, c, hv⟩ := own_shape h.row
  simp at hv
  subst hv
  clear h
  go_enter Try.func20, Try.ntmps20
  go_upto_region 1 with fail
  generalize hW0 : w.alloc (Obj.cells #[.int .i64 0, .int .i64 0, .int .i64 0, .string ⟨#[]⟩, .slice none 0 0, .slice none 0 0] 32) = W0
  have hbel : Below w.heap.size w W0 := by rw [← hW0]; ((repeat (first | exact Below.refl _ _ | (refine Below.alloc ?_ (by first | (simp [World.setCell]; done) | (simp [World.setCell]; omega)) _) | (refine Below.setCell ?_ (by first | (simp [World.setCell]; done) | (simp [World.setCell]; omega)) _) | refine Below.drew ?_)))
  have B0 : Blk W0 w.heap.size #[.int .i64 0, .int .i64 0, .int .i64 0, .string ⟨#[]⟩, .slice none 0 0, .slice none 0 0] := by rw [← hW0]; exact Blk.new w _ _
  have S0 := hS.below hbel hS.lt
  clear hW0
  go_wp2_with (go_at_call 40; with_reducible refine (none_any b _ _ _ true _ S0).mono ?_; rintro e w1 ⟨rfl, hb1⟩; have S1 := S0.below hb1 S0.lt; have s1 := S1.cell; have B1 := B0.below hb1 B0.lt; have c1 := B1.cell; have f1 := B1.free; have l1 := hbel.trans (hb1.mono hbel.size))
  have E := ((((((Only.refl w.heap.size w1).set 0 (.int .i64 0)).set 1 (.int .i64 0)).set 2 (.int .i64 0)).set 3 (.string ⟨#[]⟩)).set 4 (.slice none 0 0)).set 5 (.slice none 0 0)
  exact bodyPost_ret (v := .tuple #[.agg #[.int .i64 0, .int .i64 0, .int .i64 0, .string ⟨#[]⟩, .slice none 0 0, .slice none 0 0], .bool false]) (by simp [results, Try.results20, go_sem, c1]) rfl ⟨rfl, l1.trans (E.below (Nat.le_refl _))⟩

set_option maxRecDepth 100000 in
set_option maxHeartbeats 4000000 in
theorem top_some (b B lim : Nat) (us : List Row) (u : Row) (vl : Value) (w : World) (h : SInv w b B lim (us ++ [u]) vl) :
    Calls Try.prog 20 #[.pointer (some ⟨b, 0, none⟩)] w fun e w' => ∃ vw' vd', e = .returned (.tuple #[.agg #[.int .i64 u.f.k, .int .i64 u.f.o, .int .i64 u.f.n, .string u.f.s, vw', vd'], .bool true]) ∧
      WOwn w' w.heap.size vw' u.f.ws ∧ WOwn w' w.heap.size vd' u.f.ds ∧ Below w.heap.size w w' := by
  have hlim := h.lm
  have htk := h.tk
  have hin : u ∈ us ++ [u] := by simp
  have hmt := mem_takes hin
  have hnl : u.f.ws.length ≤ 4194304 := by unfold FrD.takes at hmt; omega
  have hnd : u.f.ds.length ≤ 4194304 := by unfold FrD.takes at hmt; omega
  have hlen := len_le_taken (us ++ [u])
  rw [List.length_append, List.length_singleton] at hlen
  obtain ⟨g, cap, rfl, hcap⟩ := h.slice
  obtain ⟨q1, q2⟩ := h.wrd u hin
  have ko := fun W (hW : Below w.heap.size w W) => own_any u.f.k u.f.o u.f.n u.f.s u.vw u.vd u.f.ws u.f.ds W (q1.at.below hW (Nat.le_refl _)) (q2.at.below hW (Nat.le_refl _)) (by omega) (by omega)
  have KO := Lib.hid ko
  have hS := h.blk
  obtain ⟨T, hT⟩ : ∃ T, takenOf (us ++ [u]) = T := ⟨_, rfl⟩
  rw [hT] at hS hlen htk
  obtain ⟨N, hN⟩ : ∃ N, us.length = N := ⟨_, rfl⟩
  have e0 := h.last 0 (by decide)
  have e1 := h.last 1 (by decide)
  have e2 := h.last 2 (by decide)
  have e3 := h.last 3 (by decide)
  have e4 := h.last 4 (by decide)
  have e5 := h.last 5 (by decide)
  simp only [Row.cells, Nat.add_zero, List.getElem?_cons_zero, List.getElem?_cons_succ] at e0 e1 e2 e3 e4 e5
  rw [hN] at e0 e1 e2 e3 e4 e5 hS hcap hlen
  have hglt := own_lt h.row g rfl
  obtain ⟨a1, x1, hv1⟩ := own_shape q1
  obtain ⟨a2, x2, hv2⟩ := own_shape q2
  clear ko h hin hmt hT hN q1 q2
  obtain ⟨⟨k, o, n, s, ws, ds⟩, vw, vd⟩ := u
  dsimp only at *
  subst hv1 hv2
  obtain ⟨lw, hlw⟩ : ∃ l, ws.length = l := ⟨_, rfl⟩
  obtain ⟨ld, hld⟩ : ∃ l, ds.length = l := ⟨_, rfl⟩
  rw [hlw] at KO e4 hnl
  rw [hld] at KO e5 hnd
  have HLw := Lib.hid hlw; have HLd := Lib.hid hld
  clear hlw hld
  obtain ⟨L, hL⟩ : ∃ L, N + 1 = L := ⟨_, rfl⟩
  rw [hL] at hS hcap hlen
  have hsub : (L : Int) - 1 = (N : Int) := by omega
  have hNl : (N : Int) < (L : Int) := by omega
  have hNL : N < L := by omega
  have hwN : IntKind.i64.wrap (N : Int) = (N : Int) := IntWalk.i64_in _ (by omega)
  have hL0 : (L == 0) = false := by simp; omega
  have hL1 : ((L : Int) == 0) = false := by simp; omega
  clear hL
  have hN0 : (0 : Int) ≤ (N : Int) := by omega
  have hN1 : (N : Int) ≤ 4194304 := by omega
  have HE := Lib.hid (And.intro e0 (And.intro e1 (And.intro e2 (And.intro e3 (And.intro e4 e5)))))
  clear e0 e1 e2 e3 e4 e5
  go_enter Try.func20, Try.ntmps20
  go_upto_region 1 with fail
  generalize hW0 : w.alloc (Obj.cells #[.int .i64 0, .int .i64 0, .int .i64 0, .string ⟨#[]⟩, .slice none 0 0, .slice none 0 0] 32) = W0
  have hbel : Below w.heap.size w W0 := by rw [← hW0]; ((repeat (first | exact Below.refl _ _ | (refine Below.alloc ?_ (by first | (simp [World.setCell]; done) | (simp [World.setCell]; omega)) _) | (refine Below.setCell ?_ (by first | (simp [World.setCell]; done) | (simp [World.setCell]; omega)) _) | refine Below.drew ?_)))
  have B0 : Blk W0 w.heap.size #[.int .i64 0, .int .i64 0, .int .i64 0, .string ⟨#[]⟩, .slice none 0 0, .slice none 0 0] := by rw [← hW0]; exact Blk.new w _ _
  have S0 := hS.below hbel hS.lt
  clear hW0
  go_upto_region 3 with (go_at_call 40; with_reducible refine (none_any b _ _ _ true _ S0).mono ?_; rintro e w1 ⟨rfl, hb1⟩; have S1 := S0.below hb1 S0.lt; have s1 := S1.cell; have B1 := B0.below hb1 B0.lt; have c1 := B1.cell; have f1 := B1.free; have l1 := hbel.trans (hb1.mono hbel.size))
  obtain ⟨e0, e1, e2, e3, e4, e5⟩ := HE.out
  have r0 := (l1.cell (p := ⟨g, N * 6, none⟩) hglt).trans e0
  have r1 := (l1.cell (p := ⟨g, N * 6 + 1, none⟩) hglt).trans e1
  have r2 := (l1.cell (p := ⟨g, N * 6 + 2, none⟩) hglt).trans e2
  have r3 := (l1.cell (p := ⟨g, N * 6 + 3, none⟩) hglt).trans e3
  have r4 := (l1.cell (p := ⟨g, N * 6 + 4, none⟩) hglt).trans e4
  have r5 := (l1.cell (p := ⟨g, N * 6 + 5, none⟩) hglt).trans e5
  clear e0 e1 e2 e3 e4 e5
  go_region_with (go_at_call 41; with_reducible refine (KO.out _ l1.drew).mono ?_; rintro e w4 ⟨v1, v2, m, rfl, o1, o2, m1, m2, m3, hb4⟩; rw [size_drew] at o1 m1; obtain ⟨p1, y1, rfl⟩ := own_shape o1; obtain ⟨p2, y2, rfl⟩ := own_shape o2; have q4 := below_of_drew hb4; have l4 := l1.trans (q4.mono l1.size); have B4 := B1.below q4 B1.lt; have c4 := B4.cell; have f4 := B4.free)
  all_goals
    go_wp2
    have E := ((((((Only.refl w.heap.size w4).set 0 (.int .i64 k)).set 1 (.int .i64 o)).set 2 (.int .i64 n)).set 3 (.string s)).set 4 (.slice p1 ws.length y1)).set 5 (.slice p2 ds.length y2)
    have hs1 := B1.lt
    have hmm := l1.size
    refine bodyPost_ret (v := .tuple #[.agg #[.int .i64 k, .int .i64 o, .int .i64 n, .string s, (.slice p1 ws.length y1), (.slice p2 ds.length y2)], .bool true]) (by simp [results, Try.results20, go_sem, c4]) rfl ⟨.slice p1 ws.length y1, (.slice p2 ds.length y2), rfl, ?_, ?_, l4.trans (E.below (Nat.le_refl _))⟩
    · exact E.own (own_low o1 hmm) (fun e => by have := own_from o1 _ e; omega)
    · exact E.own (own_low o2 (by omega)) (fun e => by have := own_from o2 _ e; omega)

end Go.Proofs.Ytmnadlgglmhfhaa
