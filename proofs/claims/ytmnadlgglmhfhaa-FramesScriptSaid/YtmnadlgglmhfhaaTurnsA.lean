/- The law FramesTurns: what its walk keeps; plain laws of turning; append that leaves the old list standing. -/
import Derived.Test.YtmnadlgglmhfhaaTurn2
import Derived.ArgAppend
namespace Go.Proofs.Ytmnadlgglmhfhaa
open Go.RowKit

theorem cut_parts (ls : List Wd) (a b : Nat) : ls.take a ++ (ls.drop a).take b ++ ls.drop (a + b) = ls := by
  rw [← List.take_add, List.take_append_drop]
theorem turn_words (us : List Row) (ls : List Wd) (h : ls.length = (wordsAll us).length) : wordsAll (turnRows us ls) = ls := by
  induction us generalizing ls with
  | nil =>
    simp [wordsAll] at h
    subst h
    rfl
  | cons u us ih =>
    have e : wordsAll (u :: us) = u.f.ws ++ u.f.ds ++ wordsAll us := by simp [wordsAll]
    rw [e, List.length_append, List.length_append] at h
    have h2 := ih (ls.drop (u.f.ws.length + u.f.ds.length)) (by rw [List.length_drop]; omega)
    have e2 : wordsAll (turnRows (u :: us) ls) = ls.take u.f.ws.length ++ (ls.drop u.f.ws.length).take u.f.ds.length ++ wordsAll (turnRows us (ls.drop (u.f.ws.length + u.f.ds.length))) := by simp [turnRows, wordsAll, FrD.turn]
    rw [e2, h2, cut_parts]
theorem turn_shape (us : List Row) (ls : List Wd) (h : ls.length = (wordsAll us).length) : (turnRows us ls).map (fun u => (u.f.k, u.f.o, u.f.n, u.f.s, u.f.ws.length, u.f.ds.length)) = us.map (fun u => (u.f.k, u.f.o, u.f.n, u.f.s, u.f.ws.length, u.f.ds.length)) := by
  induction us generalizing ls with
  | nil => rfl
  | cons u us ih =>
    have e : wordsAll (u :: us) = u.f.ws ++ u.f.ds ++ wordsAll us := by simp [wordsAll]
    rw [e, List.length_append, List.length_append] at h
    simp only [turnRows, List.map_cons, FrD.turn]
    rw [ih (ls.drop (u.f.ws.length + u.f.ds.length)) (by rw [List.length_drop]; omega), List.length_take, List.length_take, List.length_drop, Nat.min_eq_left (by omega), Nat.min_eq_left (by omega)]
theorem taken_shape (us vs : List Row) (h : us.map (fun u => (u.f.k, u.f.o, u.f.n, u.f.s, u.f.ws.length, u.f.ds.length)) = vs.map (fun u => (u.f.k, u.f.o, u.f.n, u.f.s, u.f.ws.length, u.f.ds.length))) : takenOf us = takenOf vs := by
  have e : ∀ l : List Row, takenOf l = ((l.map (fun u => (u.f.k, u.f.o, u.f.n, u.f.s, u.f.ws.length, u.f.ds.length))).map (fun x => 1 + x.2.2.2.2.1 + x.2.2.2.2.2 + (x.2.2.2.1.size + 7) / 8)).sum := by
    intro l
    unfold takenOf
    rw [List.map_map]
    rfl
  rw [e, e, h]
theorem turn_taken (us : List Row) (ls : List Wd) (h : ls.length = (wordsAll us).length) : takenOf (turnRows us ls) = takenOf us := taken_shape _ _ (turn_shape us ls h)
theorem turn_blks (us : List Row) (ls : List Wd) : blksOf (turnRows us ls) = blksOf us := by
  have h : wordsOf (turnRows us ls) = wordsOf us := by
    induction us generalizing ls with
    | nil => rfl
    | cons u us ih =>
      have := ih (ls.drop (u.f.ws.length + u.f.ds.length))
      simp only [wordsOf, turnRows, List.flatMap_cons] at this ⊢
      rw [this]
  unfold blksOf
  rw [h]
theorem turn_back (us : List Row) (ls : List Wd) (h : ls.length = (wordsAll us).length) : (turnRows (turnRows us ls) (wordsAll us)).map Row.f = us.map Row.f := by
  induction us generalizing ls with
  | nil => rfl
  | cons u us ih =>
    have e : wordsAll (u :: us) = u.f.ws ++ u.f.ds ++ wordsAll us := by simp [wordsAll]
    rw [e, List.length_append, List.length_append] at h
    have h1 : (ls.take u.f.ws.length).length = u.f.ws.length := by rw [List.length_take]; omega
    have h2 : ((ls.drop u.f.ws.length).take u.f.ds.length).length = u.f.ds.length := by rw [List.length_take, List.length_drop]; omega
    simp only [turnRows, List.map_cons, FrD.turn, h1, h2]
    rw [e]
    have d1 : (u.f.ws ++ u.f.ds ++ wordsAll us).drop (u.f.ws.length + u.f.ds.length) = wordsAll us := by
      rw [← List.length_append, List.drop_left]
    have t1 : (u.f.ws ++ u.f.ds ++ wordsAll us).take u.f.ws.length = u.f.ws := by rw [List.append_assoc, List.take_left]
    have t2 : ((u.f.ws ++ u.f.ds ++ wordsAll us).drop u.f.ws.length).take u.f.ds.length = u.f.ds := by rw [List.append_assoc, List.drop_left, List.take_left]
    rw [d1, t1, t2, ih (ls.drop (u.f.ws.length + u.f.ds.length)) (by rw [List.length_drop]; omega)]

/-- append of one word to words of one's own: what was there stands. -/
theorem run_append_keep (w : World) (t ty : TypeId) (ht : Try.prog.underlying t = some (.slice 38)) (base : Nat) (v : Value) (ws : List Wd) (hown : WOwn w base v ws) (a : Addr) (x : Wd)
    (hnews : ∀ j u, (flat [x])[j]? = some u → w.cell? (a.add j) = some u) (hl : ws.length ≤ 1000000000000) (hbase : base ≤ w.heap.size) :
    ∃ v' w', (Builtin.append_ #[t, t] ty #[v, .slice (some a) 1 1]).run Try.prog w = .ok v' w' ∧ WOwn w' base v' (ws ++ [x]) ∧ WOwn w' base v ws ∧ w.grownBy w' v.ownBlock := by
  obtain ⟨i0, hi, hz0, hz1, hz2⟩ := info_parts infoW
  obtain ⟨v', w', hr, h2, h3, _, h5⟩ := run_append_own_at (P := Try.prog) w base t ty 38 i0 _ 2 16 ht hi hz0 hz1 hz2 rfl (by decide) v ws.length (flat ws) hown a 1 1 (flat [x]) (by rfl) hnews (flat_one _) (by unfold maxLen; omega) (by omega) hbase
  have h2' : WOwn w' base v' (ws ++ [x]) := by
    show w'.ownsRow _ _ _ _ _ _
    rw [flat_append, List.length_append]
    exact h2
  refine ⟨v', w', hr, h2', ?_, h3⟩
  rcases hown.2 with ⟨rfl, h0⟩ | ⟨g, cap, cur, rfl, hg, hb, hc, hm, hz, htk⟩
  · have hw : ws = [] := List.length_eq_zero_iff.1 h0
    subst hw
    exact World.ownsRow_nil _ _ _ _
  · rcases Nat.lt_or_ge cap (ws.length + 1) with hgr | hroom
    · obtain ⟨v'', w'', hr2, _, h4⟩ := run_append_arg_grows (P := Try.prog) w t ty 38 i0 _ 2 16 ht hi hz0 hz1 hz2 rfl (by decide) ⟨g, 0, none⟩ ws.length cap (flat ws) (flat_len ws) (fun j u hj => hown.cells (g := g) rfl j u hj) a 1 1 (flat [x]) (by rfl) hnews hgr (by unfold maxLen; omega) (by omega)
      rw [hr] at hr2
      injection hr2 with e1 e2
      subst e2
      exact own_same hown (fun k hk => h4.block k (by simp [Value.ownBlock] at hk; subst hk; exact (Array.getElem?_eq_some_iff.1 hb).1) (by simp))
    · have hcell : ∀ j, j < (flat [x]).length → (w.cell? ⟨g, 0 + ws.length * i0.size + j, none⟩).isSome = true := by
        intro j hj
        have hj2 : j < 2 := hj
        unfold World.cell?
        rw [hb, hz1]
        simp
        omega
      have hfree : ∀ j, j < (flat [x]).length → w.frozen? ⟨g, 0 + ws.length * i0.size + j, none⟩ = false := by
        intro j hj
        unfold World.frozen?
        rw [hb]
        simp
      have hr2 := run_append_room_cells (P := Try.prog) w t ty 38 i0 ht hi g 0 ws.length cap a 1 1 (flat [x]) (by rw [hz1]; rfl) hnews (flat_one _) hroom hcell hfree
      rw [hr] at hr2
      injection hr2 with e1 e2
      subst e1
      have h6 : w'.ownsRow base 38 2 (.slice (some ⟨g, 0, none⟩) (ws.length + 1) cap) (ws.length + 1) (flat ws ++ flat [x]) := h2
      exact own_init h6 (flat_len ws)

theorem wpList_append_keep {w : World} {ops : Array Oper} {rest : List Oper} {o : Oper} {a : Act} {Q : Exit → Act → World → Prop} (hgd : o.guard = none) (s x : Operand) (t : TypeId)
    (ho : o.op = .call { callee := .builtin .append, args := #[s, x], argTypes := #[t, t] }) (ht : Try.prog.underlying t = some (.slice 38)) (base : Nat) (v : Value) (ws : List Wd) (hs : a.eval s = v) (hown : WOwn w base v ws)
    (ad : Addr) (y : Wd) (hx : a.eval x = .slice (some ad) 1 1) (hnews : ∀ j u, (flat [y])[j]? = some u → w.cell? (ad.add j) = some u) (hl : ws.length ≤ 1000000000000) (hbase : base ≤ w.heap.size)
    (h : ∀ p c w', WOwn w' base (.slice p (ws.length + 1) c) (ws ++ [y]) → WOwn w' base v ws → w.grownBy w' v.ownBlock → wpList Try.prog ops Q rest (a.put o.dst (.slice p (ws.length + 1) c)) w') : wpList Try.prog ops Q (o :: rest) a w := by
  refine wpList_plain hgd fun K hK => ?_
  obtain ⟨v', w', hrun, h1, h2, h3⟩ := run_append_keep w t o.type ht base v ws hown ad y hnews hl hbase
  obtain ⟨p, c, rfl⟩ := own_shape h1
  rw [List.length_append, List.length_singleton] at hrun h1
  unfold Oper.wp
  simp [execOp, ho, resolve, invoke, builtin, hs, hx, hrun, Result.andThen]
  exact hK _ _ (h p c w' h1 h2 h3)

theorem push_any (f : FrD) (vw vd : Value) (b B lim : Nat) (us : List Row) (vl : Value) (w : World) (h : SInv w b B lim us vl) (hw : WAt w vw f.ws) (hd : WAt w vd f.ds) (hnl : f.ws.length ≤ 1000000000) (hnd : f.ds.length ≤ 1000000000) (hns : f.s.size ≤ 1000000000) :
    Calls Try.prog 11 #[.pointer (some ⟨b, 0, none⟩), .agg #[.int .i64 f.k, .int .i64 f.o, .int .i64 f.n, .string f.s, vw, vd]] w fun e w' => ∃ n us' vl', e = .returned (.int .i64 n) ∧ SInv w' b B lim us' vl' ∧ Off (Foot b vl us) w w' := by
  by_cases hck : chkK f.k f.o f.n f.s f.ws.length f.ds.length = true
  · by_cases hfit : takenOf us + f.takes ≤ lim
    · refine (push_ok f vw vd b B lim us vl w h hw hd hck hfit).mono ?_
      rintro e w' ⟨rfl, vl', vw', vd', I, _, hoff⟩
      exact ⟨0, _, vl', rfl, I, hoff⟩
    · refine (push_full f vw vd b B lim us vl w h hw hd hnl hnd hns hck (by omega)).mono ?_
      rintro e w' ⟨rfl, hb⟩
      exact ⟨12, us, vl, rfl, h.below hb, Off.of_below hb⟩
  · refine (push_bad f vw vd b B lim us vl w h hw hd (by simpa using hck)).mono ?_
    rintro e w' ⟨rfl, hb⟩
    exact ⟨2, us, vl, rfl, h.below hb, Off.of_below hb⟩

/-- What the law knows while words are turned: the stack; the frames and words that were there (was, words), the other words. -/
structure Turning (w wr : World) (b B1 B2 : Nat) (us : List Row) (vl vwas vwords voth : Value) (us1 : List Row) (ws ls : List Wd) : Prop where
  inv : SInv wr b (b + 1) 4194304 us vl
  foot : ∀ i, Foot b vl us i → i < B1
  was : Frs wr B1 vwas us1
  wrd : WOwn wr B1 vwords ws
  oth : WOwn wr B2 voth ls
  b12 : B1 ≤ B2
  b2w : B2 ≤ wr.heap.size
  old1 : ∀ g, vwas.ownBlock = some g → g < B2
  old2 : ∀ u ∈ us1, ∀ g, (u.vw.ownBlock = some g ∨ u.vd.ownBlock = some g) → g < B2
  old3 : ∀ g, vwords.ownBlock = some g → g < B2
  bel : Below w.heap.size w wr
  low : w.heap.size ≤ b
section
variable {w wr wx : World} {b B1 B2 : Nat} {us : List Row} {vl vwas vwords voth : Value} {us1 : List Row} {ws ls : List Wd}
theorem Turning.on (h : Turning w wr b B1 B2 us vl vwas vwords voth us1 ws ls) (hb : Below wr.heap.size wr wx) : Turning w wx b B1 B2 us vl vwas vwords voth us1 ws ls :=
  ⟨h.inv.below hb, h.foot, h.was.below hb, own_on h.wrd hb (own_lt h.wrd), own_on h.oth hb (own_lt h.oth), h.b12, Nat.le_trans h.b2w hb.size, h.old1, h.old2, h.old3, h.bel.trans (hb.mono h.bel.size), h.low⟩
theorem Turning.grown (h : Turning w wr b B1 B2 us vl vwas vwords voth us1 ws ls) {S : Nat → Prop} (hoff : Off S wr wx) (hS : ∀ i, S i → B2 ≤ i) {voth' : Value} {ls' : List Wd} (ho : WOwn wx B2 voth' ls') : Turning w wx b B1 B2 us vl vwas vwords voth' us1 ws ls' := by
  have h12 := h.b12
  have hlow := h.low
  refine ⟨h.inv.off hoff (fun k hk hs => by have := h.foot k hk; have := hS k hs; omega), h.foot, ⟨hoff.own h.was.own (fun g hg hs => by have := h.old1 g hg; have := hS g hs; omega), fun u hu => ⟨hoff.own (h.was.wrd u hu).1 (fun g hg hs => by have := h.old2 u hu g (.inl hg); have := hS g hs; omega), hoff.own (h.was.wrd u hu).2 (fun g hg hs => by have := h.old2 u hu g (.inr hg); have := hS g hs; omega)⟩⟩,
    hoff.own h.wrd (fun g hg hs => by have := h.old3 g hg; have := hS g hs; omega), ho, h12, Nat.le_trans h.b2w hoff.size, h.old1, h.old2, h.old3, h.bel.trans (hoff.below h.bel.size (fun i hi => ?_)), hlow⟩
  have h1 := hS i hi
  have h2 := h.foot b (.inl rfl)
  omega
theorem Turning.top (h : Turning w wr b B1 B2 us vl vwas vwords voth us1 ws ls) (i : Nat) (hi : i ∈ blksOf us) : i < B1 := h.foot i (.inr (.inr hi))
theorem Turning.turned (h : Turning w wr b B1 B2 us vl vwas vwords voth us1 ws ls) (zs : List Wd) (hi : SInv wx b (b + 1) 4194304 (turnRows us zs) vl) (hoff : Off (fun k => k ∈ blksOf us) wr wx) : Turning w wx b B1 B2 (turnRows us zs) vl vwas vwords voth us1 ws ls := by
  have h12 := h.b12
  have hlow := h.low
  refine ⟨hi, fun i hi => h.foot i ?_, h.was.off hoff h.top, hoff.own h.wrd (fun g hg hs => by have := own_from h.wrd g hg; have := h.top g hs; omega), hoff.own h.oth (fun g hg hs => by have := own_from h.oth g hg; have := h.top g hs; omega), h12, Nat.le_trans h.b2w hoff.size, h.old1, h.old2, h.old3, h.bel.trans (hoff.below h.bel.size (fun i hi => ?_)), hlow⟩
  · rcases hi with hi | hi | hi
    · exact .inl hi
    · exact .inr (.inl hi)
    · rw [turn_blks] at hi; exact .inr (.inr hi)
  · obtain ⟨x, hx, hb⟩ := of_mem_blks hi
    rcases hb with hb | hb
    · have := own_from (h.inv.wrd x hx).1 i hb; omega
    · have := own_from (h.inv.wrd x hx).2 i hb; omega
theorem Turning.apartO (h : Turning w wr b B1 B2 us vl vwas vwords voth us1 ws ls) (g : Nat) (hg : voth.ownBlock = some g) : g ∉ blksOf us := fun hs => by
  have := own_from h.oth g hg
  have := h.top g hs
  have := h.b12
  omega
theorem Turning.apartW (h : Turning w wr b B1 B2 us vl vwas vwords voth us1 ws ls) (g : Nat) (hg : vwords.ownBlock = some g) : g ∉ blksOf us := fun hs => by
  have := own_from h.wrd g hg
  have := h.top g hs
  omega
end

theorem own_cap {W : World} {base : Nat} {e : TypeId} {size : Nat} {p : Option Addr} {n c : Nat} {xs : List Value} (h : W.ownsRow base e size (.slice p n c) n xs) : n ≤ c := by
  rcases h.2 with ⟨e, h0⟩ | ⟨g, cap', cur, e, _, _, hc', _⟩
  · omega
  · simp only [Value.slice.injEq] at e
    omega

end Go.Proofs.Ytmnadlgglmhfhaa
