/- Contracts of the reference's Turn. -/
import Derived.Test.YtmnadlgglmhfhaaRef5
import Derived.Test.YtmnadlgglmhfhaaRef6
namespace Go.Proofs.Ytmnadlgglmhfhaa
open Go.RowKit

theorem flat_set (zs : List Wd) (j : Nat) (x : Wd) (hj : j < zs.length) : flat (zs.set j x) = ((flat zs).set (j * 2) (.int .i64 x.1)).set (j * 2 + 1) (.int .i64 x.2) := by
  induction zs generalizing j with
  | nil => simp at hj
  | cons y ys ih =>
    cases j with
    | zero => simp [flat]
    | succ j =>
      have h := ih j (by simpa using hj)
      rw [show (j + 1) * 2 = j * 2 + 1 + 1 from by omega]
      simp only [flat, List.set_cons_succ, List.flatMap_cons, List.cons_append, List.nil_append] at h ⊢
      rw [h]

theorem own_set_word {W : World} {base : Nat} {p : Option Addr} {n c : Nat} {zs : List Wd} (hn : zs.length = n) (h : WOwn W base (.slice p n c) zs) (j : Nat) (hj : j < n) (x : Wd) :
    ∃ g, p = some ⟨g, 0, none⟩ ∧ Raw W g (n * 2) ∧ base ≤ g ∧ WOwn ((W.setCell ⟨g, j * 2, none⟩ (.int .i64 x.1)).setCell ⟨g, j * 2 + 1, none⟩ (.int .i64 x.2)) base (.slice p n c) (zs.set j x) ∧ Off (fun k => k = g) W ((W.setCell ⟨g, j * 2, none⟩ (.int .i64 x.1)).setCell ⟨g, j * 2 + 1, none⟩ (.int .i64 x.2)) := by
  subst hn
  obtain ⟨g, rfl, hR, hb⟩ := Raw.of_own h (by omega)
  rcases h.2 with ⟨e, _⟩ | ⟨g', cap, cur, e, hg, hh, hc, hm, hz, ht⟩
  · simp at e
  simp only [Value.slice.injEq, Option.some.injEq, Addr.mk.injEq] at e
  obtain ⟨⟨rfl, _⟩, _, rfl⟩ := e
  refine ⟨g, rfl, hR, hb, ?_, ?_⟩
  · have hcz : zs.length * 2 ≤ cur.size := by rw [hz]; exact Nat.mul_le_mul_right _ hc
    have h1 : ((W.setCell ⟨g, j * 2, none⟩ (.int .i64 x.1)).setCell ⟨g, j * 2 + 1, none⟩ (.int .i64 x.2)).heap[g]? = some (.cells ((cur.setIfInBounds (j * 2) (.int .i64 x.1)).setIfInBounds (j * 2 + 1) (.int .i64 x.2)) 38 (0, 0)) := heap_setCell_same _ _ _ _ _ _ (heap_setCell_same _ _ _ _ _ _ hh)
    show World.ownsRow _ _ _ _ _ _ _
    rw [List.length_set]
    refine ⟨by rw [flat_len, List.length_set], .inr ⟨g, c, _, rfl, hg, h1, hc, hm, by simpa using hz, ?_⟩⟩
    rw [flat_set zs j x hj, ← ht]
    simp [List.take_set]
  · exact (off_set (W := W)).trans off_set (fun i h => h) (fun i h => .inl h)

set_option maxRecDepth 100000 in
set_option maxHeartbeats 4000000 in
theorem rturn_bad (b B lim : Nat) (us : List Row) (vl : Value) (w : World) (h : RInv w b B lim us vl) (pl : Option Addr) (L cl : Nat) (hne : L ≠ (wordsAll us).length) :
    Calls Try.prog 30 #[.pointer (some ⟨b, 0, none⟩), .slice pl L cl] w fun e w' => e = .returned (.int .i64 2) ∧ Below w.heap.size w w' := by
  have hS := h.blk
  have H := Lib.hid h
  obtain ⟨M, hM⟩ : ∃ n, (wordsAll us).length = n := ⟨_, rfl⟩
  have HM := Lib.hid hM
  rw [hM] at hne
  have hneI : ((L : Int) == (M : Int)) = false := by rw [beq_eq_false_iff_ne]; omega
  clear h hM
  go_enter Try.func30, Try.ntmps30
  go_wp2_with (first | (go_at_call 43; with_reducible refine (rnone_any b _ _ true _ hS).mono ?_; rintro e w1 ⟨rfl, hb1⟩) | (go_at_call 38; with_reducible refine (rwords_any b B lim us vl w1 (H.out.below hb1)).mono ?_; rintro e w2 ⟨v2, rfl, o2, hb2⟩; obtain ⟨p2, c2, rfl⟩ := own_shape o2; rw [HM.out]))
  go_ret
  exact ⟨rfl, hb1.trans (hb2.mono hb1.size)⟩

/-- A row whose words (j of them) and others (i of them) are turned already. -/
def part (f : FrD) (rest : List Wd) (j i : Nat) : FrD := { f with ws := rest.take j ++ f.ws.drop j, ds := (rest.drop f.ws.length).take i ++ f.ds.drop i }
theorem part_start (f : FrD) (rest : List Wd) : part f rest 0 0 = f := by simp [part]
theorem part_end (f : FrD) (rest : List Wd) : part f rest f.ws.length f.ds.length = f.turn rest := by simp [part, FrD.turn]
theorem part_lw (f : FrD) (rest : List Wd) (j i : Nat) (hj : j ≤ f.ws.length) (hr : f.ws.length + f.ds.length ≤ rest.length) : (part f rest j i).ws.length = f.ws.length := by
  simp only [part, List.length_append, List.length_take, List.length_drop]; omega
theorem part_ld (f : FrD) (rest : List Wd) (j i : Nat) (hi : i ≤ f.ds.length) (hr : f.ws.length + f.ds.length ≤ rest.length) : (part f rest j i).ds.length = f.ds.length := by
  simp only [part, List.length_append, List.length_take, List.length_drop]; omega
theorem set_part (zs rest : List Wd) (j : Nat) (hj : j < zs.length) (hr : j < rest.length) : (rest.take j ++ zs.drop j).set j rest[j] = rest.take (j + 1) ++ zs.drop (j + 1) := by
  have hl : (rest.take j).length = j := by rw [List.length_take]; omega
  rw [List.set_append_right _ _ (by omega), hl, Nat.sub_self, List.drop_eq_getElem_cons hj, List.set_cons_zero, List.take_succ_eq_append_getElem hr, List.append_assoc]
  rfl

/-- One word of a row is turned. -/
theorem RInv.word {W : World} {b B lim : Nat} {A C : List Row} {f : FrD} {rest : List Wd} {aw : Option Addr} {cw : Nat} {ud vl : Value} {j : Nat} (hj : j < f.ws.length) (hr : f.ws.length + f.ds.length ≤ rest.length)
    (h : RInv W b B lim (A ++ ⟨part f rest j 0, .slice aw f.ws.length cw, ud⟩ :: C) vl) (hjr : j < rest.length) :
    ∃ g, aw = some ⟨g, 0, none⟩ ∧ Raw W g (f.ws.length * 2) ∧ B ≤ g ∧
      RInv ((W.setCell ⟨g, j * 2, none⟩ (.int .i64 rest[j].1)).setCell ⟨g, j * 2 + 1, none⟩ (.int .i64 rest[j].2)) b B lim (A ++ ⟨part f rest (j + 1) 0, .slice aw f.ws.length cw, ud⟩ :: C) vl ∧
      Off (fun k => k = g) W ((W.setCell ⟨g, j * 2, none⟩ (.int .i64 rest[j].1)).setCell ⟨g, j * 2 + 1, none⟩ (.int .i64 rest[j].2)) := by
  obtain ⟨w1, w2⟩ := h.wrd ⟨part f rest j 0, .slice aw f.ws.length cw, ud⟩ (by simp)
  have hl := part_lw f rest j 0 (by omega) hr
  have w1' : WOwn W B (.slice aw f.ws.length cw) (part f rest j 0).ws := w1
  obtain ⟨g, rfl, hR, hg, ho, hoff⟩ := own_set_word hl w1' j hj rest[j]
  refine ⟨g, rfl, hR, hg, ?_, hoff⟩
  have hset : (part f rest j 0).ws.set j rest[j] = (part f rest (j + 1) 0).ws := set_part f.ws rest j hj hjr
  rw [hset] at ho
  have hne : ud.ownBlock ≠ some g := by
    intro e
    have hp := h.inc
    rw [blksOf_append, List.pairwise_append] at hp
    have hp2 := hp.2.1
    rw [show (⟨part f rest j 0, .slice (some ⟨g, 0, none⟩) f.ws.length cw, ud⟩ : Row) :: C = [⟨part f rest j 0, .slice (some ⟨g, 0, none⟩) f.ws.length cw, ud⟩] ++ C from rfl, blksOf_append, List.pairwise_append] at hp2
    have hp3 := hp2.1
    have hb : ∀ n c, (Value.slice (some ⟨g, 0, none⟩) n c).ownBlock = some g := fun _ _ => rfl
    simp [blksOf, wordsOf, hb, e] at hp3
  exact h.rewrite (part f rest (j + 1) 0) ⟨rfl, rfl, rfl, rfl⟩ (by rw [part_lw f rest (j + 1) 0 (by omega) hr]; exact hl.symm) (by rw [part_ld f rest (j + 1) 0 (by omega) hr, part_ld f rest j 0 (by omega) hr]) _ hoff
    (fun i hi => mem_blks (List.mem_singleton.2 rfl) (.inl (by rw [hi]; rfl))) ho (hoff.own w2 (fun k hk e => hne (by rw [hk, e])))

/-- One of a row's other words is turned. -/
theorem RInv.done {W : World} {b B lim : Nat} {A C : List Row} {f : FrD} {rest : List Wd} {ad : Option Addr} {cd : Nat} {uw vl : Value} {i : Nat} (hi : i < f.ds.length) (hr : f.ws.length + f.ds.length ≤ rest.length)
    (h : RInv W b B lim (A ++ ⟨part f rest f.ws.length i, uw, .slice ad f.ds.length cd⟩ :: C) vl) (hir : f.ws.length + i < rest.length) :
    ∃ g, ad = some ⟨g, 0, none⟩ ∧ Raw W g (f.ds.length * 2) ∧ B ≤ g ∧
      RInv ((W.setCell ⟨g, i * 2, none⟩ (.int .i64 rest[f.ws.length + i].1)).setCell ⟨g, i * 2 + 1, none⟩ (.int .i64 rest[f.ws.length + i].2)) b B lim (A ++ ⟨part f rest f.ws.length (i + 1), uw, .slice ad f.ds.length cd⟩ :: C) vl ∧
      Off (fun k => k = g) W ((W.setCell ⟨g, i * 2, none⟩ (.int .i64 rest[f.ws.length + i].1)).setCell ⟨g, i * 2 + 1, none⟩ (.int .i64 rest[f.ws.length + i].2)) := by
  obtain ⟨w1, w2⟩ := h.wrd ⟨part f rest f.ws.length i, uw, .slice ad f.ds.length cd⟩ (by simp)
  have hl := part_ld f rest f.ws.length i (by omega) hr
  have w2' : WOwn W B (.slice ad f.ds.length cd) (part f rest f.ws.length i).ds := w2
  obtain ⟨g, rfl, hR, hg, ho, hoff⟩ := own_set_word hl w2' i hi rest[f.ws.length + i]
  refine ⟨g, rfl, hR, hg, ?_, hoff⟩
  have hset : (part f rest f.ws.length i).ds.set i rest[f.ws.length + i] = (part f rest f.ws.length (i + 1)).ds := by
    have h2 := set_part f.ds (rest.drop f.ws.length) i hi (by rw [List.length_drop]; omega)
    rw [List.getElem_drop] at h2
    exact h2
  rw [hset] at ho
  have hne : uw.ownBlock ≠ some g := by
    intro e
    have hp := h.inc
    rw [blksOf_append, List.pairwise_append] at hp
    have hp2 := hp.2.1
    rw [show (⟨part f rest f.ws.length i, uw, .slice (some ⟨g, 0, none⟩) f.ds.length cd⟩ : Row) :: C = [⟨part f rest f.ws.length i, uw, .slice (some ⟨g, 0, none⟩) f.ds.length cd⟩] ++ C from rfl, blksOf_append, List.pairwise_append] at hp2
    have hp3 := hp2.1
    have hb : ∀ n c, (Value.slice (some ⟨g, 0, none⟩) n c).ownBlock = some g := fun _ _ => rfl
    simp [blksOf, wordsOf, hb, e] at hp3
  exact h.rewrite (part f rest f.ws.length (i + 1)) ⟨rfl, rfl, rfl, rfl⟩ (by rw [part_lw f rest f.ws.length (i + 1) (by omega) hr, part_lw f rest f.ws.length i (by omega) hr]) (by rw [part_ld f rest f.ws.length (i + 1) (by omega) hr]; exact hl.symm) _ hoff
    (fun k hk => mem_blks (List.mem_singleton.2 rfl) (.inr (by rw [hk]; rfl))) (hoff.own w1 (fun k hk e => hne (by rw [hk, e]))) ho

end Go.Proofs.Ytmnadlgglmhfhaa
