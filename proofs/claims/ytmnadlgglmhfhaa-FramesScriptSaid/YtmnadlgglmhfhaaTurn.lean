/- (*frames.Stack).Turn: what it makes of a stack; copy at words. -/
import Derived.Test.YtmnadlgglmhfhaaAll
import Derived.Laws.CopyOwn
namespace Go.Proofs.Ytmnadlgglmhfhaa
open Go.RowKit

def FrD.turn (f : FrD) (ls : List Wd) : FrD := { f with ws := ls.take f.ws.length, ds := (ls.drop f.ws.length).take f.ds.length }
def turnRows : List Row → List Wd → List Row
  | [], _ => []
  | u :: us, ls => ⟨u.f.turn ls, u.vw, u.vd⟩ :: turnRows us (ls.drop (u.f.ws.length + u.f.ds.length))
theorem turnRows_append (us vs : List Row) (ls : List Wd) : turnRows (us ++ vs) ls = turnRows us ls ++ turnRows vs (ls.drop (wordsAll us).length) := by
  induction us generalizing ls with
  | nil => simp [turnRows, wordsAll]
  | cons u us ih =>
    simp only [List.cons_append, turnRows, ih, List.drop_drop]
    rw [show wordsAll (u :: us) = u.f.ws ++ u.f.ds ++ wordsAll us from by simp [wordsAll]]
    simp only [List.length_append, Nat.add_assoc]
theorem turnRows_len (us : List Row) (ls : List Wd) : (turnRows us ls).length = us.length := by
  induction us generalizing ls with
  | nil => rfl
  | cons u us ih => simp [turnRows, ih]

theorem run_copy_words (w : World) (dT sT ty : TypeId) (i : TypeInfo) (g dLen dCap : Nat) (a : Addr) (sLen sCap : Nat) (cur : Array Value) (t : TypeId) (cs : List Value)
    (hu : Try.prog.underlying dT = some (.slice 38)) (hi : Try.prog.info? 38 = some i) (hs : i.size = 2)
    (hg : w.heap[g]? = some (.cells cur t (0, 0))) (hn : cs.length = Nat.min sLen dLen * 2)
    (hsrc : ∀ j v, cs[j]? = some v → w.cell? (a.add j) = some v) (hfit : cs.length ≤ cur.size) (h1 : ∀ v ∈ cs, v.oneCell' = true) :
    (Builtin.copy_ #[dT, sT] ty #[.slice (some ⟨g, 0, none⟩) dLen dCap, .slice (some a) sLen sCap]).run Try.prog w =
      .ok (goInt (Nat.min sLen dLen)) (w.setRow g (cs ++ cur.toList.drop cs.length).toArray) := by
  have hl := run_loadCells_list (P := Try.prog) w a cs hsrc
  have hst := run_storeCells_at Try.prog g 0 t cs 0 cur w hg (by simpa using hfit) h1
  have hn' := hn.symm
  simp [Builtin.copy_, run_underlying hu, Builtin.lenOf, Builtin.firstCells, sizeOf, typeInfo, hi, hs, hn', hl, hst]

/-- What a copy of words into words of one's own does. -/
theorem run_copy_own (w : World) (dT sT ty : TypeId) (hu : Try.prog.underlying dT = some (.slice 38)) (base : Nat) (p : Option Addr) (n c : Nat) (ws : List Wd) (hlen : ws.length = n) (hown : WOwn w base (.slice p n c) ws)
    (pl : Option Addr) (L cl : Nat) (ls : List Wd) (hll : ls.length = L) (hw : WAt w (.slice pl L cl) ls) (hle : n ≤ L) :
    ∃ w', (Builtin.copy_ #[dT, sT] ty #[.slice p n c, .slice pl L cl]).run Try.prog w = .ok (goInt n) w' ∧ WOwn w' base (.slice p n c) (ls.take n) ∧ Off (fun k => (Value.slice p n c).ownBlock = some k) w w' := by
  obtain ⟨i0, hi, hz0, hz1, hz2⟩ := info_parts infoW
  subst hlen
  have htl : (ls.take ws.length).length = ws.length := by rw [List.length_take]; omega
  rcases hown.2 with ⟨e, h0⟩ | ⟨g, cap, cur, e, hg, hb, hc, hm, hz, ht⟩
  · simp only [Value.slice.injEq] at e
    obtain ⟨rfl, _, rfl⟩ := e
    have hw0 : ws = [] := List.length_eq_zero_iff.1 h0
    subst hw0
    refine ⟨w, ?_, ?_, ⟨rfl, rfl, rfl, Nat.le_refl _, fun _ _ _ => rfl⟩⟩
    · have hmin : Nat.min L 0 = 0 := Nat.min_zero L
      cases pl with
      | none => simp [Builtin.copy_, run_underlying hu, Builtin.lenOf, Builtin.firstCells, sizeOf, typeInfo, hi]
      | some a =>
        have hl := run_loadCells_list (P := Try.prog) w a [] (fun j v h => by simp at h)
        simp [Builtin.copy_, run_underlying hu, Builtin.lenOf, Builtin.firstCells, sizeOf, typeInfo, hi] at hl ⊢
        simp [hl]
    · exact World.ownsRow_nil w base 38 2
  · simp only [Value.slice.injEq] at e
    obtain ⟨rfl, _, rfl⟩ := e
    have hlcap : ws.length * 2 ≤ c * 2 := Nat.mul_le_mul_right _ hc
    have hmin : Nat.min L ws.length = ws.length := Nat.min_eq_right hle
    by_cases hn0 : ws.length = 0
    · have hw0 : ws = [] := List.length_eq_zero_iff.1 hn0
      subst hw0
      refine ⟨w, ?_, by simpa using hown, ⟨rfl, rfl, rfl, Nat.le_refl _, fun _ _ _ => rfl⟩⟩
      cases pl with
      | none =>
        simp [Builtin.copy_, run_underlying hu, Builtin.lenOf, Builtin.firstCells, sizeOf, typeInfo, hi, storeCells]
      | some a =>
        have hl := run_loadCells_list (P := Try.prog) w a [] (fun j v h => by simp at h)
        simp [Builtin.copy_, run_underlying hu, Builtin.lenOf, Builtin.firstCells, sizeOf, typeInfo, hi] at hl ⊢
        simp [hl, storeCells]
    · obtain ⟨a', cap', e', hcl⟩ := hw
      simp only [Value.slice.injEq] at e'
      obtain ⟨rfl, rfl, rfl⟩ := e'
      obtain ⟨b, o, rfl, hbl, hcc⟩ := hcl (by omega)
      have hfl : (flat (ls.take ws.length)).length = ws.length * 2 := by rw [flat_len, htl]
      have hpre : ∀ (j : Nat) (v : Value), (flat (ls.take ws.length))[j]? = some v → (flat ls)[j]? = some v := by
        intro j v hj
        have h : flat ls = flat (ls.take ws.length) ++ flat (ls.drop ws.length) := by rw [← flat_append, List.take_append_drop]
        rw [h, List.getElem?_append_left (List.getElem?_eq_some_iff.1 hj).1]
        exact hj
      have hrun := run_copy_words w dT sT ty i0 g ws.length c ⟨b, o, none⟩ ls.length cl cur 38 (flat (ls.take ws.length)) hu hi hz1 hb (by rw [hmin, hfl]) (fun j v hj => by
        have := hcc j v (hpre j v hj)
        cases j with
        | zero => simpa [Addr.add] using this
        | succ j => simpa [Addr.add] using this) (by rw [hfl, hz]; exact hlcap) (flat_one _)
      rw [hmin] at hrun
      refine ⟨_, hrun, ?_, ?_⟩
      · show World.ownsRow _ _ _ _ _ _ _
        rw [htl]
        refine ⟨hfl, .inr ⟨g, c, _, rfl, hg, setRow_heap w g cur _ 38 _ hb, hc, hm, ?_, ?_⟩⟩
        · have hd : (flat (ls.take ws.length)).length ≤ cur.size := by rw [hfl, hz]; exact hlcap
          simp
          omega
        · rw [← hfl]
          simp
      · refine ⟨rfl, rfl, rfl, by simp [World.setRow], fun k hk hne => setRow_other w g k _ (fun e => hne ?_)⟩
        simp [Value.ownBlock, e]

theorem wpList_copy_words {w : World} {ops : Array Oper} {rest : List Oper} {o : Oper} {a : Act} {Q : Exit → Act → World → Prop} (hgd : o.guard = none) (d s : Operand) (dT sT : TypeId)
    (ho : o.op = .call { callee := .builtin .copy, args := #[d, s], argTypes := #[dT, sT] }) (hu : Try.prog.underlying dT = some (.slice 38)) (base : Nat) (p : Option Addr) (n c : Nat) (ws : List Wd) (hlen : ws.length = n)
    (hd : a.eval d = .slice p n c) (hown : WOwn w base (.slice p n c) ws) (pl : Option Addr) (L cl : Nat) (ls : List Wd) (hll : ls.length = L) (hs : a.eval s = .slice pl L cl) (hw : WAt w (.slice pl L cl) ls) (hle : n ≤ L)
    (h : ∀ w', WOwn w' base (.slice p n c) (ls.take n) → Off (fun k => (Value.slice p n c).ownBlock = some k) w w' → wpList Try.prog ops Q rest (a.put o.dst (goInt n)) w') : wpList Try.prog ops Q (o :: rest) a w := by
  refine wpList_plain hgd fun K hK => ?_
  obtain ⟨w', hrun, h1, h2⟩ := run_copy_own w dT sT o.type hu base p n c ws hlen hown pl L cl ls hll hw hle
  unfold Oper.wp
  simp [execOp, ho, resolve, invoke, builtin, hd, hs, hrun, Result.andThen]
  exact hK _ _ (h w' h1 h2)

theorem pair_mid {A B C : List Nat} (h : (A ++ (B ++ C)).Pairwise (· < ·)) : (∀ i ∈ B, ∀ a ∈ A, a ≠ i) ∧ (∀ i ∈ B, ∀ c ∈ C, c ≠ i) := by
  rw [List.pairwise_append, List.pairwise_append] at h
  obtain ⟨_, ⟨_, _, h3⟩, h4⟩ := h
  exact ⟨fun i hi a ha => by have := h4 a ha i (List.mem_append_left _ hi); omega, fun i hi c hc => by have := h3 i hi c hc; omega⟩

/-- A row's words are written over. -/
theorem SInv.rewrite {W W' : World} {b B lim : Nat} {A C : List Row} {u : Row} {vl : Value} (h : SInv W b B lim (A ++ u :: C) vl) (f : FrD) (hk : f.k = u.f.k ∧ f.o = u.f.o ∧ f.n = u.f.n ∧ f.s = u.f.s) (hw : f.ws.length = u.f.ws.length) (hd : f.ds.length = u.f.ds.length)
    (S : Nat → Prop) (hoff : Off S W W') (hS : ∀ i, S i → i ∈ blksOf [u]) (o1 : WOwn W' B u.vw f.ws) (o2 : WOwn W' B u.vd f.ds) : SInv W' b B lim (A ++ ⟨f, u.vw, u.vd⟩ :: C) vl := by
  have hcells : Row.cells ⟨f, u.vw, u.vd⟩ = u.cells := by unfold Row.cells; simp [hk]
  have hflat : flatF (A ++ ⟨f, u.vw, u.vd⟩ :: C) = flatF (A ++ u :: C) := by
    simp only [flatF, List.flatMap_append, List.flatMap_cons, hcells]
  have htk : takenOf (A ++ ⟨f, u.vw, u.vd⟩ :: C) = takenOf (A ++ u :: C) := by
    simp only [takenOf, List.map_append, List.map_cons, List.sum_append, List.sum_cons, FrD.takes, hw, hd, hk]
  have hbk : blksOf (A ++ ⟨f, u.vw, u.vd⟩ :: C) = blksOf (A ++ u :: C) := by
    simp only [blksOf, wordsOf, List.flatMap_append, List.flatMap_cons]
  have hu : u ∈ A ++ u :: C := by simp
  obtain ⟨w1, w2⟩ := h.wrd u hu
  have hSB : ∀ i, S i → B ≤ i := by
    intro i hi
    obtain ⟨x, hx, hb⟩ := of_mem_blks (hS i hi)
    rw [List.mem_singleton] at hx
    subst hx
    rcases hb with hb | hb
    · exact own_from w1 i hb
    · exact own_from w2 i hb
  have hlt := h.lt
  have hinc := h.inc
  rw [show A ++ u :: C = A ++ ([u] ++ C) from rfl, blksOf_append, blksOf_append] at hinc
  obtain ⟨hA, hC⟩ := pair_mid hinc
  refine ⟨h.lt, Nat.le_trans h.sz hoff.size, ?_, ?_, ?_, ?_, ?_, h.lm⟩
  · rw [htk]
    exact hoff.blk h.blk (fun hs => by have := hSB b hs; omega)
  · rw [hflat]
    have hl : (A ++ (⟨f, u.vw, u.vd⟩ : Row) :: C).length = (A ++ u :: C).length := by simp
    rw [hl]
    refine hoff.own h.row (fun g hg hs => ?_)
    obtain ⟨x, hx, hb⟩ := of_mem_blks (hS g hs)
    rw [List.mem_singleton] at hx
    subst hx
    rcases hb with hb | hb
    · exact own_apart w1 h.row (by decide) g hb hg
    · exact own_apart w2 h.row (by decide) g hb hg
  · intro x hx
    have keep : ∀ y, y ∈ A ∨ y ∈ C → WOwn W' B y.vw y.f.ws ∧ WOwn W' B y.vd y.f.ds := by
      intro y hy
      have hy' : y ∈ A ++ u :: C := by rcases hy with hy | hy <;> simp [hy]
      obtain ⟨q1, q2⟩ := h.wrd y hy'
      have hno : ∀ g, (y.vw.ownBlock = some g ∨ y.vd.ownBlock = some g) → ¬ S g := by
        intro g hg hs
        have hm := hS g hs
        rcases hy with hy | hy
        · exact hA g hm g (mem_blks hy hg) rfl
        · exact hC g hm g (mem_blks hy hg) rfl
      exact ⟨hoff.own q1 (fun g hg => hno g (.inl hg)), hoff.own q2 (fun g hg => hno g (.inr hg))⟩
    rcases List.mem_append.1 hx with hx | hx
    · exact keep x (.inl hx)
    · rcases List.mem_cons.1 hx with rfl | hx
      · exact ⟨o1, o2⟩
      · exact keep x (.inr hx)
  · rw [hbk]; exact h.inc
  · rw [htk]; exact h.tk

end Go.Proofs.Ytmnadlgglmhfhaa
