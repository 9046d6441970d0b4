/- The reference's stack in memory: what is known of it. (Printed by gen_ref.py from the texts of the stack's own.) -/
import Derived.Test.YtmnadlgglmhfhaaTurnsA
namespace Go.Proofs.Ytmnadlgglmhfhaa
open Go.RowKit

structure RInv (W : World) (b B lim : Nat) (us : List Row) (vl : Value) : Prop where
  lt : b < B
  sz : B ≤ W.heap.size
  blk : Blk W b #[.bool true, .int .i64 lim, vl]
  row : W.ownsRow B 32 6 vl us.length (flatF us)
  wrd : ∀ u ∈ us, WOwn W B u.vw u.f.ws ∧ WOwn W B u.vd u.f.ds
  inc : (blksOf us).Pairwise (· < ·)
  tk : takenOf us ≤ lim
  lm : lim ≤ 4194304

theorem RInv.foot_lt {W : World} {b B lim : Nat} {us : List Row} {vl : Value} (h : RInv W b B lim us vl) (k : Nat) (hk : Foot b vl us k) : k < W.heap.size ∧ (k = b ∨ B ≤ k) := by
  rcases hk with rfl | hk | hk
  · exact ⟨h.blk.lt, .inl rfl⟩
  · exact ⟨own_lt h.row k hk, .inr (own_from h.row k hk)⟩
  · obtain ⟨u, hu, hk⟩ := of_mem_blks hk
    obtain ⟨h1, h2⟩ := h.wrd u hu
    rcases hk with hk | hk
    · exact ⟨own_lt h1 k hk, .inr (own_from h1 k hk)⟩
    · exact ⟨own_lt h2 k hk, .inr (own_from h2 k hk)⟩

theorem RInv.on {W W' : World} {b B lim : Nat} {us : List Row} {vl : Value} (h : RInv W b B lim us vl) (hs : W.heap.size ≤ W'.heap.size) (hb : ∀ k, Foot b vl us k → W'.heap[k]? = W.heap[k]?) : RInv W' b B lim us vl :=
  ⟨h.lt, Nat.le_trans h.sz hs, h.blk.of_same (hb b (.inl rfl)) hs, own_same h.row (fun g hg => hb g (.inr (.inl hg))),
    fun u hu => ⟨own_same (h.wrd u hu).1 fun g hg => hb g (.inr (.inr (mem_blks hu (.inl hg)))), own_same (h.wrd u hu).2 fun g hg => hb g (.inr (.inr (mem_blks hu (.inr hg))))⟩, h.inc, h.tk, h.lm⟩

theorem RInv.below {W W' : World} {b B lim : Nat} {us : List Row} {vl : Value} (h : RInv W b B lim us vl) (hb : Below W.heap.size W W') : RInv W' b B lim us vl :=
  h.on hb.size fun k hk => hb.block k (h.foot_lt k hk).1

theorem RInv.off {S : Nat → Prop} {W W' : World} {b B lim : Nat} {us : List Row} {vl : Value} (h : RInv W b B lim us vl) (hb : Off S W W') (hn : ∀ k, Foot b vl us k → ¬ S k) : RInv W' b B lim us vl :=
  h.on hb.size fun k hk => hb.block k (h.foot_lt k hk).1 (hn k hk)

theorem RInv.start {W : World} {b lim : Nat} (h : Blk W b #[.bool true, .int .i64 lim, .slice none 0 0]) (hl : lim ≤ 4194304) : RInv W b (b + 1) lim [] (.slice none 0 0) :=
  ⟨Nat.lt_succ_self _, h.lt, h, World.ownsRow_nil _ _ _ _, fun u hu => by simp at hu, List.Pairwise.nil, Nat.zero_le _, hl⟩

theorem RInv.pushed {w WF : World} {b B lim m : Nat} {us : List Row} {vl vl' : Value} (h : RInv w b B lim us vl) (u : Row) (hT : Blk WF b #[.bool true, .int .i64 lim, vl']) (hsz : w.heap.size ≤ WF.heap.size)
    (hrow : WF.ownsRow B 32 6 vl' (us.length + 1) (flatF us ++ u.cells)) (o1 : WOwn WF w.heap.size u.vw u.f.ws) (o2 : WOwn WF m u.vd u.f.ds) (hm : w.heap.size ≤ m) (hm3 : ∀ i, u.vw.ownBlock = some i → i < m)
    (hg : ∀ g, vl'.ownBlock = some g → vl.ownBlock = some g ∨ w.heap.size ≤ g) (hoff : Off (fun i => i = b ∨ vl.ownBlock = some i) w WF) (hle : takenOf us + u.f.takes ≤ lim) :
    RInv WF b B lim (us ++ [u]) vl' ∧ (∀ k, Foot b vl' (us ++ [u]) k → Foot b vl us k ∨ w.heap.size ≤ k) ∧ Off (Foot b vl us) w WF := by
  have hta : takenOf (us ++ [u]) = takenOf us + u.f.takes := by rw [takenOf_append, takenOf_one]
  have hnew : ∀ k, k ∈ blksOf [u] → w.heap.size ≤ k := by
    intro k hk
    obtain ⟨x, hx, hkk⟩ := of_mem_blks hk
    rw [List.mem_singleton] at hx
    clear hk
    subst hx
    rcases hkk with hk | hk
    · exact own_from o1 k hk
    · have := own_from o2 k hk; omega
  have hold : ∀ k, k ∈ blksOf us → k < w.heap.size ∧ B ≤ k := by
    intro k hk
    obtain ⟨x, hx, hkk⟩ := of_mem_blks hk
    obtain ⟨q1, q2⟩ := h.wrd x hx
    rcases hkk with hk | hk
    · exact ⟨own_lt q1 k hk, own_from q1 k hk⟩
    · exact ⟨own_lt q2 k hk, own_from q2 k hk⟩
  refine ⟨⟨h.lt, Nat.le_trans h.sz hsz, ?_, ?_, ?_, ?_, by omega, h.lm⟩, ?_, ?_⟩
  · exact hT
  · rw [List.length_append, flatF_append, flatF_one]; exact hrow
  · intro x hx
    rcases List.mem_append.1 hx with hx | hx
    · obtain ⟨q1, q2⟩ := h.wrd x hx
      refine ⟨hoff.own q1 fun g hgx hs => ?_, hoff.own q2 fun g hgx hs => ?_⟩
      · rcases hs with rfl | hs
        · have := own_from q1 g hgx; have := h.lt; omega
        · exact own_apart q1 h.row (by decide) g hgx hs
      · rcases hs with rfl | hs
        · have := own_from q2 g hgx; have := h.lt; omega
        · exact own_apart q2 h.row (by decide) g hgx hs
    · rw [List.mem_singleton] at hx
      subst hx
      have := h.sz
      exact ⟨own_low o1 h.sz, own_low o2 (by omega)⟩
  · rw [blksOf_append, List.pairwise_append]
    refine ⟨h.inc, ?_, fun a ha c hc => ?_⟩
    · have hu : blksOf [u] = [u.vw, u.vd].filterMap Value.ownBlock := by simp [blksOf, wordsOf]
      rw [hu]
      rcases h1 : u.vw.ownBlock with _ | x <;> rcases h2 : u.vd.ownBlock with _ | y <;> simp [h1, h2]
      have := hm3 x h1
      have := own_from o2 y h2
      omega
    · have := (hold a ha).1
      have := hnew c hc
      omega
  · intro k hk
    rcases hk with rfl | hk | hk
    · exact .inl (.inl rfl)
    · rcases hg k hk with q | q
      · exact .inl (.inr (.inl q))
      · exact .inr q
    · rw [blksOf_append] at hk
      rcases List.mem_append.1 hk with hk | hk
      · exact .inl (.inr (.inr hk))
      · exact .inr (hnew k hk)
  · exact ⟨hoff.os, hoff.tape, hoff.output, hoff.size, fun k hk hn => hoff.block k hk (fun hs => hn (by rcases hs with rfl | hs; exact .inl rfl; exact .inr (.inl hs)))⟩

theorem RInv.slice {W : World} {b B lim : Nat} {us : List Row} {u : Row} {vl : Value} (h : RInv W b B lim (us ++ [u]) vl) : ∃ g cap, vl = .slice (some ⟨g, 0, none⟩) (us.length + 1) cap ∧ us.length + 1 ≤ cap := by
  rcases h.row.2 with ⟨_, h2⟩ | ⟨g, cap, cur, h1, _, _, h4, _⟩
  · simp at h2
  · exact ⟨g, cap, by rw [h1]; simp, by simpa using h4⟩

theorem RInv.last {W : World} {b B lim : Nat} {us : List Row} {u : Row} {g cap : Nat} (h : RInv W b B lim (us ++ [u]) (.slice (some ⟨g, 0, none⟩) (us.length + 1) cap)) (i : Nat) (hi : i < 6) : W.cell? ⟨g, us.length * 6 + i, none⟩ = u.cells[i]? := by
  have hx : (flatF (us ++ [u]))[us.length * 6 + i]? = u.cells[i]? := by
    rw [flatF_get (us ++ [u]) us.length (by simp) i hi]
    simp
  have hu : i < u.cells.length := by simpa [Row.cells] using hi
  rw [List.getElem?_eq_getElem hu] at hx ⊢
  have := h.row.cells (g := g) rfl _ _ hx
  rcases hj : us.length * 6 + i with _ | j
  · rw [hj] at this; simpa [Addr.add] using this
  · rw [hj] at this; simpa [Addr.add] using this

theorem RInv.popped {w WF : World} {b B lim : Nat} {us : List Row} {u : Row} {g cap : Nat} (h : RInv w b B lim (us ++ [u]) (.slice (some ⟨g, 0, none⟩) (us.length + 1) cap))
    (hT : Blk WF b #[.bool true, .int .i64 lim, .slice (some ⟨g, 0, none⟩) us.length cap]) (hoff : Off (fun i => i = b) w WF) :
    RInv WF b B lim us (.slice (some ⟨g, 0, none⟩) us.length cap) ∧ (∀ k, Foot b (.slice (some ⟨g, 0, none⟩) us.length cap) us k → Foot b (.slice (some ⟨g, 0, none⟩) (us.length + 1) cap) (us ++ [u]) k) := by
  have hta : takenOf (us ++ [u]) = takenOf us + u.f.takes := by rw [takenOf_append, takenOf_one]
  have hr := h.row
  rw [flatF_append, List.length_append] at hr
  have hr2 := own_init (n := us.length) hr (flatF_len us)
  have htk := h.tk
  have hlt := h.lt
  refine ⟨⟨h.lt, Nat.le_trans h.sz hoff.size, hT, hoff.own hr2 (fun k hk e => ?_), fun x hx => ?_, ?_, by omega, h.lm⟩, ?_⟩
  · have := own_from hr2 k hk; omega
  · obtain ⟨q1, q2⟩ := h.wrd x (List.mem_append_left _ hx)
    exact ⟨hoff.own q1 (fun k hk e => by have := own_from q1 k hk; omega), hoff.own q2 (fun k hk e => by have := own_from q2 k hk; omega)⟩
  · have := h.inc
    rw [blksOf_append] at this
    exact (List.pairwise_append.1 this).1
  · intro k hk
    rcases hk with rfl | hk | hk
    · exact .inl rfl
    · exact .inr (.inl hk)
    · exact .inr (.inr (by rw [blksOf_append]; exact List.mem_append_left _ hk))

theorem RInv.foot_from {W : World} {b B lim : Nat} {us : List Row} {vl : Value} (h : RInv W b B lim us vl) (n : Nat) (hn : n ≤ b) : ∀ i, Foot b vl us i → n ≤ i := by
  intro i hi
  have := (h.foot_lt i hi).2
  have := h.lt
  omega

theorem RInv.rewrite {W W' : World} {b B lim : Nat} {A C : List Row} {u : Row} {vl : Value} (h : RInv W b B lim (A ++ u :: C) vl) (f : FrD) (hk : f.k = u.f.k ∧ f.o = u.f.o ∧ f.n = u.f.n ∧ f.s = u.f.s) (hw : f.ws.length = u.f.ws.length) (hd : f.ds.length = u.f.ds.length)
    (S : Nat → Prop) (hoff : Off S W W') (hS : ∀ i, S i → i ∈ blksOf [u]) (o1 : WOwn W' B u.vw f.ws) (o2 : WOwn W' B u.vd f.ds) : RInv W' b B lim (A ++ ⟨f, u.vw, u.vd⟩ :: C) vl := by
  have hcells : Row.cells ⟨f, u.vw, u.vd⟩ = u.cells := by unfold Row.cells; simp [hk]
  have hflat : flatF (A ++ ⟨f, u.vw, u.vd⟩ :: C) = flatF (A ++ u :: C) := by
    simp only [flatF, List.flatMap_append, List.flatMap_cons, hcells]
  have htk : takenOf (A ++ ⟨f, u.vw, u.vd⟩ :: C) = takenOf (A ++ u :: C) := by
    simp only [takenOf, List.map_append, List.map_cons, List.sum_append, List.sum_cons, FrD.takes, hw, hd, hk]
  have hbk : blksOf (A ++ ⟨f, u.vw, u.vd⟩ :: C) = blksOf (A ++ u :: C) := by
    simp only [blksOf, wordsOf, List.flatMap_append, List.flatMap_cons]
  have hu : u ∈ A ++ u :: C := by simp
  obtain ⟨w1, w2⟩ := h.wrd u hu
  have hSB : ∀ i, S i → B ≤ i := by
    intro i hi
    obtain ⟨x, hx, hb⟩ := of_mem_blks (hS i hi)
    rw [List.mem_singleton] at hx
    subst hx
    rcases hb with hb | hb
    · exact own_from w1 i hb
    · exact own_from w2 i hb
  have hlt := h.lt
  have hinc := h.inc
  rw [show A ++ u :: C = A ++ ([u] ++ C) from rfl, blksOf_append, blksOf_append] at hinc
  obtain ⟨hA, hC⟩ := pair_mid hinc
  refine ⟨h.lt, Nat.le_trans h.sz hoff.size, ?_, ?_, ?_, ?_, ?_, h.lm⟩
  · exact hoff.blk h.blk (fun hs => by have := hSB b hs; omega)
  · rw [hflat]
    have hl : (A ++ (⟨f, u.vw, u.vd⟩ : Row) :: C).length = (A ++ u :: C).length := by simp
    rw [hl]
    refine hoff.own h.row (fun g hg hs => ?_)
    obtain ⟨x, hx, hb⟩ := of_mem_blks (hS g hs)
    rw [List.mem_singleton] at hx
    subst hx
    rcases hb with hb | hb
    · exact own_apart w1 h.row (by decide) g hb hg
    · exact own_apart w2 h.row (by decide) g hb hg
  · intro x hx
    have keep : ∀ y, y ∈ A ∨ y ∈ C → WOwn W' B y.vw y.f.ws ∧ WOwn W' B y.vd y.f.ds := by
      intro y hy
      have hy' : y ∈ A ++ u :: C := by rcases hy with hy | hy <;> simp [hy]
      obtain ⟨q1, q2⟩ := h.wrd y hy'
      have hno : ∀ g, (y.vw.ownBlock = some g ∨ y.vd.ownBlock = some g) → ¬ S g := by
        intro g hg hs
        have hm := hS g hs
        rcases hy with hy | hy
        · exact hA g hm g (mem_blks hy hg) rfl
        · exact hC g hm g (mem_blks hy hg) rfl
      exact ⟨hoff.own q1 (fun g hg => hno g (.inl hg)), hoff.own q2 (fun g hg => hno g (.inr hg))⟩
    rcases List.mem_append.1 hx with hx | hx
    · exact keep x (.inl hx)
    · rcases List.mem_cons.1 hx with rfl | hx
      · exact ⟨o1, o2⟩
      · exact keep x (.inr hx)
  · rw [hbk]; exact h.inc
  · rw [htk]; exact h.tk

end Go.Proofs.Ytmnadlgglmhfhaa
