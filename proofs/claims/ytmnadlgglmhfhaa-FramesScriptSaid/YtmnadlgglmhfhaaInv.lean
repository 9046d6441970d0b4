/- A stack in memory: what is known of it, and where it lies. No program is walked here. -/
import Derived.Test.YtmnadlgglmhfhaaSame
namespace Go.Proofs.Ytmnadlgglmhfhaa
open Go.RowKit

structure Row where
  f : FrD
  vw : Value
  vd : Value

def Row.cells (u : Row) : List Value := [.int .i64 u.f.k, .int .i64 u.f.o, .int .i64 u.f.n, .string u.f.s, u.vw, u.vd]
def flatF (us : List Row) : List Value := us.flatMap Row.cells
def wordsOf (us : List Row) : List Value := us.flatMap fun u => [u.vw, u.vd]
def blksOf (us : List Row) : List Nat := (wordsOf us).filterMap Value.ownBlock
def takenOf (us : List Row) : Nat := (us.map fun u => u.f.takes).sum

theorem flatF_len (us : List Row) : (flatF us).length = us.length * 6 := by
  induction us with
  | nil => rfl
  | cons x xs ih =>
    have h1 : x.cells.length = 6 := rfl
    have h2 : flatF (x :: xs) = x.cells ++ flatF xs := rfl
    rw [h2, List.length_append, ih, h1, List.length_cons]
    omega
theorem flatF_append (a b : List Row) : flatF (a ++ b) = flatF a ++ flatF b := by simp [flatF]
theorem flatF_one (u : Row) : flatF [u] = u.cells := by simp [flatF]
theorem flatF_get (us : List Row) (j : Nat) (h : j < us.length) (i : Nat) (hi : i < 6) : (flatF us)[j * 6 + i]? = (us[j]).cells[i]? := by
  induction us generalizing j with
  | nil => simp at h
  | cons x xs ih =>
    cases j with
    | zero =>
      rcases i with _|_|_|_|_|_|i <;> first | (exfalso; omega) | simp [flatF, Row.cells]
    | succ j =>
      have h' : j < xs.length := by simpa using h
      have := ih j h'
      rw [show (j + 1) * 6 + i = (j * 6 + i) + 6 from by omega]
      simpa [flatF, Row.cells] using this
theorem takenOf_append (a b : List Row) : takenOf (a ++ b) = takenOf a + takenOf b := by simp [takenOf]
theorem takenOf_one (u : Row) : takenOf [u] = u.f.takes := by simp [takenOf]
theorem blksOf_append (a b : List Row) : blksOf (a ++ b) = blksOf a ++ blksOf b := by simp [blksOf, wordsOf]
theorem len_le_taken (us : List Row) : us.length ≤ takenOf us := by
  induction us with
  | nil => simp
  | cons x xs ih => simp only [takenOf, List.map_cons, List.sum_cons, List.length_cons] at ih ⊢; have : 1 ≤ x.f.takes := (by unfold FrD.takes; omega); omega
theorem mem_takes {us : List Row} {u : Row} (h : u ∈ us) : u.f.takes ≤ takenOf us := by
  induction us with
  | nil => simp at h
  | cons x xs ih =>
    simp only [takenOf, List.map_cons, List.sum_cons] at ih ⊢
    rcases List.mem_cons.1 h with rfl | h
    · omega
    · have := ih h; omega
theorem mem_blks {us : List Row} {u : Row} (h : u ∈ us) {k : Nat} (hk : u.vw.ownBlock = some k ∨ u.vd.ownBlock = some k) : k ∈ blksOf us := by
  unfold blksOf wordsOf
  rw [List.mem_filterMap]
  rcases hk with hk | hk
  · exact ⟨u.vw, List.mem_flatMap.2 ⟨u, h, by simp⟩, hk⟩
  · exact ⟨u.vd, List.mem_flatMap.2 ⟨u, h, by simp⟩, hk⟩
theorem of_mem_blks {us : List Row} {k : Nat} (h : k ∈ blksOf us) : ∃ u ∈ us, u.vw.ownBlock = some k ∨ u.vd.ownBlock = some k := by
  unfold blksOf wordsOf at h
  rw [List.mem_filterMap] at h
  obtain ⟨v, hv, hk⟩ := h
  obtain ⟨u, hu, hm⟩ := List.mem_flatMap.1 hv
  simp at hm
  rcases hm with rfl | rfl
  · exact ⟨u, hu, .inl hk⟩
  · exact ⟨u, hu, .inr hk⟩

/-- Where a stack lies. -/
def Foot (b : Nat) (vl : Value) (us : List Row) (k : Nat) : Prop := k = b ∨ vl.ownBlock = some k ∨ k ∈ blksOf us

/-- What is known of a stack. -/
structure SInv (W : World) (b B lim : Nat) (us : List Row) (vl : Value) : Prop where
  lt : b < B
  sz : B ≤ W.heap.size
  blk : Blk W b #[.int .i64 lim, .int .i64 (takenOf us : Nat), vl, .bool true]
  row : W.ownsRow B 32 6 vl us.length (flatF us)
  wrd : ∀ u ∈ us, WOwn W B u.vw u.f.ws ∧ WOwn W B u.vd u.f.ds
  inc : (blksOf us).Pairwise (· < ·)
  tk : takenOf us ≤ lim
  lm : lim ≤ 4194304

/-- All that stood there stands as it stood, but for S. -/
structure Off (S : Nat → Prop) (W W' : World) : Prop where
  os : W'.os = W.os
  tape : W'.tape = W.tape
  output : W'.output = W.output
  size : W.heap.size ≤ W'.heap.size
  block : ∀ k, k < W.heap.size → ¬ S k → W'.heap[k]? = W.heap[k]?

theorem Off.of_below {S : Nat → Prop} {W W' : World} (h : Below W.heap.size W W') : Off S W W' := ⟨h.os, h.tape, h.output, h.size, fun k hk _ => h.block k hk⟩
theorem Off.trans {S S' T : Nat → Prop} {A B C : World} (h : Off S A B) (k : Off S' B C) (h1 : ∀ i, S i → T i) (h2 : ∀ i, S' i → T i ∨ A.heap.size ≤ i) : Off T A C :=
  ⟨k.os.trans h.os, k.tape.trans h.tape, k.output.trans h.output, Nat.le_trans h.size k.size, fun i hi hn =>
    (k.block i (Nat.lt_of_lt_of_le hi h.size) (fun hs => by rcases h2 i hs with q | q; exact hn q; omega)).trans (h.block i hi (fun hs => hn (h1 i hs)))⟩
theorem Off.below {S : Nat → Prop} {W W' : World} {B : Nat} (h : Off S W W') (hB : B ≤ W.heap.size) (hS : ∀ i, S i → B ≤ i) : Below B W W' :=
  ⟨h.os, h.tape, h.output, h.size, fun k hk => h.block k (by omega) (fun hs => by have := hS k hs; omega)⟩
theorem Off.blk {S : Nat → Prop} {W W' : World} (h : Off S W W') {b : Nat} {c : Array Value} (hb : Blk W b c) (hn : ¬ S b) : Blk W' b c := hb.of_same (h.block b hb.lt hn) h.size
theorem own_same {W W' : World} {base : Nat} {e : TypeId} {size : Nat} {v : Value} {n : Nat} {xs : List Value} (h : W.ownsRow base e size v n xs) (hs : ∀ g, v.ownBlock = some g → W'.heap[g]? = W.heap[g]?) : W'.ownsRow base e size v n xs := by
  refine ⟨h.1, ?_⟩
  rcases h.2 with h2 | ⟨g, cap, cur, rfl, hg, hh, r⟩
  · exact .inl h2
  · exact .inr ⟨g, cap, cur, rfl, hg, (hs g rfl).trans hh, r⟩
theorem Off.own {S : Nat → Prop} {W W' : World} (h : Off S W W') {base : Nat} {e : TypeId} {size : Nat} {v : Value} {n : Nat} {xs : List Value} (ho : W.ownsRow base e size v n xs) (hn : ∀ g, v.ownBlock = some g → ¬ S g) : W'.ownsRow base e size v n xs :=
  own_same ho fun g hg => h.block g (own_lt ho g hg) (hn g hg)

theorem SInv.foot_lt {W : World} {b B lim : Nat} {us : List Row} {vl : Value} (h : SInv W b B lim us vl) (k : Nat) (hk : Foot b vl us k) : k < W.heap.size ∧ (k = b ∨ B ≤ k) := by
  rcases hk with rfl | hk | hk
  · exact ⟨h.blk.lt, .inl rfl⟩
  · exact ⟨own_lt h.row k hk, .inr (own_from h.row k hk)⟩
  · obtain ⟨u, hu, hk⟩ := of_mem_blks hk
    obtain ⟨h1, h2⟩ := h.wrd u hu
    rcases hk with hk | hk
    · exact ⟨own_lt h1 k hk, .inr (own_from h1 k hk)⟩
    · exact ⟨own_lt h2 k hk, .inr (own_from h2 k hk)⟩

theorem SInv.on {W W' : World} {b B lim : Nat} {us : List Row} {vl : Value} (h : SInv W b B lim us vl) (hs : W.heap.size ≤ W'.heap.size) (hb : ∀ k, Foot b vl us k → W'.heap[k]? = W.heap[k]?) : SInv W' b B lim us vl :=
  ⟨h.lt, Nat.le_trans h.sz hs, h.blk.of_same (hb b (.inl rfl)) hs, own_same h.row (fun g hg => hb g (.inr (.inl hg))),
    fun u hu => ⟨own_same (h.wrd u hu).1 fun g hg => hb g (.inr (.inr (mem_blks hu (.inl hg)))), own_same (h.wrd u hu).2 fun g hg => hb g (.inr (.inr (mem_blks hu (.inr hg))))⟩, h.inc, h.tk, h.lm⟩
theorem SInv.below {W W' : World} {b B lim : Nat} {us : List Row} {vl : Value} (h : SInv W b B lim us vl) (hb : Below W.heap.size W W') : SInv W' b B lim us vl :=
  h.on hb.size fun k hk => hb.block k (h.foot_lt k hk).1
theorem SInv.off {S : Nat → Prop} {W W' : World} {b B lim : Nat} {us : List Row} {vl : Value} (h : SInv W b B lim us vl) (hb : Off S W W') (hn : ∀ k, Foot b vl us k → ¬ S k) : SInv W' b B lim us vl :=
  h.on hb.size fun k hk => hb.block k (h.foot_lt k hk).1 (hn k hk)

/-- A new one. -/
theorem SInv.start {W : World} {b lim : Nat} (h : Blk W b #[.int .i64 lim, .int .i64 0, .slice none 0 0, .bool true]) (hl : lim ≤ 4194304) : SInv W b (b + 1) lim [] (.slice none 0 0) :=
  ⟨Nat.lt_succ_self _, h.lt, h, World.ownsRow_nil _ _ _ _, fun u hu => by simp at hu, List.Pairwise.nil, Nat.zero_le _, hl⟩

theorem own_apart {W : World} {base base' : Nat} {e e' : TypeId} {size size' : Nat} {v v' : Value} {n n' : Nat} {xs xs' : List Value} (h : W.ownsRow base e size v n xs) (h' : W.ownsRow base' e' size' v' n' xs') (hne : e ≠ e') (g : Nat) (h1 : v.ownBlock = some g) (h2 : v'.ownBlock = some g) : False := by
  rcases h.2 with ⟨rfl, _⟩ | ⟨g1, c1, cur1, rfl, _, hb1, _⟩
  · simp [Value.ownBlock] at h1
  rcases h'.2 with ⟨rfl, _⟩ | ⟨g2, c2, cur2, rfl, _, hb2, _⟩
  · simp [Value.ownBlock] at h2
  simp [Value.ownBlock] at h1 h2
  subst h1; subst h2
  rw [hb1] at hb2
  simp only [Option.some.injEq, Obj.cells.injEq] at hb2
  exact hne hb2.2.1

theorem SInv.pushed {w WF : World} {b B lim m : Nat} {us : List Row} {vl vl' : Value} (h : SInv w b B lim us vl) (u : Row) (hT : Blk WF b #[.int .i64 lim, .int .i64 ((takenOf us : Int) + (u.f.takes : Int)), vl', .bool true]) (hsz : w.heap.size ≤ WF.heap.size)
    (hrow : WF.ownsRow B 32 6 vl' (us.length + 1) (flatF us ++ u.cells)) (o1 : WOwn WF w.heap.size u.vw u.f.ws) (o2 : WOwn WF m u.vd u.f.ds) (hm : w.heap.size ≤ m) (hm3 : ∀ i, u.vw.ownBlock = some i → i < m)
    (hg : ∀ g, vl'.ownBlock = some g → vl.ownBlock = some g ∨ w.heap.size ≤ g) (hoff : Off (fun i => i = b ∨ vl.ownBlock = some i) w WF) (hle : takenOf us + u.f.takes ≤ lim) :
    SInv WF b B lim (us ++ [u]) vl' ∧ (∀ k, Foot b vl' (us ++ [u]) k → Foot b vl us k ∨ w.heap.size ≤ k) ∧ Off (Foot b vl us) w WF := by
  have hta : takenOf (us ++ [u]) = takenOf us + u.f.takes := by rw [takenOf_append, takenOf_one]
  have hnew : ∀ k, k ∈ blksOf [u] → w.heap.size ≤ k := by
    intro k hk
    obtain ⟨x, hx, hkk⟩ := of_mem_blks hk
    rw [List.mem_singleton] at hx
    clear hk
    subst hx
    rcases hkk with hk | hk
    · exact own_from o1 k hk
    · have := own_from o2 k hk; omega
  have hold : ∀ k, k ∈ blksOf us → k < w.heap.size ∧ B ≤ k := by
    intro k hk
    obtain ⟨x, hx, hkk⟩ := of_mem_blks hk
    obtain ⟨q1, q2⟩ := h.wrd x hx
    rcases hkk with hk | hk
    · exact ⟨own_lt q1 k hk, own_from q1 k hk⟩
    · exact ⟨own_lt q2 k hk, own_from q2 k hk⟩
  refine ⟨⟨h.lt, Nat.le_trans h.sz hsz, ?_, ?_, ?_, ?_, by omega, h.lm⟩, ?_, ?_⟩
  · rw [hta, Int.natCast_add]; exact hT
  · rw [List.length_append, flatF_append, flatF_one]; exact hrow
  · intro x hx
    rcases List.mem_append.1 hx with hx | hx
    · obtain ⟨q1, q2⟩ := h.wrd x hx
      refine ⟨hoff.own q1 fun g hgx hs => ?_, hoff.own q2 fun g hgx hs => ?_⟩
      · rcases hs with rfl | hs
        · have := own_from q1 g hgx; have := h.lt; omega
        · exact own_apart q1 h.row (by decide) g hgx hs
      · rcases hs with rfl | hs
        · have := own_from q2 g hgx; have := h.lt; omega
        · exact own_apart q2 h.row (by decide) g hgx hs
    · rw [List.mem_singleton] at hx
      subst hx
      have := h.sz
      exact ⟨own_low o1 h.sz, own_low o2 (by omega)⟩
  · rw [blksOf_append, List.pairwise_append]
    refine ⟨h.inc, ?_, fun a ha c hc => ?_⟩
    · have hu : blksOf [u] = [u.vw, u.vd].filterMap Value.ownBlock := by simp [blksOf, wordsOf]
      rw [hu]
      rcases h1 : u.vw.ownBlock with _ | x <;> rcases h2 : u.vd.ownBlock with _ | y <;> simp [h1, h2]
      have := hm3 x h1
      have := own_from o2 y h2
      omega
    · have := (hold a ha).1
      have := hnew c hc
      omega
  · intro k hk
    rcases hk with rfl | hk | hk
    · exact .inl (.inl rfl)
    · rcases hg k hk with q | q
      · exact .inl (.inr (.inl q))
      · exact .inr q
    · rw [blksOf_append] at hk
      rcases List.mem_append.1 hk with hk | hk
      · exact .inl (.inr (.inr hk))
      · exact .inr (hnew k hk)
  · exact ⟨hoff.os, hoff.tape, hoff.output, hoff.size, fun k hk hn => hoff.block k hk (fun hs => hn (by rcases hs with rfl | hs; exact .inl rfl; exact .inr (.inl hs)))⟩

end Go.Proofs.Ytmnadlgglmhfhaa
