/- core: how many arguments a primitive takes: some number. core: what stands as long as one block alone is changed. core: constructors' table, notes of faults, alternatives in memory. -/
import Derived.Test.YtkcgchpflppmnaaEvS
import Derived.Test.YtkcgchpflppmnaaOeG
import Derived.Test.YtkcgchpflppmnaaOeB
namespace Go.Proofs.Ytkcgchpflppmnaa
open Go.RowKit
open Ev (AV Mem AObj V VL MR ME UM)
set_option linter.unusedSimpArgs false
set_option linter.unusedVariables false
set_option maxRecDepth 100000

def IntV (v : Value) : Prop := ∃ n : Int, v = .int .i64 n
namespace Pri
def entB : AV × AV × Nat → Bool
  | (.str _, .int .i64 _, _) => true
  | _ => false
def entsB : List (AV × AV × Nat) → Bool
  | [] => true
  | e :: es => entB e && entsB es
noncomputable def oneB : AV × Mem → Bool
  | (.map b, M) => match M.get b with
    | some (.map es _) => entsB es
    | _ => false
  | _ => false
noncomputable def allB : List (AV × Mem) → Bool
  | [] => true
  | r :: l => oneB r && allB l
noncomputable def ansB : Option (List (AV × Mem)) → Bool
  | some l => allB l
  | none => false
set_option maxRecDepth 1000000 in
theorem runs : ansB (Ev.calls Try.prog Ev.noFacts 100000 60 73 [] Mem.start) = true := by kernel_rfl
theorem allB_mem : ∀ {l : List (AV × Mem)}, allB l = true → ∀ r ∈ l, oneB r = true
  | [], _, r, hr => by cases hr
  | q :: l, h, r, hr => by
    rw [allB, Bool.and_eq_true] at h
    rcases List.mem_cons.1 hr with rfl | hr
    · exact h.1
    · exact allB_mem h.2 r hr
theorem oneB_inv {v : AV} {M : Mem} (h : oneB (v, M) = true) : ∃ b es ck, v = .map b ∧ M.get b = some (.map es ck) ∧ entsB es = true := by
  cases v <;> first | (simp only [oneB] at h; cases h; done) | skip
  rename_i b
  simp only [oneB] at h
  split at h
  · rename_i es ck e
    exact ⟨b, es, ck, rfl, e, h⟩
  · cases h
theorem entsB_at : ∀ {es : List (AV × AV × Nat)}, entsB es = true → ∀ e ∈ es, ∃ s n c, e = (.str s, .int .i64 n, c)
  | [], _, e, he => by cases he
  | q :: es, h, e, he => by
    rw [entsB, Bool.and_eq_true] at h
    rcases List.mem_cons.1 he with rfl | he
    · have h1 := h.1
      unfold entB at h1
      split at h1
      · exact ⟨_, _, _, rfl⟩
      · cases h1
    · exact entsB_at h.2 e he
theorem me_mem {ν : Nat → Value} {E : Ev.Env} : ∀ {es : List (AV × AV × Nat)} {ms : List MapEntry}, ME ν E es ms → ∀ m ∈ ms, ∃ e ∈ es, V ν E e.1 m.key ∧ V ν E e.2.1 m.val
  | [], ms, h, m, hm => by
    simp only [ME] at h
    subst h
    cases hm
  | e :: es, ms, h, m, hm => by
    simp only [ME] at h
    obtain ⟨m', ms', rfl, h1, h2, -, h3⟩ := h
    rcases List.mem_cons.1 hm with rfl | hm
    · exact ⟨e, List.mem_cons_self .., h1, h2⟩
    · obtain ⟨e', he, k⟩ := me_mem h3 m hm
      exact ⟨e', List.mem_cons_of_mem _ he, k⟩
end Pri
theorem mixE : Try.prog.follows .mixedOrders = true := by kernel_rfl
/-- The table is made: a map from texts to numbers. -/
theorem primitives_any (w : World) : Calls Try.prog 73 #[] w fun e w' => ∃ b, e = .returned (.map (some b)) ∧ Below w.heap.size w w' ∧ WMap w' b IntV := by
  have h := Pri.runs
  cases e : Ev.calls Try.prog Ev.noFacts 100000 60 73 [] Mem.start with
  | none => rw [e] at h; cases h
  | some l =>
    rw [e] at h
    have hall := Pri.allB_mem (show Pri.allB l = true from h)
    refine Calls.mono (Ev.calls_ok (ν := fun _ => undef) mixE 100000 60 _ _ 73 [] Mem.start l e rfl (fun _ => none) #[] w (by simp only [VL]) (MR.start w)) fun e w' he => ?_
    obtain ⟨⟨v, M⟩, hr, E', x, _, rfl, hx, hM, _⟩ := he
    obtain ⟨b, es, ck0, rfl, hg, hk⟩ := Pri.oneB_inv (hall _ hr)
    simp only [V] at hx
    obtain ⟨q, hq, rfl⟩ := hx
    refine ⟨q.1, rfl, hM.low, ?_⟩
    obtain ⟨p, hp, ho⟩ := hM.obj b _ hg
    rw [hq] at hp
    obtain rfl := Option.some.inj hp
    obtain ⟨ms, h1, h2⟩ := ho
    refine ⟨ms, ck0, h1, fun m hm => ?_⟩
    obtain ⟨e, he, hke, hve⟩ := Pri.me_mem h2 m hm
    obtain ⟨s, n, c, rfl⟩ := Pri.entsB_at hk e he
    simp only [V] at hke hve
    exact ⟨⟨_, hke.1⟩, ⟨n, hve⟩⟩
set_option maxHeartbeats 1000000 in
theorem arity_any (s : ByteArray) (w : World) :
    Calls Try.prog 59 #[.string s] w fun e w' => SomeInt w e w' := by
  have KP := primitives_any w
  go_enter Try.func59, Try.ntmps59
  go_upto_region 1 with fail
  go_upto_region 2 with (go_at_call 73; refine KP.mono ?_; rintro r1 w1 ⟨b, rfl, b1, HM⟩; obtain ⟨v, bb, ⟨n, rfl⟩, hlk⟩ := weak_lookup HM s Try.underlying107 (z := .int .i64 0) (fun w => Try.zeroValue3 w) ⟨0, rfl⟩)
  rcases bb with _ | _
  · go_wp2
    go_ret
    exact SomeInt.mk rfl b1
  · go_wp2
    go_ret
    exact SomeInt.mk rfl b1
end Go.Proofs.Ytkcgchpflppmnaa

namespace Go.Proofs.Ytkcgchpflppmnaa
open Go.RowKit
set_option linter.unusedSimpArgs false
set_option linter.unusedVariables false

/-- No text, slice or address lies in that block. -/
def Bad (W : World) (m : Nat) : Prop := ∀ o, (∀ s, W.cell? ⟨m, o, none⟩ ≠ some (.string s)) ∧ (∀ a l c, W.cell? ⟨m, o, none⟩ ≠ some (.slice a l c))
theorem Bad.set {W : World} {m : Nat} {l : List ByteArray} (h : SSet W m l) : Bad W m := by
  obtain ⟨ms, ck, h1, -⟩ := h
  have h0 : ∀ o, W.cell? ⟨m, o, none⟩ = none := fun o => by unfold World.cell?; simp [h1]
  exact fun o => ⟨fun s e => (by rw [h0] at e; cases e), fun a l c e => (by rw [h0] at e; cases e)⟩
theorem Bad.blk {W : World} {m : Nat} {v : Value} {k : Int} (h : Blk W m #[v, .int .i64 k]) (hv : ∃ b, v = .map b) : Bad W m := by
  obtain ⟨bm, rfl⟩ := hv
  have h0 : ∀ o, W.cell? ⟨m, o, none⟩ = some (.map bm) ∨ W.cell? ⟨m, o, none⟩ = some (.int .i64 k) ∨ W.cell? ⟨m, o, none⟩ = none := fun o => by
    rw [h.cell o]
    rcases o with _ | _ | o
    · exact .inl rfl
    · exact .inr (.inl rfl)
    · exact .inr (.inr (by simp))
  refine fun o => ⟨fun s e => ?_, fun a l c e => ?_⟩
  · rcases h0 o with k | k | k <;> rw [k] at e <;> cases e
  · rcases h0 o with k | k | k <;> rw [k] at e <;> cases e
variable {W W' : World} {m : Nat}
theorem cell_grown (hg : W.grownBy W' (some m)) {b o : Nat} {v : Value} (h : W.cell? ⟨b, o, none⟩ = some v) (hb : b ≠ m) (hl : b < W.heap.size) : W'.cell? ⟨b, o, none⟩ = some v :=
  (World.cell?_of_block (a := ⟨b, o, none⟩) (hg.block b hl (fun e => hb (Option.some.inj e)))).trans h
theorem str_grown (hg : W.grownBy W' (some m)) (hm : Bad W m) {b o : Nat} {s : ByteArray} (h : W.cell? ⟨b, o, none⟩ = some (.string s)) (hl : b < W.heap.size) : W'.cell? ⟨b, o, none⟩ = some (.string s) :=
  cell_grown hg h (fun e => (hm o).1 s (e ▸ h)) hl
theorem sl_grown (hg : W.grownBy W' (some m)) (hm : Bad W m) {b o : Nat} {a : Option Addr} {l c : Nat} (h : W.cell? ⟨b, o, none⟩ = some (.slice a l c)) (hl : b < W.heap.size) : W'.cell? ⟨b, o, none⟩ = some (.slice a l c) :=
  cell_grown hg h (fun e => (hm o).2 a l c (e ▸ h)) hl
theorem Txs.grown (hg : W.grownBy W' (some m)) (hm : Bad W m) {v : Value} {l : List ByteArray} (h : Txs W v l) : Txs W' v l :=
  SlAt.mono h hg.size fun b o x hl _ hx => str_grown hg hm hx hl
theorem CellsAt.grown (hg : W.grownBy W' (some m)) {b o : Nat} {l : List Value} (h : CellsAt W b o l) (hb : b ≠ m) (hl : b < W.heap.size) : CellsAt W' b o l :=
  fun j c hj => cell_grown hg (h j c hj) hb hl
theorem PartsN.grown {α : Type} {A A' : Nat → Nat → α → Prop} (hg : W.grownBy W' (some m)) (hm : Bad W m) {l : List Value} {e : ExN α} (h : PartsN W A l e) (hA : ∀ b o x, b < W.heap.size → A b o x → A' b o x) : PartsN W' A' l e := by
  obtain ⟨ps, bs, xs, ls, h0, h1, h2, h3, h4⟩ := h
  refine ⟨ps, bs, xs, ls, h0, h1.grown hg hm, h2.mono hg.size fun b o x hl _ hx => ⟨str_grown hg hm hx.1 hl, hA _ _ _ hl hx.2⟩, h3.mono hg.size fun b o x hl _ hx => hA _ _ _ hl hx, h4.mono hg.size fun b o x hl _ hx => ?_⟩
  obtain ⟨vs, k1, k2, k3⟩ := hx
  exact ⟨vs, k1.grown hg (fun e => (hm (o + 1)).1 x.name (e ▸ k1 1 _ rfl)) hl, k2.grown hg hm, hA _ _ _ hl k3⟩
theorem ExAt.grown (hg : W.grownBy W' (some m)) (hm : Bad W m) : ∀ (d b o : Nat) (e : Ex d), b < W.heap.size → ExAt W d b o e → ExAt W' d b o e
  | 0, _, _, e, _, _ => nomatch (e : Empty)
  | d + 1, b, o, e, hl, ⟨l, h1, h2⟩ => by
    have hb : b ≠ m := by
      obtain ⟨ps, bs, xs, ls, h0, -⟩ := id h2
      subst h0
      exact fun e => (hm (o + 1)).1 _ (e ▸ h1 1 _ rfl)
    exact ⟨l, h1.grown hg hb hl, h2.grown hg hm fun b o x hl => ExAt.grown hg hm d b o x hl⟩
theorem FrAt.grown (hg : W.grownBy W' (some m)) (hm : Bad W m) : ∀ (fs : List (List ByteArray)) (v : Value), FrAt W v fs → FrAt W' v fs
  | [], _, h => h
  | ns :: r, v, ⟨b, vs, vo, h1, h2, h3, h4, h5, h6⟩ => by
    obtain ⟨qa, qc, rfl, -⟩ := id h5
    have hb : b ≠ m := fun e => (hm 0).2 _ _ _ (e ▸ h3)
    exact ⟨b, _, vo, h1, Nat.lt_of_lt_of_le h2 hg.size, cell_grown hg h3 hb h2, cell_grown hg h4 hb h2, h5.grown hg hm, FrAt.grown hg hm r vo h6⟩
/-- A new scope. -/
theorem FrAt.push {W : World} {vs vo : Value} {ns : List ByteArray} {fs : List (List ByteArray)} (h : Txs W vs ns) (k : FrAt W vo fs) (t : TypeId) : FrAt (W.alloc (.cells #[vs, vo] t)) (.pointer (some ⟨W.heap.size, 0, none⟩)) (ns :: fs) := by
  have R := Blk.new W #[vs, vo] t
  have hB : Below W.heap.size W (W.alloc (.cells #[vs, vo] t)) := (Below.refl _ W).alloc (Nat.le_refl _) _
  exact ⟨W.heap.size, vs, vo, rfl, R.lt, R.cell 0, R.cell 1, h.below hB, FrAt.below hB fs vo k⟩
theorem SSet.alloc {W : World} {m : Nat} {l : List ByteArray} (h : SSet W m l) (o : Obj) : SSet (W.alloc o) m l := h.of_same (Below.heap_alloc _ _ _ h.lt)
theorem SSet.below {W W' : World} {m : Nat} {l : List ByteArray} (h : SSet W m l) (hb : Below W.heap.size W W') : SSet W' m l := h.of_same (hb.block m h.lt)
theorem BNs.grown (hg : W.grownBy W' (some m)) (hm : Bad W m) {v : Value} {l : List ByteArray} (h : BNs W v l) : BNs W' v l := by
  unfold BNs at h ⊢
  refine h.mono hg.size fun b o x hl _ hx => ?_
  obtain ⟨k, m2, nm, p, q, r, s, p1, p2, q1, q2, r1, r2, s1, s2, hc⟩ := hx
  exact ⟨k, m2, nm, p, q, r, s, p1, p2, q1, q2, r1, r2, s1, s2, hc.grown hg (fun e => (hm o).1 x (e ▸ hc 0 _ rfl)) hl⟩
theorem FrSm.cons {ns : List ByteArray} {fs : List (List ByteArray)} (h : ns.length ≤ 10000000) (k : FrSm fs) : FrSm (ns :: fs) := fun x hx => by
  rcases List.mem_cons.1 hx with rfl | hx
  · omega
  · exact k x hx

/-- Free in an expression, and in none of those scopes. -/
def Fre (d : Nat) (x : Ex d) (fs : List (List ByteArray)) (y : ByteArray) : Prop := (∀ ns ∈ fs, y ∉ ns) ∧ 0 < cN y d x
theorem any_has {fs : List (List ByteArray)} {y : ByteArray} : (fs.any fun ns => decide (y ∈ ns)) = false ↔ ∀ ns ∈ fs, y ∉ ns := by
  rw [List.any_eq_false]
  exact ⟨fun h ns hn => by have := h ns hn; simpa using this, fun h ns hn => by simpa using h ns hn⟩
/-- What is free in an expression, by its parts. -/
theorem fre_succ (d : Nat) (e : ExN (Ex d)) (fs : List (List ByteArray)) (y : ByteArray) {ns bs : List ByteArray} (hns : e.params = ns) (hbs : e.binds.map (·.1) = bs) :
    Fre (d + 1) e fs y ↔ (e.kind = 1 ∧ ((ns :: bs :: fs).any fun l => decide (e.name ∈ l)) = false ∧ y = e.name) ∨ (∃ x ∈ e.args, Fre d x (ns :: bs :: fs) y) ∨ (∃ x ∈ e.binds, Fre d x.2 (ns :: bs :: fs) y) ∨ (∃ x ∈ e.alts, Fre d x.e (x.vars :: ns :: bs :: fs) y) := by
  subst hns hbs
  have hh : hidesK e y = false ↔ y ∉ e.params ∧ y ∉ e.binds.map (·.1) := by unfold hidesK; simp
  have hall : ∀ z : ByteArray, (∀ ns ∈ e.params :: e.binds.map (·.1) :: fs, z ∉ ns) ↔ (z ∉ e.params ∧ z ∉ e.binds.map (·.1)) ∧ ∀ ns ∈ fs, z ∉ ns := fun z => by
    simp only [List.mem_cons, forall_eq_or_imp, and_assoc]
  unfold Fre
  rw [show cN y (d + 1) e = cN y (d + 1) (e : ExN (Ex d)) from rfl]
  rw [cN_pos, any_has]
  simp only [hall, hh, List.forall_mem_cons]
  constructor
  · rintro ⟨h1, h2, h | ⟨x, hx, h⟩ | ⟨x, hx, h⟩ | ⟨x, hx, hv, h⟩⟩
    · obtain ⟨hk, rfl⟩ := h
      exact .inl ⟨hk, ⟨h2.1, h2.2, h1⟩, rfl⟩
    · exact .inr (.inr (.inl ⟨x, hx, ⟨h2.1, h2.2, h1⟩, h⟩))
    · exact .inr (.inl ⟨x, hx, ⟨h2.1, h2.2, h1⟩, h⟩)
    · exact .inr (.inr (.inr ⟨x, hx, ⟨hv, h2.1, h2.2, h1⟩, h⟩))
  · rintro (⟨hk, ⟨h2, h3, h1⟩, rfl⟩ | ⟨x, hx, ⟨h2, h3, h1⟩, h⟩ | ⟨x, hx, ⟨h2, h3, h1⟩, h⟩ | ⟨x, hx, ⟨hv, h2, h3, h1⟩, h⟩)
    · exact ⟨h1, ⟨h2, h3⟩, .inl ⟨hk, rfl⟩⟩
    · exact ⟨h1, ⟨h2, h3⟩, .inr (.inr (.inl ⟨x, hx, h⟩))⟩
    · exact ⟨h1, ⟨h2, h3⟩, .inr (.inl ⟨x, hx, h⟩)⟩
    · exact ⟨h1, ⟨h2, h3⟩, .inr (.inr (.inr ⟨x, hx, hv, h⟩))⟩
end Go.Proofs.Ytkcgchpflppmnaa

namespace Go.Proofs.Ytkcgchpflppmnaa
open Go.RowKit
set_option linter.unusedSimpArgs false
set_option linter.unusedVariables false

def ConV (v : Value) : Prop := ∃ (a : ByteArray) (n : Int) (t : ByteArray) (g : Int), v = .agg #[.string a, .int .i64 n, .string t, .int .i64 g]
theorem con_zero (w : World) : (zeroValue 75).run Try.prog w = .ok (.agg #[.string ⟨#[]⟩, .int .i64 0, .string ⟨#[]⟩, .int .i64 0]) w := Try.zeroValue75 w
theorem con_lookup {w : World} {m : Nat} (h : WMap w m ConV) (a : ByteArray) : ∃ (s : ByteArray) (n : Int) (t : ByteArray) (g : Int) (b : Bool), (Instr.lookup 71 (.map (some m)) (.string a) true).run Try.prog w = .ok (.tuple #[.agg #[.string s, .int .i64 n, .string t, .int .i64 g], .bool b]) w := by
  obtain ⟨v, b, ⟨s, n, t, g, rfl⟩, h1⟩ := weak_lookup h a Try.underlying71 con_zero ⟨_, _, _, _, rfl⟩
  exact ⟨s, n, t, g, b, h1⟩
theorem con_lookup_all {w : World} {m : Nat} (h : WMap w m ConV) (a : ByteArray) : ∃ (s : ByteArray) (n : Int) (t : ByteArray) (g : Int) (b : Bool), ∀ W : World, W.heap[m]? = w.heap[m]? → (Instr.lookup 71 (.map (some m)) (.string a) true).run Try.prog W = .ok (.tuple #[.agg #[.string s, .int .i64 n, .string t, .int .i64 g], .bool b]) W := by
  obtain ⟨ms, ck, h1, h2⟩ := h
  rcases find_weak a (i := 0) h2 with k | ⟨j, v, k, s, n, t, g, rfl⟩
  · refine ⟨⟨#[]⟩, 0, ⟨#[]⟩, 0, false, fun W hW => ?_⟩
    simp only [Instr.lookup, Sem.run_bind, run_underlying Try.underlying71, Result.andThen_ok, Ev.run_getMap (hW.trans h1), Sem.run_pure, Ev.run_checkKey keyS]
    simp [Ev.run_findKey keyS k, con_zero]
  · refine ⟨s, n, t, g, true, fun W hW => ?_⟩
    simp only [Instr.lookup, Sem.run_bind, run_underlying Try.underlying71, Result.andThen_ok, Ev.run_getMap (hW.trans h1), Sem.run_pure, Ev.run_checkKey keyS]
    simp [Ev.run_findKey keyS k]
theorem note_any (cb : Nat) (mv : Value) (k : Int) (c : Bool) (e : Int) (w : World) (R : Blk w cb #[mv, .int .i64 k]) :
    Calls Try.prog 55 #[.pointer (some ⟨cb, 0, none⟩), .bool c, .int .i64 e] w fun r w' => NotePost w cb mv r w' := by
  cases c
  · exact note_no cb mv k e w R
  · exact note_yes cb mv k e w R
/-- Alternatives in memory, all cells of them. -/
def AlS {d : Nat} (W : World) (v : Value) (L : List (AltN (Ex d))) : Prop :=
  SlAt W 11 (fun b o x => ∃ (a : Option Addr) (c : Nat) (k m : Int) (nm : ByteArray) (p q r s : Option Addr) (p1 p2 q1 q2 r1 r2 s1 s2 : Nat), CellsAt W b o [.int .i64 x.kind, .string x.name, .int .i64 x.num, .slice a x.vars.length c, .int .i64 k, .string nm, .int .i64 m, .slice p p1 p2, .slice q q1 q2, .slice r r1 r2, .slice s s1 s2] ∧ Txs W (.slice a x.vars.length c) x.vars) v L
theorem alts_of {d : Nat} {W : World} {v : Value} {L : List (AltN (Ex d))} (h : SlAt W 11 (fun b o x => ∃ vs, CellsAt W b o [.int .i64 x.kind, .string x.name, .int .i64 x.num, vs] ∧ Txs W vs x.vars ∧ ExAt W d b (o + 4) x.e) v L) : AlS W v L := by
  obtain ⟨a, cap, rfl, hc⟩ := h
  refine ⟨a, cap, rfl, fun hl => ?_⟩
  obtain ⟨b, o, rfl, hb, hat⟩ := hc hl
  refine ⟨b, o, rfl, hb, fun k x hx => ?_⟩
  obtain ⟨vs, h1, h2, h3⟩ := hat k x hx
  obtain ⟨av, cv, rfl, -⟩ := id h2
  cases d with
  | zero => exact nomatch (x.e : Empty)
  | succ d =>
    obtain ⟨cs, h4, _, _, _, _, rfl, ⟨p, p2, rfl, _⟩, ⟨q, q2, rfl, _⟩, ⟨r, r2, rfl, _⟩, ⟨s, s2, rfl, _⟩⟩ := h3
    obtain ⟨z, hz⟩ : ∃ z : ExN (Ex d), z = x.e := ⟨_, rfl⟩
    rw [← hz] at h4
    refine ⟨av, cv, z.kind, z.num, z.name, p, q, r, s, z.params.length, p2, z.binds.length, q2, z.args.length, r2, z.alts.length, s2, fun j c hj => ?_, h2⟩
    rcases j with _ | _ | _ | _ | j
    · exact h1 0 _ (by simpa using hj)
    · exact h1 1 _ (by simpa using hj)
    · exact h1 2 _ (by simpa using hj)
    · exact h1 3 _ (by simpa using hj)
    · have := h4 j c (by simpa using hj)
      rw [show o + k * 11 + (j + 4) = o + k * 11 + 4 + j by omega]
      exact this
theorem WMap.grown {W W' : World} {m bm : Nat} {Q : Value → Prop} (h : WMap W bm Q) (hg : W.grownBy W' (some m)) (hne : bm ≠ m) : WMap W' bm Q :=
  h.of_same (hg.block bm h.lt (fun e => hne (Option.some.inj e)))
theorem WMap.below {W W' : World} {bm : Nat} {Q : Value → Prop} (h : WMap W bm Q) (hb : Below W.heap.size W W') : WMap W' bm Q := h.of_same (hb.block bm h.lt)
theorem map_ne {W : World} {bm cb : Nat} {Q : Value → Prop} {c : Array Value} (h : WMap W bm Q) (R : Blk W cb c) (hc : 0 < c.size) : bm ≠ cb := by
  rintro rfl
  obtain ⟨ms, ck, h1, -⟩ := h
  have h0 := R.cell 0
  rw [Array.getElem?_eq_getElem hc] at h0
  unfold World.cell? at h0
  simp [h1] at h0
theorem Blk.grown {W W' : World} {m b : Nat} {c : Array Value} (h : Blk W b c) (hg : W.grownBy W' (some m)) (hne : b ≠ m) : Blk W' b c :=
  h.of_same (hg.block b h.lt (fun e => hne (Option.some.inj e))) hg.size
theorem SSet.grown {W W' : World} {m k : Nat} {l : List ByteArray} (h : SSet W k l) (hg : W.grownBy W' (some m)) (hne : k ≠ m) : SSet W' k l :=
  h.of_same (hg.block k h.lt (fun e => hne (Option.some.inj e)))

/-- The state of a look at alternatives: the checker, the names seen, the copy of one alternative. -/
structure ASt (w W : World) (cb bm mm r2 : Nat) (arr : Array Value) (ls : List ByteArray) : Prop where
  c : ∃ k, Blk W cb #[.map (some bm), .int .i64 k]
  s : SSet W mm ls
  g : w.grownBy W (some cb)
  m : WMap W bm ConV
  r : Blk W r2 arr
  n1 : r2 ≠ cb
  n2 : r2 ≠ mm
  n3 : mm ≠ cb
  n4 : bm ≠ mm
  n5 : w.heap.size ≤ mm
  n6 : bm ≠ cb
variable {w W W' : World} {cb bm mm r2 : Nat} {arr : Array Value} {ls : List ByteArray}
theorem ASt.below (h : ASt w W cb bm mm r2 arr ls) (b : Below W.heap.size W W') : ASt w W' cb bm mm r2 arr ls :=
  ⟨h.c.imp fun k hk => hk.below b hk.lt, h.s.below b, grown_transE h.g (grown_belowE _ b), h.m.below b, h.r.below b h.r.lt, h.n1, h.n2, h.n3, h.n4, h.n5, h.n6⟩
theorem ASt.note (h : ASt w W cb bm mm r2 arr ls) {k : Int} (hc : Blk W' cb #[.map (some bm), .int .i64 k]) (g : W.grownBy W' (some cb)) : ASt w W' cb bm mm r2 arr ls :=
  ⟨⟨k, hc⟩, h.s.grown g h.n3, grown_transE h.g g, h.m.grown g h.n6, h.r.grown g h.n1, h.n1, h.n2, h.n3, h.n4, h.n5, h.n6⟩
theorem grown_other {w W W' : World} {cb mm : Nat} (h : w.grownBy W (some cb)) (g : W.grownBy W' (some mm)) (hm : w.heap.size ≤ mm) : w.grownBy W' (some cb) :=
  ⟨g.os.trans h.os, g.tape.trans h.tape, g.output.trans h.output, Nat.le_trans h.size g.size, fun i hi hne => (g.block i (Nat.lt_of_lt_of_le hi h.size) (fun e => by have := Option.some.inj e; omega)).trans (h.block i hi hne)⟩
theorem ASt.put (h : ASt w W cb bm mm r2 arr ls) {l' : List ByteArray} (hs : SSet W' mm l') (g : W.grownBy W' (some mm)) : ASt w W' cb bm mm r2 arr l' :=
  ⟨h.c.imp fun k hk => hk.grown g (Ne.symm h.n3), hs, grown_other h.g g h.n5, h.m.grown g h.n4, h.r.grown g h.n2, h.n1, h.n2, h.n3, h.n4, h.n5, h.n6⟩
def AltPost (w : World) (cb : Nat) (mv : Value) (r : Ending) (w' : World) : Prop := ∃ (b : Bool) (k : Int), r = .returned (.bool b) ∧ Blk w' cb #[mv, .int .i64 k] ∧ w.grownBy w' (some cb)
theorem ASt.post (h : ASt w W cb bm mm r2 arr ls) {b : Bool} {r : Ending} (hr : r = .returned (.bool b)) : AltPost w cb (.map (some bm)) r W := by
  obtain ⟨k, hk⟩ := h.c
  exact ⟨b, k, hr, hk, h.g⟩
theorem ASt.cells {a0 a1 a2 a3 a4 a5 a6 a7 a8 a9 aa : Value} (h : ASt w W cb bm mm r2 #[a0, a1, a2, a3, a4, a5, a6, a7, a8, a9, aa] ls) : W.cell? ⟨r2, 0, none⟩ = some a0 ∧ W.cell? ⟨r2, 1, none⟩ = some a1 ∧ W.cell? ⟨r2, 2, none⟩ = some a2 ∧ W.cell? ⟨r2, 3, none⟩ = some a3 :=
  ⟨h.r.cell 0, h.r.cell 1, h.r.cell 2, h.r.cell 3⟩
theorem ASt.c0 (h : ASt w W cb bm mm r2 arr ls) : W.cell? ⟨cb, 0, none⟩ = some (.map (some bm)) := by obtain ⟨k, hk⟩ := h.c; exact hk.cell 0
/-- The same, with another block for the copy. -/
theorem ASt.again (h : ASt w W cb bm mm r2 arr ls) {r3 : Nat} {arr3 : Array Value} (b : Below W.heap.size W W') (R : Blk W' r3 arr3) (hr : W.heap.size ≤ r3) : ASt w W' cb bm mm r3 arr3 ls := by
  have h2 := h.below b
  obtain ⟨k, hk⟩ := h.c
  have := hk.lt
  have := h.s.lt
  exact ⟨h2.c, h2.s, h2.g, h2.m, R, by omega, by omega, h.n3, h.n4, h.n5, h.n6⟩
end Go.Proofs.Ytkcgchpflppmnaa
