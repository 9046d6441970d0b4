/- Rows of things in a block of its own; how many names there are; occur.body. -/
import Derived.Test.YtkcgchpflppmnaaOcP
import Derived.Maps.AppendAt
namespace Go.Proofs.Ytkcgchpflppmnaa
open Go.RowKit
set_option linter.unusedSimpArgs false
set_option linter.unusedVariables false

/-- Rows of cells, one behind the other, in a block of its own. -/
def ROwn (W : World) (B : Nat) (t : TypeId) (sz : Nat) (v : Value) (rows : List (List Value)) : Prop := W.ownsRow B t sz v rows.length rows.flatten
theorem ROwn.nil (W : World) (B : Nat) (t : TypeId) (sz : Nat) : ROwn W B t sz (.slice none 0 0) [] := World.ownsRow_nil _ _ _ _
theorem ROwn.below {W W' : World} {B : Nat} {t : TypeId} {sz : Nat} {v : Value} {rows : List (List Value)} (h : ROwn W B t sz v rows) (hb : Below W.heap.size W W') : ROwn W' B t sz v rows :=
  own_on h hb (own_lt h)
theorem ROwn.push {W : World} {B : Nat} {t : TypeId} {sz bytes : Nat} {v : Value} {rows : List (List Value)} (h : ROwn W B t sz v rows) {st : TypeId} (ty : TypeId) {i : TypeInfo} {z : Value}
    (ht : Try.prog.underlying st = some (.slice t)) (hi : Try.prog.info? t = some i) (hz : i.zero = some z) (hsize : i.size = sz) (hby : i.bytes = bytes) (hzs : z.cells.size = sz) (hsz : 0 < sz)
    (a : Nat) (o : Nat) (m c : Nat) (news : List (List Value)) (hm : news.length = m) (hrow : ∀ r ∈ news, r.length = sz) (hnews : ∀ j u, news.flatten[j]? = some u → W.cell? ⟨a, o + j, none⟩ = some u) (h1 : ∀ r ∈ news, ∀ u ∈ r, u.oneCell' = true)
    (hl : (rows.length + m) * bytes ≤ 140737488355328) (hl2 : rows.length + m ≤ maxLen) (hB : B ≤ W.heap.size) :
    ∃ v' W', (Builtin.append_ #[st, st] ty #[v, .slice (some ⟨a, o, none⟩) m c]).run Try.prog W = .ok v' W' ∧ ROwn W' B t sz v' (rows ++ news) ∧ W.grownBy W' v.ownBlock ∧ (B ≤ W.heap.size → Below B W W') ∧ (v'.ownBlock = v.ownBlock ∨ v'.ownBlock = some W.heap.size) := by
  have hfl : ∀ (l : List (List Value)), (∀ r ∈ l, r.length = sz) → l.flatten.length = l.length * sz := by
    intro l
    induction l with
    | nil => intro _; simp
    | cons r l ih => intro hh; rw [List.flatten_cons, List.length_append, ih (fun r hr => hh r (List.mem_cons_of_mem _ hr)), hh r (List.mem_cons_self ..), List.length_cons, Nat.add_mul]; omega
  obtain ⟨v', w', hr, h2, h3, _, h5⟩ := run_append_own_at (P := Try.prog) W B st ty t i z sz bytes ht hi hz hsize hby hzs hsz v rows.length rows.flatten h ⟨a, o, none⟩ m c news.flatten (by rw [hfl news hrow, hm])
    (fun j u hj => by have := hnews j u hj; unfold Addr.add; split
                      · next e => subst e; exact this
                      · exact this)
    (fun u hu => by obtain ⟨r, hr, hu⟩ := List.mem_flatten.1 hu; exact h1 r hr u hu) hl2 hl hB
  refine ⟨v', w', hr, ?_, h3, fun hBB => Below.refl B W |>.grown h3 hBB (fun g e => own_from h g e), h5⟩
  unfold ROwn
  rw [List.length_append, List.flatten_append, hm]
  exact h2

/-- How many names and expressions there are. -/
def nodeK : (d : Nat) → Ex d → Nat
  | 0, e => nomatch (e : Empty)
  | d + 1, (e : ExN (Ex d)) => 1 + e.params.length + (e.binds.map fun x => 1 + nodeK d x.2).sum + (e.args.map (nodeK d)).sum + (e.alts.map fun x => x.vars.length + nodeK d x.e).sum
theorem node_succ (d : Nat) (e : ExN (Ex d)) : nodeK (d + 1) e = 1 + e.params.length + (e.binds.map fun x => 1 + nodeK d x.2).sum + (e.args.map (nodeK d)).sum + (e.alts.map fun x => x.vars.length + nodeK d x.e).sum := rfl
theorem size_succ (d : Nat) (e : ExN (Ex d)) : sizeK (d + 1) e = 1 + (e.binds.map fun x => sizeK d x.2).sum + (e.args.map (sizeK d)).sum + (e.alts.map fun x => sizeK d x.e).sum := rfl
theorem all_succ (kv kl : Int) (d : Nat) (e : ExN (Ex d)) : allK kv kl (d + 1) e = e.params.map (fun s => (s, inLetK (ofK kv kl s d) kv e s)) ++ e.binds.map (fun x => (x.1, inLetK (ofK kv kl x.1 d) kv e x.1)) ++
        e.binds.flatMap (fun x => allK kv kl d x.2) ++ e.args.flatMap (allK kv kl d) ++ e.alts.flatMap (fun x => x.vars.map (fun s => (s, ofK kv kl s d x.e)) ++ allK kv kl d x.e) := rfl
theorem le_sum {β : Type} (f : β → Nat) : ∀ {l : List β} {x : β}, x ∈ l → f x ≤ (l.map f).sum
  | y :: l, x, h => by
    rw [List.map_cons, List.sum_cons]
    rcases List.mem_cons.1 h with rfl | h
    · omega
    · have := le_sum f h; omega
theorem len_sum {β : Type} (f : β → Nat) : ∀ {l : List β}, (∀ x ∈ l, 1 ≤ f x) → l.length ≤ (l.map f).sum
  | [], _ => by simp
  | y :: l, h => by
    rw [List.map_cons, List.sum_cons, List.length_cons]
    have := h y (List.mem_cons_self ..)
    have := len_sum f (l := l) (fun x hx => h x (List.mem_cons_of_mem _ hx))
    omega
theorem sum_mono {β : Type} (f g : β → Nat) : ∀ {l : List β}, (∀ x ∈ l, f x ≤ g x) → (l.map f).sum ≤ (l.map g).sum
  | [], _ => by simp
  | y :: l, h => by
    simp only [List.map_cons, List.sum_cons]
    have := h y (List.mem_cons_self ..)
    have := sum_mono f g (l := l) (fun x hx => h x (List.mem_cons_of_mem _ hx))
    omega
theorem node_pos : ∀ (d : Nat) (e : Ex d), 1 ≤ nodeK d e
  | 0, e => nomatch (e : Empty)
  | d + 1, e => by have := node_succ d e; omega
theorem size_node : ∀ (d : Nat) (e : Ex d), sizeK d e ≤ nodeK d e
  | 0, e => nomatch (e : Empty)
  | d + 1, (e : ExN (Ex d)) => by
    rw [node_succ, size_succ]
    have h1 := sum_mono (fun x : ByteArray × Ex d => sizeK d x.2) (fun x => 1 + nodeK d x.2) (l := e.binds) (fun x _ => by have := size_node d x.2; omega)
    have h2 := sum_mono (sizeK d) (nodeK d) (l := e.args) (fun x _ => size_node d x)
    have h3 := sum_mono (fun x : AltN (Ex d) => sizeK d x.e) (fun x => x.vars.length + nodeK d x.e) (l := e.alts) (fun x _ => by have := size_node d x.e; omega)
    omega
theorem sm_of (M : Nat) (hM : M ≤ 10000000) : ∀ (d : Nat) (e : Ex d), nodeK d e ≤ M → Sm d e
  | 0, e, _ => nomatch (e : Empty)
  | d + 1, (e : ExN (Ex d)), h => by
    rw [node_succ] at h
    have h1 := len_sum (fun x : ByteArray × Ex d => 1 + nodeK d x.2) (l := e.binds) (fun x _ => by omega)
    have h2 := len_sum (nodeK d) (l := e.args) (fun x _ => node_pos d x)
    have h3 := len_sum (fun x : AltN (Ex d) => x.vars.length + nodeK d x.e) (l := e.alts) (fun x _ => by have := node_pos d x.e; omega)
    refine ⟨by omega, ⟨by omega, fun x hx => sm_of M hM d x.2 ?_⟩, ⟨by omega, fun x hx => sm_of M hM d x ?_⟩, ⟨by omega, fun x hx => ⟨?_, sm_of M hM d x.e ?_⟩⟩⟩
    · have := le_sum (fun x : ByteArray × Ex d => 1 + nodeK d x.2) hx; omega
    · have := le_sum (nodeK d) hx; omega
    · have := le_sum (fun x : AltN (Ex d) => x.vars.length + nodeK d x.e) hx; omega
    · have := le_sum (fun x : AltN (Ex d) => x.vars.length + nodeK d x.e) hx; omega
theorem flat_sum {β γ : Type} (f : β → List γ) : ∀ (l : List β), (l.flatMap f).length = (l.map fun x => (f x).length).sum
  | [] => rfl
  | x :: l => by rw [List.flatMap_cons, List.length_append, flat_sum f l, List.map_cons, List.sum_cons]
theorem all_node (kv kl : Int) : ∀ (d : Nat) (e : Ex d), (allK kv kl d e).length ≤ nodeK d e
  | 0, e => nomatch (e : Empty)
  | d + 1, (e : ExN (Ex d)) => by
    rw [node_succ, all_succ]
    simp only [List.length_append, List.length_map, flat_sum]
    have h1 := sum_mono (fun x : ByteArray × Ex d => 1 + (allK kv kl d x.2).length) (fun x => 1 + nodeK d x.2) (l := e.binds) (fun x _ => by have := all_node kv kl d x.2; omega)
    have h2 := sum_mono (fun x => (allK kv kl d x).length) (nodeK d) (l := e.args) (fun x _ => all_node kv kl d x)
    have h3 := sum_mono (fun x : AltN (Ex d) => x.vars.length + (allK kv kl d x.e).length) (fun x => x.vars.length + nodeK d x.e) (l := e.alts) (fun x _ => by have := all_node kv kl d x.e; omega)
    have h4 : (e.binds.map fun x : ByteArray × Ex d => 1 + (allK kv kl d x.2).length).sum = e.binds.length + (e.binds.map fun x : ByteArray × Ex d => (allK kv kl d x.2).length).sum := by
      generalize e.binds = l
      induction l with
      | nil => rfl
      | cons x l ih => simp only [List.map_cons, List.sum_cons, List.length_cons, ih]; omega
    omega
/-- What is still to come of a loop. -/
theorem drop_next {β γ : Type} (f : β → List γ) {l : List β} {k : Nat} {x : β} (hx : l[k]? = some x) : (l.drop k).flatMap f = f x ++ (l.drop (k + 1)).flatMap f := by
  obtain ⟨hk, rfl⟩ := List.getElem?_eq_some_iff.1 hx
  rw [List.drop_eq_getElem_cons hk, List.flatMap_cons]
theorem drop_end {β γ : Type} (f : β → List γ) {l : List β} {n : Nat} (h : l.length = n) : (l.drop n).flatMap f = [] := by
  subst h; rw [List.drop_length]; rfl
theorem step_next {β γ : Type} (f : β → List γ) {l : List β} {k : Nat} {x : β} (hx : l[k]? = some x) {cur R T : List γ} (h : cur ++ ((l.drop k).flatMap f ++ R) = T) : (cur ++ f x) ++ ((l.drop (k + 1)).flatMap f ++ R) = T := by
  rw [← h, drop_next f hx]; simp only [List.append_assoc]
theorem step_in {β γ : Type} (f : β → List γ) {l : List β} {k : Nat} {x : β} (hx : l[k]? = some x) {cur R T : List γ} (h : cur ++ ((l.drop k).flatMap f ++ R) = T) : cur ++ (f x ++ ((l.drop (k + 1)).flatMap f ++ R)) = T := by
  rw [← h, drop_next f hx]; simp only [List.append_assoc]
theorem step_end {β γ : Type} (f : β → List γ) {l : List β} {n : Nat} (hn : l.length = n) {cur R T : List γ} (h : cur ++ ((l.drop n).flatMap f ++ R) = T) : cur ++ R = T := by
  rw [← h, drop_end f hn]; rfl
theorem step_len {β γ : Type} (f : β → List γ) {l : List β} {k : Nat} {x : β} (hx : l[k]? = some x) {cur R T : List γ} (h : cur ++ ((l.drop k).flatMap f ++ R) = T) : cur.length + (f x).length ≤ T.length := by
  rw [← step_next f hx h]; simp only [List.length_append]; omega
/-- Occurrences in a block of its own. -/
def occRow (x : ByteArray × Int) : List Value := [.string x.1, .int .i64 x.2]
def OOwn (W : World) (B : Nat) (v : Value) (l : List (ByteArray × Int)) : Prop := ROwn W B 42 2 v (l.map occRow)
theorem infoO : (Try.prog.info? 42).map (fun i => (i.zero, i.size, i.bytes)) = some (some (.agg #[.string ⟨#[]⟩, .int .i64 0]), 2, 24) := by kernel_rfl
theorem OOwn.push {W : World} {B : Nat} {v : Value} {l : List (ByteArray × Int)} (h : OOwn W B v l) (ty : TypeId) (a c : Nat) (x : ByteArray × Int) (h0 : W.cell? ⟨a, 0, none⟩ = some (.string x.1)) (h1 : W.cell? ⟨a, 1, none⟩ = some (.int .i64 x.2)) (hl : l.length ≤ 100000000) (hB : B ≤ W.heap.size) :
    ∃ v' W', (Builtin.append_ #[38, 38] ty #[v, .slice (some ⟨a, 0, none⟩) 1 c]).run Try.prog W = .ok v' W' ∧ OOwn W' B v' (l ++ [x]) ∧ W.grownBy W' v.ownBlock ∧ Below B W W' ∧ (v'.ownBlock = v.ownBlock ∨ v'.ownBlock = some W.heap.size) := by
  obtain ⟨i0, hi, hz0, hz1, hz2⟩ := info_parts infoO
  obtain ⟨v', W', k1, k2, k3, k4, k5⟩ := ROwn.push h ty (i := i0) (z := .agg #[.string ⟨#[]⟩, .int .i64 0]) Try.underlying38 hi hz0 hz1 hz2 rfl (by decide) a 0 1 c [occRow x] rfl (fun r hr => by simp at hr; subst hr; rfl) (fun j u hj => by
    match j with
    | 0 => simp [occRow] at hj; subst hj; exact h0
    | 1 => simp [occRow] at hj; subst hj; exact h1
    | j + 2 => simp [occRow] at hj) (fun r hr u hu => by simp at hr; subst hr; simp [occRow] at hu; rcases hu with rfl | rfl <;> rfl) (by rw [List.length_map]; omega) (by rw [List.length_map]; unfold maxLen; omega) hB
  refine ⟨v', W', k1, ?_, k3, k4 hB, k5⟩
  unfold OOwn
  rw [List.map_append]
  exact k2

theorem inside_zero {α : Type} (r : α → Int) (e : ExN α) (s : ByteArray) (h : e.kind = 5) : insideK r 1 5 { e with kind := 0 } s = inLetK r 1 e s := by
  unfold insideK inLetK
  simp [h]
theorem inside_self {α : Type} (r : α → Int) (e : ExN α) (s : ByteArray) (h : e.kind ≠ 5) : insideK r 1 5 e s = inLetK r 1 e s := by unfold insideK; rw [if_neg h]

set_option maxRecDepth 100000 in
set_option maxHeartbeats 8000000 in
theorem body_any (d b o : Nat) (e : ExN (Ex d)) (s : ByteArray) (w : World) (hb : b < w.heap.size) (h : ExAt w (d + 1) b o e) (hs : Sm (d + 1) e) :
    Calls Try.prog 49 #[.pointer (some ⟨b, o, none⟩), .string s] w fun r w' => r = .returned (.int .i64 (inLetK (ofK 1 5 s d) 1 e s)) ∧ Below w.heap.size w w' := by
  obtain ⟨l0, hcs, hp⟩ := h
  obtain ⟨pa, pb, pc, pd, pa2, pb2, pc2, pd2, rfl⟩ := parts_form hp
  have hx : ∀ k, ExAt (w.alloc (.cells #[.int .i64 k, .string e.name, .int .i64 e.num, .slice pa e.params.length pa2, .slice pb e.binds.length pb2, .slice pc e.args.length pc2, .slice pd e.alts.length pd2] 29)) (d + 1) w.heap.size 0 ({ e with kind := k } : ExN (Ex d)) := fun k =>
    ExIs.boxed (t := 29) (d := d + 1) (W := w) (x := ({ e with kind := k } : ExN (Ex d))) ⟨_, rfl, by obtain ⟨ps, bs, es, ls, hq, r⟩ := hp; simp only [exV, List.cons.injEq] at hq; exact ⟨ps, bs, es, ls, by simp [hq.2.2.2.1, hq.2.2.2.2.1, hq.2.2.2.2.2.1, hq.2.2.2.2.2.2.1], r⟩⟩
  have HB0 := Lib.hid (show ∀ k : Int, Below w.heap.size w (w.alloc (.cells #[.int .i64 k, .string e.name, .int .i64 e.num, .slice pa e.params.length pa2, .slice pb e.binds.length pb2, .slice pc e.args.length pc2, .slice pd e.alts.length pd2] 29)) from fun k => (Below.refl _ w).alloc (Nat.le_refl _) _)
  have c0 := hcs 0 _ rfl
  have c1 := hcs 1 _ rfl
  have c2 := hcs 2 _ rfl
  have c3 := hcs 3 _ rfl
  have c4 := hcs 4 _ rfl
  have c5 := hcs 5 _ rfl
  have c6 := hcs 6 _ rfl
  rw [Nat.add_zero] at c0
  have HX := Lib.hid hx
  have HS := Lib.hid (show ∀ k : Int, Sm (d + 1) ({ e with kind := k } : ExN (Ex d)) from fun k => hs)
  obtain ⟨kd, hkd⟩ : ∃ kd, e.kind = kd := ⟨_, rfl⟩
  have HKD := Lib.hid hkd
  rw [hkd] at c0
  clear hcs hp hx hs hkd
  by_cases e5 : kd = 5
  · subst e5
    have KI := Lib.hid (inside_any d w.heap.size 0 _ s _ (by simp) (HX.out 0) (HS.out 0) (of_any s d))
    have HR := Lib.hid (inside_zero (ofK 1 5 s d) e s HKD.out)
    go_enter Try.func49, Try.ntmps49
    go_upto_region 2 with fail
    have R := Blk.new w #[.int .i64 5, .string e.name, .int .i64 e.num, .slice pa e.params.length pa2, .slice pb e.binds.length pb2, .slice pc e.args.length pc2, .slice pd e.alts.length pd2] 29
    have r0 := R.cell 0
    simp only [List.getElem?_toArray, List.getElem?_cons_zero] at r0
    have f0 := R.free 0
    go_wp2_with (go_at_call 42; refine KI.out.mono ?_; rintro r1 w1 ⟨rfl, b1⟩; have B1 := Lib.hid (chain (HB0.out 0) b1))
    go_ret
    exact ⟨by rw [HR.out]; rfl, B1.out⟩
  · have KI := Lib.hid (inside_any d w.heap.size 0 _ s _ (by simp) (HX.out kd) (HS.out kd) (of_any s d))
    have HR := Lib.hid (show insideK (ofK 1 5 s d) 1 5 ({ e with kind := kd } : ExN (Ex d)) s = inLetK (ofK 1 5 s d) 1 e s by rw [← HKD.out]; exact inside_self _ e s (fun h => e5 (HKD.out.symm.trans h)))
    have t1 : (kd == 5) = false := by simp [e5]
    have t2 : decide (kd = 5) = false := by simp [e5]
    have R := Blk.new w #[.int .i64 kd, .string e.name, .int .i64 e.num, .slice pa e.params.length pa2, .slice pb e.binds.length pb2, .slice pc e.args.length pc2, .slice pd e.alts.length pd2] 29
    have r0 := R.cell 0
    simp only [List.getElem?_toArray, List.getElem?_cons_zero] at r0
    clear e5 R
    go_enter Try.func49, Try.ntmps49
    go_wp2_with (go_at_call 42; refine KI.out.mono ?_; rintro r1 w1 ⟨rfl, b1⟩; have B1 := Lib.hid (chain (HB0.out kd) b1))
    go_ret
    exact ⟨by rw [HR.out]; rfl, B1.out⟩
end Go.Proofs.Ytkcgchpflppmnaa
