/- Layout: the law's first example, by the machine. Layout: All. LayoutPairs: the law's walk: what it needs. -/
import Derived.Test.YtnidkdjapieinaaDoorEvX
import Derived.Test.YtnidkdjapieinaaDoorLxC
import Derived.Test.YtnidkdjapieinaaDoorLyM
import Derived.Deep.Cut
namespace Go.Proofs.YtnidkdjapieinaaDoor
set_option maxRecDepth 1000000 in
theorem livesRuns : Ev.isTrue (Ev.callsT Tryd.prog Ev.noFacts (Ev.indexByteT 22) 100000 60 7 [] Ev.Mem.start) = true := by kernel_rfl
end Go.Proofs.YtnidkdjapieinaaDoor

namespace Go.Proofs.YtnidkdjapieinaaDoor
open Go.RowKit Go.Shelf
set_option linter.unusedSimpArgs false
set_option linter.unusedVariables false

def lxC (x : Lxm) : List Value := tokC x.t ++ [Value.bool x.imp]
abbrev LOwn (W : World) (base : Nat) (v : Value) (xs : List Lxm) : Prop := W.ownsRow base 37 8 v xs.length ((xs.map lxC).flatten)
theorem infoL : (Tryd.prog.info? 37).map (fun i => (i.zero, i.size, i.bytes)) = some (some (.agg #[.int .i64 0, .string ⟨#[]⟩, .int .i64 0, .int .i64 0, .int .i64 0, .int .i64 0, .bool false, .bool false]), 8, 72) := by kernel_rfl
def slen : Value → Nat
  | .slice _ n _ => n
  | _ => 0
theorem St.grown {A A1 : World} {r : Option Nat} {S : Nat → Prop} {sb e : Nat} {q : List It} {bs : List Nat} (h : St A S sb e q bs) (hg : A.grownBy A1 r) (hr : ∀ g, r = some g → S g ∧ g ≠ sb) : St A1 S sb e q bs := by
  cases r with
  | none => exact h.below_ ⟨hg.os, hg.tape, hg.output, hg.size, fun k hk => hg.block k hk (by simp)⟩
  | some g =>
    obtain ⟨c, hB, hC⟩ := h.ex
    have o : OffB g A A1 := ⟨hg.os, hg.tape, hg.output, hg.size, fun k hk hn => hg.block k hk (fun e => hn (by simpa using e))⟩
    exact h.of hg.size ⟨c, hB.offB o (fun e => (hr g rfl).2 e.symm), hC.off o (hr g rfl).1⟩
theorem St.set {W : World} {S S' : Nat → Prop} {sb e : Nat} {q : List It} {bs : List Nat} (h : St W S sb e q bs) (hs : S' sb) (h1 : ∀ i, S' i → i < W.heap.size) (h2 : ∀ i, i < W.heap.size → S' i → S i) : St W S' sb e q bs := by
  obtain ⟨c, hB, hC⟩ := h.ex
  exact ⟨⟨c, hB, hC.other h2⟩, hs, h1⟩
theorem OffB.ofOwn {W W' : World} {sb base : Nat} {e : TypeId} {size n : Nat} {v : Value} {xs : List Value} (o : OffB sb W W') (h : W.ownsRow base e size v n xs) (hb : sb < base) : W'.ownsRow base e size v n xs := by
  refine ⟨h.1, ?_⟩
  rcases h.2 with h2 | ⟨g, cap, cur, rfl, hg, hh, r⟩
  · exact .inl h2
  · exact .inr ⟨g, cap, cur, rfl, hg, (o.block g (Array.getElem?_eq_some_iff.1 hh).1 (by omega)).trans hh, r⟩
theorem cells8_new (W W' : World) (a b c d e f g h : Value) {z : Nat} (t : TypeId) (hz : z = W.heap.size) (hw : W'.heap[W.heap.size]? = (W.alloc (.cells #[a, b, c, d, e, f, g, h] t)).heap[W.heap.size]?) : ∀ j u, [a, b, c, d, e, f, g, h][j]? = some u → W'.cell? ((⟨z, 0, none⟩ : Addr).add j) = some u := by
  subst hz
  intro j u hj
  have h0 := (World.cell?_of_block (a := ⟨W.heap.size, j, none⟩) hw).trans ((Blk.new W #[a, b, c, d, e, f, g, h] t).cell j)
  have e : (⟨W.heap.size, 0, none⟩ : Addr).add j = ⟨W.heap.size, j, none⟩ := by
    cases j with
    | zero => simp [Addr.add]
    | succ j => simp [Addr.add]
  rw [e, h0]
  simpa using hj
/-- All at work. -/
structure AI (W Wc : World) (sb base e : Nat) (q0 : List It) (out : Value) (xs : List Lxm) (q : List It) (bs : List Nat) : Prop where
  own : LOwn Wc base out xs
  st : St Wc (fun i => i = sb ∨ out.ownBlock = some i) sb e q bs
  run : Runs e q0 xs q bs
  bel : Below W.heap.size W Wc
  flt : Blk Wc W.heap.size #[.int .i64 0, .int .i64 0]
  l1 : W.heap.size < sb
  l2 : sb < base
  l3 : base ≤ Wc.heap.size
theorem AI.took {W Wc Wd : World} {sb base e : Nat} {q0 : List It} {out : Value} {xs : List Lxm} {q q2 : List It} {bs bs2 : List Nat} (h : AI W Wc sb base e q0 out xs q bs) (x : Lxm) (hn : nextK e q bs = (.tell x, q2, bs2)) (hs : St Wd (fun i => i = sb ∨ out.ownBlock = some i) sb e q2 bs2) (o : OffB sb Wc Wd) :
    LOwn Wd base out xs ∧ St Wd (fun i => i = sb ∨ out.ownBlock = some i) sb e q2 bs2 ∧ Runs e q0 (xs ++ [x]) q2 bs2 ∧ Below W.heap.size W Wd ∧ Blk Wd W.heap.size #[.int .i64 0, .int .i64 0] ∧ base ≤ Wd.heap.size :=
  ⟨o.ofOwn h.own h.l2, hs, h.run.step hn, h.bel.trans (o.below h.bel.size (Nat.le_of_lt h.l1)), h.flt.offB o (by have := h.l1; omega), Nat.le_trans h.l3 o.size⟩

theorem AI.grew {W w2 w' : World} {sb base e g cap n : Nat} {q0 : List It} {out : Value} {xs : List Lxm} {x : Lxm} {q2 : List It} {bs2 : List Nat} {o1 o2 : Obj} (l1 : W.heap.size < sb) (l2 : sb < base) (m1 : LOwn w2 base out xs) (m2 : St w2 (fun i => i = sb ∨ out.ownBlock = some i) sb e q2 bs2) (m3 : Runs e q0 (xs ++ [x]) q2 bs2) (m4 : Below W.heap.size W w2) (m5 : Blk w2 W.heap.size #[.int .i64 0, .int .i64 0]) (m6 : base ≤ w2.heap.size)
    (hn : n = xs.length) (hown : w'.ownsRow base 37 8 (.slice (some ⟨g, 0, none⟩) (n + 1) cap) (n + 1) ((xs.map lxC).flatten ++ lxC x)) (hg : ((w2.alloc o1).alloc o2).grownBy w' out.ownBlock) (hat : out.ownBlock = some g ∨ g = ((w2.alloc o1).alloc o2).heap.size) :
    AI W w' sb base e q0 (.slice (some ⟨g, 0, none⟩) (n + 1) cap) (xs ++ [x]) q2 bs2 := by
  have hf := fun k hk => own_from m1 k hk
  have hA := (m2.alloc_ o1).alloc_ o2
  have hsz : w2.heap.size ≤ ((w2.alloc o1).alloc o2).heap.size := by simp; omega
  refine ⟨?_, ?_, m3, ?_, ?_, l1, l2, Nat.le_trans m6 (Nat.le_trans hsz hg.size)⟩
  · unfold LOwn
    rw [List.map_append, List.flatten_append, List.length_append, ← hn]
    simpa using hown
  · obtain ⟨c, hB, hC⟩ := hA.ex
    have hC2 := hC.other (S' := fun i => (i = sb ∨ out.ownBlock = some i) ∨ i = g) (by
      rintro b hb (h | rfl)
      · exact h
      · rcases hat with h | h
        · exact .inr h
        · omega)
    have hC3 : StC w' (fun i => (i = sb ∨ out.ownBlock = some i) ∨ i = g) c e q2 bs2 := by
      cases hr : out.ownBlock with
      | none => rw [hr] at hg hC2; exact hC2.below ⟨hg.os, hg.tape, hg.output, hg.size, fun k hk => hg.block k hk (by simp)⟩
      | some k => rw [hr] at hg hC2; exact hC2.off (tb := k) ⟨hg.os, hg.tape, hg.output, hg.size, fun i hi hn => hg.block i hi (fun e => hn (by simpa using e))⟩ (.inl (.inr rfl))
    refine ⟨⟨c, hB.grown hg (fun h => by have := hf _ h.symm; omega), hC3.other ?_⟩, .inl rfl, ?_⟩
    · rintro b _ (h | h)
      · exact .inl (.inl h)
      · exact .inr (by simpa [Value.ownBlock] using h.symm)
    · rintro i (rfl | h)
      · exact Nat.lt_of_lt_of_le hA.lt hg.size
      · exact own_lt hown i h
  · exact ((m4.alloc m4.size o1).alloc (by have := m4.size; simp; omega) o2).grown hg (by have := m4.size; simp; omega) (fun k hk => by have := hf k hk; omega)
  · exact ((m5.alloc o1).alloc o2).grown hg (fun h => by have := hf _ h.symm; omega)
set_option maxRecDepth 100000 in
set_option maxHeartbeats 8000000 in
theorem All_lex (v : Value) (ts : List Tp) (e : Nat) (W : World) (hv : TRd W v ts) (hl : ts.length ≤ 4000) :
    Calls Tryd.prog 6 #[v, .int .i64 e] W fun ex w' => (∃ (out : Value) (base : Nat) (xs : List Lxm) (q q' : List It) (bs bs' : List Nat), Runs e (itemsK true ts) xs q bs ∧
      ((nextK e q bs = (.over, q', bs') ∧ ex = .returned (.tuple #[out, .agg #[.int .i64 0, .int .i64 0]]) ∧ LOwn w' base out xs) ∨
       (nextK e q bs = (.wrong, q', bs') ∧ ex = .returned (.tuple #[.slice none 0 0, .agg #[.int .i64 5, .int .i64 (placeK e q)]])))) ∧ Below W.heap.size W w' := by
  obtain ⟨i0, hi, hz0, hz1, hz2⟩ := info_parts infoL
  have hNew := fun w (hb : Below W.heap.size W w) => New_any v ts e w (hv.below hb) (by omega)
  obtain ⟨N, hN⟩ : ∃ N, ts.length = N := ⟨_, rfl⟩
  rw [hN] at hl
  have HNew := Lib.hid hNew
  obtain ⟨a, cap0, rfl, hr⟩ := hv
  have HN := Lib.hid hN
  clear hNew hr hN
  go_enter Tryd.func6, Tryd.ntmps6
  go_wp2_with (go_at_call 16; refine (HNew.out _ ((Below.refl _ _).alloc (Nat.le_refl _) _)).mono ?_; rintro ex w1 ⟨sb, rfl, S1, b1, lsb⟩; have BF := (Blk.new W #[.int .i64 0, .int .i64 0] 25).below b1 (by simp); have B1 := chain ((Below.refl W.heap.size W).alloc (Nat.le_refl _) (.cells #[.int .i64 0, .int .i64 0] 25)) b1; have lsb : W.heap.size < sb := (by simp at lsb; omega))
  have hst := S1.lt
  have A1 : AI W w1 sb w1.heap.size e (itemsK true ts) (.slice none 0 0) [] (itemsK true ts) [] :=
    ⟨World.ownsRow_nil _ _ _ _, S1.set (.inl rfl) (by rintro i (rfl | hh); exact hst; simp [Value.ownBlock] at hh) (by rintro i _ (h | hh); exact h; simp [Value.ownBlock] at hh), .start, B1, BF, lsb, hst, Nat.le_refl _⟩
  obtain ⟨base, hbase⟩ : ∃ base, w1.heap.size = base := ⟨_, rfl⟩
  rw [hbase] at A1
  have HA1 := Lib.hid A1
  clear S1 b1 BF B1 hst hbase A1
  go_loopw [7] (fun out wr => ∃ xs q bs, AI W wr sb base e (itemsK true ts) out xs q bs) (fun out _ => 6 * N + 4 - slen out)
  case atStart => exact ⟨[], _, [], HA1.out⟩
  case round =>
    obtain ⟨xs, q, bs, hA⟩ := hrel
    clear HA1
    obtain ⟨p, c, rfl⟩ := own_shape hA.own
    have hlen := runs_len hA.run
    rw [HN.out] at hlen
    have hw : weightK q bs ≤ 1000000 := by omega
    have hc0 := hA.flt.cell 0
    rcases hn : nextK e q bs with ⟨an, q2, bs2⟩
    cases an with
    | tell x =>
      have hT := Take_yes hA.st hw hn
      have HAt := fun Wd hs o => hA.took x hn (Wd := Wd) hs o
      have HL2 := Lib.hid (show xs.length + 1 ≤ 6 * N + 3 by have := runs_len (hA.run.step hn); rw [HN.out, List.length_append] at this; simp at this; omega)
      have HAA := Lib.hid (show W.heap.size < sb ∧ sb < base from ⟨hA.l1, hA.l2⟩)
      have Hfar := Lib.hid (show ∀ g, Value.ownBlock (.slice p xs.length c) = some g → base ≤ g ∧ g < wr.heap.size from fun g hg => ⟨own_from hA.own g hg, own_lt hA.own g hg⟩)
      have HAt2 := Lib.hid HAt
      obtain ⟨⟨⟨k, u, n⟩, aa, l, cc, f⟩, i⟩ := x
      simp only [lexK, tokC, List.cons_append, List.nil_append] at hT
      have HT := Lib.hid hT
      clear hn hA hT hc0 hw hlen HAt
      go_wp2_with (first | (go_at_call 17; refine HT.out.mono ?_; rintro ex w2 ⟨rfl, S2, o2⟩; obtain ⟨m1, m2, m3, m4, m5, m6⟩ := HAt2.out w2 S2 o2; clear S2 o2) | (at_builtin; refine wpList_append_lies _ rfl _ _ 28 rfl base 37 i0 (.agg #[.int .i64 0, .string ⟨#[]⟩, .int .i64 0, .int .i64 0, .int .i64 0, .int .i64 0, .bool false, .bool false]) 8 72 Tryd.underlying28 hi hz0 hz1 hz2 rfl (by decide) _ xs.length ((xs.map lxC).flatten) rfl ((m1.alloc _).alloc _) ⟨w2.heap.size + 1, 0, none⟩ 1 1 [.int .i64 k, .string ⟨u.toArray⟩, .int .i64 n, .int .i64 aa, .int .i64 l, .int .i64 cc, .bool f, .bool i] rfl rfl ?c1 (by simp [Value.oneCell']) (by decide) (by have := HL2.out; unfold maxLen; omega) (by have := HL2.out; omega) (by simp; omega) _ rfl ?_))
      case c1 => exact cells8_new (w2.alloc _) _ _ _ _ _ _ _ _ _ 37 (by simp) rfl
      intro g cap w5 hown hgrow hat hglt
      have hI := AI.grew HAA.out.1 HAA.out.2 m1 m2 m3 m4 m5 m6 rfl hown hgrow (by rcases hat with h | h; exact .inl h; exact .inr (by rw [h]; simp))
      clear m1 m2 m3 m4 m5 m6 hown hgrow hat hglt
      go_wp2
      go_roundw
      case rel => exact ⟨_, _, _, hI⟩
      case measure => simp only [slen]; have := HL2.out; omega
    | over =>
      have hT := Take_over hA.st hw hn
      simp only [lexK] at hT
      have HT := Lib.hid hT
      have HR := Lib.hid (show nextK e q bs = (.over, q2, bs2) from hn)
      have HRun := Lib.hid hA.run
      have hO := hA.own
      have HAA := Lib.hid (show W.heap.size < base from Nat.lt_trans hA.l1 hA.l2)
      have hF := hA.flt
      have hB := hA.bel
      clear hn hA hT hc0 hw hlen
      go_wp2_with (go_at_call 17; refine HT.out.mono ?_; rintro ex w2 ⟨rfl, b2⟩; have F2 := hF.below b2 hF.lt; have g0 := F2.cell 0; have g1 := F2.cell 1; have k0 := F2.free 0; have k1 := F2.free 1; have l2 := F2.lt; have e1 : ¬ W.heap.size = w2.heap.size := (by omega); have e2 : ¬ w2.heap.size = W.heap.size := (by omega); simp only [List.getElem?_toArray, List.getElem?_cons_zero, List.getElem?_cons_succ] at g0 g1)
      have FX := ((F2.set 0 (.int .i64 0) (by simp)).set 1 (.int .i64 0) (by simp)).alloc (.cells #[.int .i64 0, .string ⟨#[]⟩, .int .i64 0, .int .i64 0, .int .i64 0, .int .i64 0, .bool false, .bool false] 37)
      have OX := (((OffB.of_below (b := W.heap.size) b2).set 0 (.int .i64 0)).set 1 (.int .i64 0)).alloc (.cells #[.int .i64 0, .string ⟨#[]⟩, .int .i64 0, .int .i64 0, .int .i64 0, .int .i64 0, .bool false, .bool false] 37)
      have z0 := FX.cell 0
      have z1 := FX.cell 1
      simp at z0 z1
      generalize ((w2.setCell ⟨W.heap.size, 0, none⟩ (.int .i64 0)).setCell ⟨W.heap.size, 1, none⟩ (.int .i64 0)).alloc (.cells #[.int .i64 0, .string ⟨#[]⟩, .int .i64 0, .int .i64 0, .int .i64 0, .int .i64 0, .bool false, .bool false] 37) = WX at FX OX z0 z1 ⊢
      refine bodyPost_ret (v := .tuple #[.slice p xs.length c, .agg #[.int .i64 0, .int .i64 0]]) (by simp [results, Tryd.results6, go_sem, z0, z1]) rfl ?_
      exact ⟨⟨_, base, xs, q, q2, bs, bs2, HRun.out, .inl ⟨HR.out, rfl, OX.ofOwn hO HAA.out⟩⟩, hB.trans (OX.below hB.size (Nat.le_refl _))⟩
    | wrong =>
      have hT := Take_wrong hA.st hw hn
      have hW := fun w (b : Below wr.heap.size wr w) => Wrong_wrong (hA.st.below_ b) hw hn
      simp only [lexK] at hT
      have HT := Lib.hid hT
      have HW := Lib.hid hW
      have HR := Lib.hid (show nextK e q bs = (.wrong, q2, bs2) from hn)
      have HRun := Lib.hid hA.run
      have hF := hA.flt
      have hB := hA.bel
      clear hn hA hT hW hc0 hw hlen
      go_wp2_with (first | (go_at_call 17; refine HT.out.mono ?_; rintro ex w2 ⟨rfl, b2⟩; have b2' := b2.alloc b2.size (.cells #[.int .i64 0, .string ⟨#[]⟩, .int .i64 0, .int .i64 0, .int .i64 0, .int .i64 0, .bool false, .bool false] 37)) | (go_at_call 18; refine (HW.out _ b2').mono ?_; rintro ex w3 ⟨rfl, b3⟩; have b23 := chain b2' b3; have F2 := hF.below b23 hF.lt; have g0 := F2.cell 0; have g1 := F2.cell 1; have k0 := F2.free 0; have k1 := F2.free 1; have l2 := F2.lt; simp only [List.getElem?_toArray, List.getElem?_cons_zero, List.getElem?_cons_succ] at g0 g1))
      refine bodyPost_ret (v := .tuple #[.slice none 0 0, .agg #[.int .i64 5, .int .i64 (placeK e q)]]) (by simp [results, Tryd.results6, go_sem, g0, g1]) rfl ?_
      have OX := ((OffB.of_below (b := W.heap.size) b23).set 0 (.int .i64 5)).set 1 (.int .i64 (placeK e q))
      exact ⟨⟨.slice none 0 0, base, xs, q, q2, bs, bs2, HRun.out, .inr ⟨HR.out, rfl⟩⟩, hB.trans (OX.below hB.size (Nat.le_refl _))⟩
end Go.Proofs.YtnidkdjapieinaaDoor

namespace Go.Proofs.YtnidkdjapieinaaDoor
open Go.RowKit Go.Shelf
set_option linter.unusedSimpArgs false
set_option linter.unusedVariables false

theorem lives_true (w : World) : Calls Tryd.prog 7 #[] w fun e w' => e = .returned (.bool true) ∧ Below w.heap.size w w' :=
  Ev.closedT (ν := fun _ => undef) (Ev.indexByteT_ok Tryd.strings_IndexByte) (by kernel_rfl) livesRuns #[] (by simp only [Ev.VL]) w
theorem own_apart {W : World} {base base' : Nat} {e e' : TypeId} {size size' : Nat} {v v' : Value} {n n' : Nat} {xs xs' : List Value} (h : W.ownsRow base e size v n xs) (h' : W.ownsRow base' e' size' v' n' xs') (hne : e ≠ e') (g : Nat) (h1 : v.ownBlock = some g) (h2 : v'.ownBlock = some g) : False := by
  rcases h.2 with ⟨rfl, _⟩ | ⟨g1, c1, cur1, rfl, _, hb1, _⟩
  · simp [Value.ownBlock] at h1
  rcases h'.2 with ⟨rfl, _⟩ | ⟨g2, c2, cur2, rfl, _, hb2, _⟩
  · simp [Value.ownBlock] at h2
  simp [Value.ownBlock] at h1 h2
  subst h1; subst h2
  rw [hb1] at hb2
  simp only [Option.some.injEq, Obj.cells.injEq] at hb2
  exact hne hb2.2.1
theorem own_grown {A A1 : World} {r : Option Nat} {base : Nat} {e : TypeId} {size n : Nat} {v : Value} {xs : List Value} (h : A.ownsRow base e size v n xs) (hg : A.grownBy A1 r) (hn : ∀ g, v.ownBlock = some g → r = some g → False) : A1.ownsRow base e size v n xs := by
  refine ⟨h.1, ?_⟩
  rcases h.2 with h2 | ⟨g, cap, cur, rfl, hb, hh, r'⟩
  · exact .inl h2
  · exact .inr ⟨g, cap, cur, rfl, hb, (hg.block g (Array.getElem?_eq_some_iff.1 hh).1 (fun e => hn g rfl e.symm)).trans hh, r'⟩
theorem infoB : (Tryd.prog.info? 4).map (fun i => (i.zero, i.size, i.bytes)) = some (some (.bool false), 1, 1) := by kernel_rfl

/-- The open braces in memory: the innermost last. -/
abbrev OB (W : World) (base : Nat) (v : Value) (o : List Bool) : Prop := W.ownsRow base 4 1 v o.length (o.reverse.map Value.bool)
/-- The law at work. -/
structure PI (W2 Wc : World) (B : Nat) (vo vb : Value) (ts : List Tp) (o : List Bool) : Prop where
  tk : TOwn Wc B vo ts
  ob : OB Wc B vb o
  bel : Below W2.heap.size W2 Wc
  low : W2.heap.size ≤ B
  hi : B ≤ Wc.heap.size
theorem PI.below {W2 Wc Wd : World} {B : Nat} {vo vb : Value} {ts : List Tp} {o : List Bool} (h : PI W2 Wc B vo vb ts o) (hb : Below Wc.heap.size Wc Wd) : PI W2 Wd B vo vb ts o :=
  ⟨own_on h.tk hb (own_lt h.tk), own_on h.ob hb (own_lt h.ob), h.bel.trans (hb.mono h.bel.size), h.low, Nat.le_trans h.hi hb.size⟩
/-- A token is appended. -/
theorem PI.tok {W2 A A1 : World} {B g cap n : Nat} {vo vb : Value} {ts : List Tp} {o : List Bool} {t : Tp} (h : PI W2 A B vo vb ts o) (hg : A.grownBy A1 vo.ownBlock) (hn : n = ts.length) (hown : A1.ownsRow B 35 7 (.slice (some ⟨g, 0, none⟩) (n + 1) cap) (n + 1) (tflat ts ++ tpC t)) :
    PI W2 A1 B (.slice (some ⟨g, 0, none⟩) (n + 1) cap) vb (ts ++ [t]) o := by
  refine ⟨?_, own_grown h.ob hg (fun g' h1 h2 => own_apart h.tk h.ob (by decide) g' h2 h1), h.bel.grown hg h.bel.size (fun k hk => Nat.le_trans h.low (own_from h.tk k hk)), h.low, Nat.le_trans h.hi hg.size⟩
  unfold TOwn
  rw [tflat_app, List.length_append, ← hn]
  simpa [tflat] using hown
/-- A brace opens. -/
theorem PI.push {W2 A A1 : World} {B g cap n : Nat} {vo vb : Value} {ts : List Tp} {o : List Bool} {b : Bool} (h : PI W2 A B vo vb ts o) (hg : A.grownBy A1 vb.ownBlock) (hn : n = o.length) (hown : A1.ownsRow B 4 1 (.slice (some ⟨g, 0, none⟩) (n + 1) cap) (n + 1) (o.reverse.map Value.bool ++ [.bool b])) :
    PI W2 A1 B vo (.slice (some ⟨g, 0, none⟩) (n + 1) cap) ts (b :: o) := by
  refine ⟨own_grown h.tk hg (fun g' h1 h2 => own_apart h.tk h.ob (by decide) g' h1 h2), ?_, h.bel.grown hg h.bel.size (fun k hk => Nat.le_trans h.low (own_from h.ob k hk)), h.low, Nat.le_trans h.hi hg.size⟩
  unfold OB
  rw [List.reverse_cons, List.map_append, List.length_cons, ← hn]
  simpa using hown
/-- A brace closes. -/
theorem PI.pop {W2 A : World} {B cap n : Nat} {p : Option Addr} {vo : Value} {ts : List Tp} {o : List Bool} {b : Bool} (h : PI W2 A B vo (.slice p (n + 1) cap) ts (b :: o)) (hn : n = o.length) : PI W2 A B vo (.slice p n cap) ts o := by
  refine ⟨h.tk, ?_, h.bel, h.low, h.hi⟩
  have h1 := h.ob
  unfold OB at h1 ⊢
  rw [List.reverse_cons, List.map_append, List.length_cons, ← hn] at h1
  rw [← hn]
  rcases h1.2 with ⟨h2, _⟩ | ⟨g, cap', cur, hv, _⟩
  · simp at h2
  · cases hv
    exact ownsRow_pop (last := [.bool b]) (by simp [hn]) (by simpa using h1)
/-- The innermost one. -/
theorem PI.top {W2 A : World} {B cap n : Nat} {p : Option Addr} {vo : Value} {ts : List Tp} {o : List Bool} {b : Bool} (h : PI W2 A B vo (.slice p (n + 1) cap) ts (b :: o)) (hn : n = o.length) : ∃ g, p = some ⟨g, 0, none⟩ ∧ A.cell? ⟨g, n, none⟩ = some (.bool b) ∧ n + 1 ≤ cap := by
  have h1 := h.ob
  unfold OB at h1
  rw [List.reverse_cons, List.map_append, List.length_cons, ← hn] at h1
  rcases h1.2 with ⟨h2, _⟩ | ⟨g, cap', cur, hv, _, _, _, hcap, _⟩
  · simp at h2
  · cases hv
    have hc := h1.cells (g := g) rfl n (.bool b) (by rw [List.getElem?_append_right (by simp [hn])]; simp [hn])
    refine ⟨g, rfl, ?_, by omega⟩
    cases hm : n with
    | zero => rw [hm] at hc; simpa [Addr.add] using hc
    | succ m => rw [hm] at hc; simpa [Addr.add] using hc
theorem lx_len (x : Lxm) : (lxC x).length = 8 := rfl
/-- The k-th lexeme. -/
theorem lx_at {W : World} {base : Nat} {v : Value} {xs : List Lxm} (h : LOwn W base v xs) : ∃ a cap, v = .slice a xs.length cap ∧ ∀ k x, xs[k]? = some x → ∃ b o, a = some ⟨b, o, none⟩ ∧ b < W.heap.size ∧ ∀ j c, (lxC x)[j]? = some c → W.cell? ⟨b, o + k * 8 + j, none⟩ = some c := by
  have hr : RdC W (fun _ => False) 8 v (xs.map lxC) := own_rd h (by simp) (by intro y hy; obtain ⟨z, _, rfl⟩ := List.mem_map.1 hy; exact lx_len z) (fun i hi => hi.elim)
  rcases hr with ⟨rfl, h2⟩ | ⟨b, o, cap, rfl, h2, h3, _, h4⟩
  · simp at h2
    subst h2
    exact ⟨none, 0, rfl, fun k x hx => by simp at hx⟩
  · exact ⟨some ⟨b, o, none⟩, cap, by simp, fun k x hx => ⟨b, o, rfl, h3, fun j c hj => h4 k (lxC x) (by rw [List.getElem?_map, hx]; rfl) j c hj⟩⟩
theorem lawGo_at {xs : List Lxm} {k : Nat} {x : Lxm} {o : List Bool} (hx : xs[k]? = some x) (h : lawGo (xs.take k) [] = some o) (hall : lawGo xs [] = some []) : ∃ o', lawStep o x = some o' ∧ lawGo (xs.take (k + 1)) [] = some o' := by
  have hk := (List.getElem?_eq_some_iff.1 hx).1
  have e : xs.take (k + 1) = xs.take k ++ [x] := by
    rw [List.take_add_one, hx]; rfl
  have e2 : xs = xs.take (k + 1) ++ xs.drop (k + 1) := (List.take_append_drop _ _).symm
  rw [e2, lawGo_app, e, lawGo_app, h] at hall
  simp only [Option.bind_some, lawGo] at hall
  cases hs : lawStep o x with
  | none => rw [hs] at hall; simp at hall
  | some o' =>
    refine ⟨o', rfl, ?_⟩
    rw [e, lawGo_app, h]
    simp [lawGo, hs]
theorem own_take {xs : List Lxm} {k : Nat} {x : Lxm} (hx : xs[k]? = some x) : ownK (xs.take (k + 1)) = ownK (xs.take k) ++ (if x.imp then [] else [x.t]) := by
  have e : xs.take (k + 1) = xs.take k ++ [x] := by rw [List.take_add_one, hx]; rfl
  rw [e]
  unfold ownK
  rw [List.filter_append, List.map_append]
  cases h : x.imp <;> simp [h]
theorem lawStep_len {o o' : List Bool} {x : Lxm} (h : lawStep o x = some o') : o'.length ≤ o.length + 1 := by
  unfold lawStep at h
  split at h
  · cases h; simp
  · split at h
    · split at h
      · split at h
        · cases h; simp; omega
        · cases h
      · cases h
    · cases h; omega
theorem lawGo_len : ∀ (xs : List Lxm) (o o' : List Bool), lawGo xs o = some o' → o'.length ≤ o.length + xs.length
  | [], o, o', h => by cases h; simp
  | x :: xs, o, o', h => by
    simp only [lawGo] at h
    cases hs : lawStep o x with
    | none => rw [hs] at h; cases h
    | some o1 =>
      rw [hs] at h
      have := lawGo_len xs o1 o' h
      have := lawStep_len hs
      simp; omega
end Go.Proofs.YtnidkdjapieinaaDoor
