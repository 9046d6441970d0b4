/- Words written in their places: laws on a row of words; the contract of Hole. -/
import Derived.Test.YtlmljommgmbckaaHpD
import Derived.Laws.CopyRow
namespace Go.Proofs.Ytlmljommgmbckaa
open Go.RowKit

structure Off (S : Nat → Prop) (W W' : World) : Prop where
  os : W'.os = W.os
  tape : W'.tape = W.tape
  output : W'.output = W.output
  size : W.heap.size ≤ W'.heap.size
  block : ∀ k, k < W.heap.size → ¬ S k → W'.heap[k]? = W.heap[k]?
theorem Off.of_below {S : Nat → Prop} {W W' : World} (h : Below W.heap.size W W') : Off S W W' := ⟨h.os, h.tape, h.output, h.size, fun k hk _ => h.block k hk⟩
theorem Off.trans {S S' T : Nat → Prop} {A B C : World} (h : Off S A B) (k : Off S' B C) (h1 : ∀ i, S i → T i) (h2 : ∀ i, S' i → T i ∨ A.heap.size ≤ i) : Off T A C :=
  ⟨k.os.trans h.os, k.tape.trans h.tape, k.output.trans h.output, Nat.le_trans h.size k.size, fun i hi hn =>
    (k.block i (Nat.lt_of_lt_of_le hi h.size) (fun hs => by rcases h2 i hs with q | q; exact hn q; omega)).trans (h.block i hi (fun hs => hn (h1 i hs)))⟩
theorem Off.below {S : Nat → Prop} {W W' : World} {B : Nat} (h : Off S W W') (hB : B ≤ W.heap.size) (hS : ∀ i, S i → B ≤ i) : Below B W W' :=
  ⟨h.os, h.tape, h.output, h.size, fun k hk => h.block k (by omega) (fun hs => by have := hS k hs; omega)⟩
theorem Off.blk {S : Nat → Prop} {W W' : World} (h : Off S W W') {b : Nat} {c : Array Value} (hb : Blk W b c) (hn : ¬ S b) : Blk W' b c := hb.of_same (h.block b hb.lt hn) h.size

theorem flat_cons (x : Wd) (xs : List Wd) : flat (x :: xs) = .int .i64 x.1 :: .int .i64 x.2 :: flat xs := by simp [flat]
theorem flat_take (ws : List Wd) (o : Nat) : (flat ws).take (o * 2) = flat (ws.take o) := by
  induction ws generalizing o with
  | nil => simp [flat]
  | cons x xs ih =>
    cases o with
    | zero => simp [flat]
    | succ o => rw [flat_cons, show (o + 1) * 2 = o * 2 + 1 + 1 by omega, List.take_succ_cons, List.take_succ_cons, ih, List.take_succ_cons, flat_cons]
theorem flat_dropAt (ws : List Wd) (o : Nat) : (flat ws).drop (o * 2) = flat (ws.drop o) := by
  induction ws generalizing o with
  | nil => simp [flat]
  | cons x xs ih =>
    cases o with
    | zero => simp
    | succ o => rw [flat_cons, show (o + 1) * 2 = o * 2 + 1 + 1 by omega, List.drop_succ_cons, List.drop_succ_cons, ih, List.drop_succ_cons]
theorem flat_splice (ws us : List Wd) (o : Nat) : (flat ws).take (o * 2) ++ flat us ++ (flat ws).drop (o * 2 + us.length * 2) = flat (ws.take o ++ us ++ ws.drop (o + us.length)) := by
  rw [flat_take, show o * 2 + us.length * 2 = (o + us.length) * 2 by omega, flat_dropAt, ← flat_append, ← flat_append]
theorem flat_set1 (ws : List Wd) (a : Nat) (v : Int) (h : a < ws.length) : (flat ws).set (a * 2 + 1) (.int .i64 v) = flat (ws.set a ((ws.getD a (0, 0)).1, v)) := by
  induction ws generalizing a with
  | nil => simp at h
  | cons x xs ih =>
    cases a with
    | zero => simp [flat]
    | succ a =>
      rw [flat_cons, show (a + 1) * 2 + 1 = (a * 2 + 1) + 1 + 1 by omega, List.set_cons_succ, List.set_cons_succ, ih a (by simpa using h), List.set_cons_succ, flat_cons]
      simp
theorem flat_set2 (ws : List Wd) (a : Nat) (k v : Int) (h : a < ws.length) : ((flat ws).set (a * 2) (.int .i64 k)).set (a * 2 + 1) (.int .i64 v) = flat (ws.set a (k, v)) := by
  induction ws generalizing a with
  | nil => simp at h
  | cons x xs ih =>
    cases a with
    | zero => simp [flat]
    | succ a =>
      rw [flat_cons, show (a + 1) * 2 + 1 = (a * 2 + 1) + 1 + 1 by omega, show (a + 1) * 2 = a * 2 + 1 + 1 by omega, List.set_cons_succ, List.set_cons_succ, List.set_cons_succ, List.set_cons_succ, ih a (by simpa using h), List.set_cons_succ, flat_cons]

theorem belowN (w : World) (n : Nat) : Below w.heap.size w (w.drewN n) := below_drewN w n

def HS.put (H : HS) (ws : List Wd) : HS := { H with ws := ws }
/-- Other words in the same place. -/
theorem HInv.row {w W : World} {b : Nat} {L : HL} {H : HS} (h : HInv w b L H) {ws : List Wd} (hl : ws.length = H.ws.length) (hn : ∀ x ∈ ws, -9223372036854775808 ≤ x.2 ∧ x.2 ≤ 9223372036854775807)
    (hW : W.heap[L.g]? = some (.cells (flat ws).toArray 32 (0, 0))) (hoff : Off (fun k => k = L.g) w W) : HInv W b L (H.put ws) :=
  { blk := by
      have := hoff.blk h.blk (fun e => h.bg e)
      have e : L.cells (H.put ws) = L.cells H := by unfold HL.cells HS.put; simp only [hl]
      rw [e]; exact this
    wh := hW
    mks := h.mks.of_same (hoff.block _ h.mks.lt (fun e => h.gm e.symm))
    bg := h.bg, bm := h.bm, gm := h.gm, vg := h.vg
    len := by show ws.length = _; rw [hl]; exact h.len
    nur := h.nur, old := h.old, top := h.top, num := hn, pos := h.pos, opos := h.opos }
theorem off_set {w W : World} {g : Nat} (hoff : Off (fun k => k = g) w W) (j : Nat) (v : Value) : Off (fun k => k = g) w (W.setCell ⟨g, j, none⟩ v) :=
  ⟨hoff.os, hoff.tape, hoff.output, by simpa [World.setCell] using hoff.size, fun k hk hn => (Below.heap_setCell _ _ _ _ hn).trans (hoff.block k hk hn)⟩

theorem heap_setAt {w : World} {g j : Nat} {cur : Array Value} {t : TypeId} (hg : w.heap[g]? = some (.cells cur t (0, 0))) (v : Value) : (w.setCell ⟨g, j, none⟩ v).heap[g]? = some (.cells (cur.setIfInBounds j v) t (0, 0)) := by
  rw [setCell_eq_setRow w g j cur t (0, 0) v hg]
  exact setRow_heap w g cur _ t _ hg
theorem num_set {ws : List Wd} {i : Nat} {x : Wd} (h : ∀ y ∈ ws, -9223372036854775808 ≤ y.2 ∧ y.2 ≤ 9223372036854775807) (hx : -9223372036854775808 ≤ x.2 ∧ x.2 ≤ 9223372036854775807) : ∀ y ∈ ws.set i x, -9223372036854775808 ≤ y.2 ∧ y.2 ≤ 9223372036854775807 := by
  intro y hy
  rcases List.mem_or_eq_of_mem_set hy with hy | rfl
  · exact h y hy
  · exact hx
theorem HInv.setN {w W : World} {b : Nat} {L : HL} {H : HS} (h : HInv w b L H) (hoff : Off (fun k => k = L.g) w W) (hW : W.heap[L.g]? = w.heap[L.g]?) {i : Nat} (hi : i < H.ws.length) {v : Int} (hv : -9223372036854775808 ≤ v ∧ v ≤ 9223372036854775807) :
    HInv (W.setCell ⟨L.g, i * 2 + 1, none⟩ (.int .i64 v)) b L (H.put (H.ws.set i ((H.word i).1, v))) ∧ Off (fun k => k = L.g) w (W.setCell ⟨L.g, i * 2 + 1, none⟩ (.int .i64 v)) := by
  have ho := off_set hoff (i * 2 + 1) (.int .i64 v)
  refine ⟨h.row (by simp) (num_set h.num hv) ?_ ho, ho⟩
  rw [heap_setAt (hW.trans h.wh), List.setIfInBounds_toArray, flat_set1 _ _ _ hi]
  rfl
theorem HInv.set2 {w W : World} {b : Nat} {L : HL} {H : HS} (h : HInv w b L H) (hoff : Off (fun k => k = L.g) w W) (hW : W.heap[L.g]? = w.heap[L.g]?) {i : Nat} (hi : i < H.ws.length) (k : Int) {v : Int} (hv : -9223372036854775808 ≤ v ∧ v ≤ 9223372036854775807) :
    HInv ((W.setCell ⟨L.g, i * 2, none⟩ (.int .i64 k)).setCell ⟨L.g, i * 2 + 1, none⟩ (.int .i64 v)) b L (H.put (H.ws.set i (k, v))) ∧ Off (fun k => k = L.g) w ((W.setCell ⟨L.g, i * 2, none⟩ (.int .i64 k)).setCell ⟨L.g, i * 2 + 1, none⟩ (.int .i64 v)) := by
  have ho := off_set (off_set hoff (i * 2) (.int .i64 k)) (i * 2 + 1) (.int .i64 v)
  refine ⟨h.row (by simp) (num_set h.num hv) ?_ ho, ho⟩
  rw [heap_setAt (heap_setAt (hW.trans h.wh) _), List.setIfInBounds_toArray, List.setIfInBounds_toArray, flat_set2 _ _ _ _ hi]
theorem head_ok {H : HS} {i : Nat} (h : (headOf H i).ok = true) : (H.word i).1 = 6 ∧ partsK (H.word i).2 = headOf H i := by
  unfold headOf at h ⊢
  simp only [Int.toNat_natCast] at h ⊢
  split at h
  · rename_i q
    exact ⟨q.2.2, by rw [if_pos q]⟩
  · cases h
theorem headK_in {k s i : Int} (h1 : 1 ≤ k) (h2 : k ≤ 7) (h3 : 0 ≤ s) (h4 : s ≤ 65536) (h5 : 0 ≤ i) (h6 : i ≤ 1073741824) : headK k s i = k + 8 * s + 1048576 * i := by unfold headK; rw [if_neg (by omega)]

set_option maxRecDepth 100000 in
set_option maxHeartbeats 2000000 in
theorem hole_no (b : Nat) (L : HL) (H : HS) (w : World) (h : HInv w b L H) (a : Int) (h1 : -9223372036854775808 ≤ a) (h2 : a ≤ 9223372036854775807) (P : Pt) (hP : objOf H a = P) (hn : P.ok = false ∨ P.k ≠ 5) :
    Calls Try.prog 19 #[.pointer (some ⟨b, 0, none⟩), .int .i64 a] w fun e w' => e = .returned (.int .i64 (if P.ok then 13 else 2)) ∧ Below w.heap.size w w' := by
  have kn := none_any b L H w h
  have ko := object_any b L H w h a h1 h2
  rw [hP] at ko
  have KN := Lib.hid kn
  cases hok : P.ok with
  | false =>
    rw [hok] at ko
    have KO := Lib.hid ko
    clear kn ko h hP hn hok
    go_enter Try.func19, Try.ntmps19
    go_wp2_with (first | (go_at_call 38; with_reducible refine KN.out.mono ?_; rintro e w1 ⟨rfl, rfl⟩) | (go_at_call 39; with_reducible refine KO.out.mono ?_; rintro e w2 ⟨rfl, nd, rfl⟩))
    go_ret
    exact ⟨rfl, belowN _ _⟩
  | true =>
    have hk : P.k ≠ 5 := hn.resolve_left (by rw [hok]; simp)
    have hd : (P.k != 5) = true := by simpa using hk
    rw [hok] at ko
    have KO := Lib.hid ko
    clear kn ko h hP hn hok hk
    go_enter Try.func19, Try.ntmps19
    go_wp2_with (first | (go_at_call 38; with_reducible refine KN.out.mono ?_; rintro e w1 ⟨rfl, rfl⟩) | (go_at_call 39; with_reducible refine KO.out.mono ?_; rintro e w2 ⟨rfl, nd, rfl⟩))
    go_ret
    exact ⟨rfl, belowN _ _⟩

set_option maxRecDepth 100000 in
set_option maxHeartbeats 2000000 in
theorem hole_ok (b : Nat) (L : HL) (H : HS) (w : World) (h : HInv w b L H) (g : HGood H) (i : Nat) (hi : (i : Int) ∈ H.st) (P : Pt) (hP : headOf H i = P) (hk : P.k = 5) :
    Calls Try.prog 19 #[.pointer (some ⟨b, 0, none⟩), .int .i64 i] w fun e w' => e = .returned (.int .i64 0) ∧ HInv w' b L (H.put (H.ws.set i ((H.word i).1, headK 6 P.s P.i))) ∧ Off (fun k => k = L.g) w w' := by
  obtain ⟨g1, g2, g3, g4⟩ := g.at_ _ hi
  rw [hP] at g3 g4
  have hN := h.len
  have hnur := h.nur; have hold := h.old; have htop := h.top
  obtain ⟨_, hw6⟩ := head_ok (H := H) (i := i) (by rw [hP]; exact g3)
  have hpo := parts_ok (n := (H.word i).2) (by rw [hw6, hP]; exact g3)
  rw [hw6, hP] at hpo
  have hiN : i < H.ws.length := by omega
  have kn := none_any b L H w h
  have ko := object_any b L H w h i (by omega) (by omega)
  have e : objOf H (i : Int) = P := by unfold objOf; rw [if_pos hi, hP]
  rw [e, g3, hk] at ko
  have KN := Lib.hid kn; have KO := Lib.hid ko
  have c := h.blk.cell
  unfold HL.cells at c
  obtain ⟨d1, d2⟩ := h.cell hiN
  have f := h.wd.free
  have Hh := Lib.hid h
  have HiN := Lib.hid hiN
  obtain ⟨hv, hhv⟩ : ∃ v, headK 6 P.s P.i = v := ⟨_, rfl⟩
  have kh := fun W => head_any 6 P.s P.i W
  have hvr : -9223372036854775808 ≤ hv ∧ hv ≤ 9223372036854775807 := by rw [← hhv, headK_in (by omega) (by omega) (by omega) (by omega) (by omega) (by omega)]; omega
  rw [hhv] at kh ⊢
  have HVr := Lib.hid hvr
  have KH := Lib.hid kh
  obtain ⟨x, hx⟩ : ∃ x, H.word i = x := ⟨_, rfl⟩
  have Hx := Lib.hid hx
  rw [hx] at d1 d2
  obtain ⟨N, hNN⟩ : ∃ N, H.ws.length = N := ⟨_, rfl⟩
  rw [hNN] at c hiN
  have hiI : (i : Int) < (N : Int) := by omega
  clear kn ko h hN hP hk e g1 g2 g3 g4 hi hNN hx hhv kh hpo hvr hw6
  go_enter Try.func19, Try.ntmps19
  go_upto_region 8 with (first | (go_at_call 38; with_reducible refine KN.out.mono ?_; rintro e w1 ⟨rfl, rfl⟩) | (go_at_call 39; with_reducible refine KO.out.mono ?_; rintro e w2 ⟨rfl, nd, rfl⟩))
  go_region_with (go_at_call 10; with_reducible refine (KH.out _).mono ?_; rintro e w3 ⟨rfl, rfl⟩)
  all_goals
    go_wp2
    go_ret
    obtain ⟨q1, q2⟩ := Hh.out.setN (W := (w1.drewN nd).drew) (Off.of_below ((below_drewN _ _).drew)) rfl HiN.out HVr.out
    exact ⟨rfl, q1, q2⟩

end Go.Proofs.Ytlmljommgmbckaa
