/- The reference's read at any line: it is just the fine play whose line it is. -/
import Derived.Test.YtbjlnllbcgghlaaDoorPyJ
import Derived.Test.YtbjlnllbcgghlaaDoorPyK
namespace Go.Proofs.YtbjlnllbcgghlaaDoor
open Go.RowKit Go.Shelf
set_option linter.unusedSimpArgs false
set_option linter.unusedVariables false

/-- The two blocks of the reference's read: what it hands back, and the play. -/
structure QSt (w wr : World) (b : Nat) (K N : Int) (v : Value) (bs : List UInt8) : Prop where
  bel : Below w.heap.size w wr
  res : Blk wr b #[.int .i64 0, .int .i64 0, .slice none 0 0]
  blk : Blk wr (b + 1) #[.int .i64 K, .int .i64 N, v]
  bw : w.heap.size = b
  own : UOwn wr (b + 2) v bs
  len : bs.length ≤ 1000001
theorem QSt.below {w wr wr' : World} {b : Nat} {K N : Int} {v : Value} {bs : List UInt8} (h : QSt w wr b K N v bs) (hb : Below wr.heap.size wr wr') : QSt w wr' b K N v bs :=
  ⟨chain h.bel hb, h.res.below hb h.res.lt, h.blk.below hb h.blk.lt, h.bw, h.own.below hb, h.len⟩
theorem QSt.kind {w wr : World} {b : Nat} {K N : Int} {v : Value} {bs : List UInt8} (h : QSt w wr b K N v bs) (K2 : Int) : QSt w (wr.setCell ⟨b + 1, 0, none⟩ (.int .i64 K2)) b K2 N v bs :=
  ⟨below_grown_new h.bel (grown_set _ _ _ _) (by have := h.bw; omega), h.res.other _ _ (by simp), h.blk.set 0 _ (by simp), h.bw, h.own.set (by omega) _ _, h.len⟩
theorem QSt.num {w wr : World} {b : Nat} {K N : Int} {v : Value} {bs : List UInt8} (h : QSt w wr b K N v bs) (N2 : Int) : QSt w (wr.setCell ⟨b + 1, 1, none⟩ (.int .i64 N2)) b K N2 v bs :=
  ⟨below_grown_new h.bel (grown_set _ _ _ _) (by have := h.bw; omega), h.res.other _ _ (by simp), h.blk.set 1 _ (by simp), h.bw, h.own.set (by omega) _ _, h.len⟩
theorem QSt.fin {w wr : World} {b : Nat} {K N : Int} {v : Value} {bs : List UInt8} (h : QSt w wr b K N v bs) (x0 x1 x2 : Value) :
    Below w.heap.size w (((wr.setCell ⟨b, 0, none⟩ x0).setCell ⟨b, 1, none⟩ x1).setCell ⟨b, 2, none⟩ x2) ∧ Held w.heap.size (((wr.setCell ⟨b, 0, none⟩ x0).setCell ⟨b, 1, none⟩ x1).setCell ⟨b, 2, none⟩ x2).heap.size (((wr.setCell ⟨b, 0, none⟩ x0).setCell ⟨b, 1, none⟩ x1).setCell ⟨b, 2, none⟩ x2) (fun W => PlIs W (.agg #[.int .i64 K, .int .i64 N, v]) ⟨K, N, bs⟩) ∧
    (wr.setCell ⟨b, 0, none⟩ x0).cell? ⟨b, 0, none⟩ = some x0 ∧ ((wr.setCell ⟨b, 0, none⟩ x0).setCell ⟨b, 1, none⟩ x1).cell? ⟨b, 1, none⟩ = some x1 ∧ (((wr.setCell ⟨b, 0, none⟩ x0).setCell ⟨b, 1, none⟩ x1).setCell ⟨b, 2, none⟩ x2).cell? ⟨b, 2, none⟩ = some x2 := by
  have hw := h.bw
  refine ⟨below_grown_new h.bel (grown_trans (grown_trans (grown_set _ _ _ _) (grown_set _ _ _ _)) (grown_set _ _ _ _)) (by omega), ?_, (h.res.set 0 x0 (by simp)).cell 0, ((h.res.set 0 x0 (by simp)).set 1 x1 (by simp)).cell 1, (((h.res.set 0 x0 (by simp)).set 1 x1 (by simp)).set 2 x2 (by simp)).cell 2⟩
  have o := ((h.own.set (b := b) (by omega) 0 x0).set (b := b) (by omega) 1 x1).set (b := b) (by omega) 2 x2
  exact (o.held.wide (by omega) (Nat.le_refl _) (Nat.le_refl _)).mp fun W hW => ⟨v, rfl, hW⟩
theorem QSt.app {w w5 W' : World} {b : Nat} {K N : Int} {v v' : Value} {bs bs' : List UInt8} (h : QSt w w5 b K N v bs) (ho : UOwn W' (b + 2) v' bs') (hb : Below (b + 2) w5 W') (hl : bs'.length ≤ 1000001) : QSt w (W'.setCell ⟨b + 1, 2, none⟩ v') b K N v' bs' := by
  have hw := h.bw
  have h1 : Below w.heap.size w W' := h.bel.trans (hb.mono (by omega))
  exact ⟨below_grown_new h1 (grown_set _ _ _ _) (by omega), (h.res.below hb (by omega)).other _ _ (by simp), (h.blk.below hb (by omega)).set 2 _ (by simp), hw, ho.set (by omega) _ _, hl⟩
theorem str_is {s t : ByteArray} (h : s = t) (r : List UInt8) (hr : t = ⟨r.toArray⟩) : s.data.toList = r := by rw [h, hr]
/-- The three short lines. -/
theorem short_none {x : PlD} (h : fineK x = true) : lineK x = [101, 110, 100] → x = ⟨2, 0, []⟩ := by
  intro hw
  obtain ⟨h1, h2⟩ := fine_zero h
  obtain ⟨k, n, bs⟩ := x
  rcases fine_kind h with e | e | ⟨e, -, -⟩ | e | e <;> (simp only at e; subst e) <;> simp [lineK] at hw
  · have k1 := h1 (fun e => by cases e)
    have k2 := h2 (fun e => by cases e)
    simp only at k1 k2
    subst k1; subst k2; rfl
theorem feed_only {s : ByteArray} {l : List UInt8} {M k : Nat} {x y z : UInt8} (hl : s.data.toList = l) (hsz : s.size = 4 + 3 * M) (hk : k < M) (htk : l.take 4 = feedL)
    (hX : l[4 + 3 * k]? = some x) (hY : l[4 + 3 * k + 1]? = some y) (hZ : l[4 + 3 * k + 2]? = some z) {pl : PlD}
    (hK : (pl = ⟨1, 0, pl.bytes⟩ ∧ lineK pl = feedL ++ pl.bytes.flatMap pieceL) ∨ (pl = ⟨3, pl.n, []⟩ ∧ 0 ≤ pl.n ∧ pl.n ≤ 1048576 ∧ lineK pl = [114, 117, 110, 32] ++ Lib.itoa pl.n)) (hs : s = mkW (lineK pl)) :
    x = 32 ∧ 0 ≤ digZ y.toNat ∧ 0 ≤ digZ z.toNat := by
  have hl2 : l = lineK pl := by rw [← hl, hs]; simp [mkW]
  have hll : l.length = 4 + 3 * M := by rw [← hsz, ← hl]; rfl
  rcases hK with ⟨-, e⟩ | ⟨-, -, -, e⟩
  · rw [e] at hl2
    have hlen : pl.bytes.length = M := by
      rw [hl2, feed_len] at hll; omega
    have hc : pl.bytes[k]? = some pl.bytes[k] := List.getElem?_eq_getElem (by omega)
    obtain ⟨k1, k2, k3⟩ := feed_at hc
    rw [← hl2] at k1 k2 k3
    rw [hX] at k1; rw [hY] at k2; rw [hZ] at k3
    obtain ⟨d1, d2⟩ := dig_of_hex pl.bytes[k]
    rw [Option.some.inj k1, Option.some.inj k2, Option.some.inj k3, d1, d2]
    exact ⟨rfl, by omega, by omega⟩
  · rw [hl2, e] at htk
    simp at htk
abbrev runL : List UInt8 := [114, 117, 110, 32]
theorem run_only {s : ByteArray} {l : List UInt8} (hl : s.data.toList = l) (hn : ¬ (4 ≤ s.size ∧ l.take 4 = feedL ∧ (s.size - 4) % 3 = 0)) {pl : PlD}
    (hK : (pl = ⟨1, 0, pl.bytes⟩ ∧ lineK pl = feedL ++ pl.bytes.flatMap pieceL) ∨ (pl = ⟨3, pl.n, []⟩ ∧ 0 ≤ pl.n ∧ pl.n ≤ 1048576 ∧ lineK pl = [114, 117, 110, 32] ++ Lib.itoa pl.n)) (hs : s = mkW (lineK pl)) :
    pl = ⟨3, pl.n, []⟩ ∧ 0 ≤ pl.n ∧ pl.n ≤ 1048576 ∧ l = runL ++ Lib.decDigits pl.n.toNat ∧ 5 ≤ s.size ∧ s.size ≤ 11 ∧ l.take 4 = runL := by
  have hl2 : l = lineK pl := by rw [← hl, hs]; simp [mkW]
  have hll : l.length = s.size := by rw [← hl]; rfl
  rcases hK with ⟨-, e⟩ | ⟨e1, e2, e3, e⟩
  · rw [e] at hl2
    have := feed_len pl.bytes
    rw [← hl2, hll] at this
    exact absurd ⟨by omega, by rw [hl2]; rfl, by omega⟩ hn
  · rw [itoa_nat _ e2] at e
    rw [e] at hl2
    have h7 := dec_lenF 6 pl.n.toNat (by omega)
    obtain ⟨c, r, h1, -⟩ := dec_head pl.n.toNat
    have hlen : s.size = 4 + (Lib.decDigits pl.n.toNat).length := by rw [← hll, hl2, List.length_append]; rfl
    have : 1 ≤ (Lib.decDigits pl.n.toNat).length := by rw [h1]; simp
    exact ⟨e1, e2, e3, hl2, by omega, by omega, by rw [hl2]; rfl⟩
/-- What read hands back. -/
def ReadPost (s : ByteArray) (w : World) (e : Ending) (w' : World) : Prop := ∃ v bb, e = .returned (.tuple #[v, .bool bb]) ∧ ReadSays s w w' v bb
theorem ReadPost.mk {s : ByteArray} {w w' : World} {v : Value} {bb : Bool} (h : ReadSays s w w' v bb) : ReadPost s w (.returned (.tuple #[v, .bool bb])) w' := ⟨v, bb, rfl, h⟩
set_option maxRecDepth 100000 in
set_option maxHeartbeats 8000000 in
theorem rread_any (s : ByteArray) (w : World) (hs : s.size ≤ 1000000) :
    Calls Tryd.prog 31 #[.string s] w fun e w' => ReadPost s w e w' := by
  obtain ⟨b, hb⟩ : ∃ b, w.heap.size = b := ⟨_, rfl⟩
  have l1 : Below w.heap.size w (w.alloc (.cells #[.int .i64 0, .int .i64 0, .slice none 0 0] 34)) := (Below.refl _ w).alloc (Nat.le_refl _) _
  have R1 := Blk.new w #[.int .i64 0, .int .i64 0, .slice none 0 0] 34
  have z1 : (w.alloc (.cells #[.int .i64 0, .int .i64 0, .slice none 0 0] 34)).heap.size = b + 1 := by simp [hb]
  rw [hb] at R1
  go_enter Tryd.func31, Tryd.ntmps31
  go_upto_region 1 with fail
  generalize w.alloc (.cells #[.int .i64 0, .int .i64 0, .slice none 0 0] 34) = W1 at l1 R1 z1 ⊢
  have Hz1 := Lib.hid z1
  have Hb := Lib.hid hb
  have HR1 := Lib.hid R1
  have Hl1 := Lib.hid l1
  have a0 := R1.cell 0
  have a1 := R1.cell 1
  have a2 := R1.cell 2
  have g0 := R1.free 0
  have g1 := R1.free 1
  have g2 := R1.free 2
  simp only [List.getElem?_toArray, List.getElem?_cons_zero, List.getElem?_cons_succ] at a0 a1 a2
  have HFin := Lib.hid (show ∀ K : Int, Below w.heap.size w (((W1.setCell ⟨b, 0, none⟩ (.int .i64 K)).setCell ⟨b, 1, none⟩ (.int .i64 0)).setCell ⟨b, 2, none⟩ (.slice none 0 0)) ∧ (W1.setCell ⟨b, 0, none⟩ (.int .i64 K)).cell? ⟨b, 0, none⟩ = some (.int .i64 K) ∧ ((W1.setCell ⟨b, 0, none⟩ (.int .i64 K)).setCell ⟨b, 1, none⟩ (.int .i64 0)).cell? ⟨b, 1, none⟩ = some (.int .i64 0) ∧ (((W1.setCell ⟨b, 0, none⟩ (.int .i64 K)).setCell ⟨b, 1, none⟩ (.int .i64 0)).setCell ⟨b, 2, none⟩ (.slice none 0 0)).cell? ⟨b, 2, none⟩ = some (.slice none 0 0) from fun K => ⟨below_grown_new l1 (grown_trans (grown_trans (grown_set _ _ _ _) (grown_set _ _ _ _)) (grown_set _ _ _ _)) (by omega), (R1.set 0 (.int .i64 K) (by simp)).cell 0, ((R1.set 0 (.int .i64 K) (by simp)).set 1 (.int .i64 0) (by simp)).cell 1, (((R1.set 0 (.int .i64 K) (by simp)).set 1 (.int .i64 0) (by simp)).set 2 (.slice none 0 0) (by simp)).cell 2⟩)
  have HNil := Lib.hid (show ∀ (W : World) (K : Int), w.heap.size ≤ W.heap.size → Held w.heap.size W.heap.size W (fun W => PlIs W (.agg #[.int .i64 K, .int .i64 0, .slice none 0 0]) ⟨K, 0, []⟩) from fun W K hW => ⟨Nat.le_refl _, fun W' _ _ => ⟨_, rfl, none, 0, rfl, fun h => absurd h (Nat.not_lt_zero _)⟩⟩)
  clear R1 l1 z1 hb
  by_cases h0 : s = ⟨#[101, 110, 100]⟩
  · subst h0
    go_wp2
    obtain ⟨hfin1, hc0, hc1, hc2⟩ := HFin.out 2
    refine bodyPost_ret (v := .tuple #[.agg #[.int .i64 2, .int .i64 0, .slice none 0 0], .bool true]) (by simp [results, Tryd.results31, go_sem, hc0, hc1, hc2]) rfl ?_
    exact ReadPost.mk ⟨⟨_, _, _, _, _, rfl⟩, hfin1, fun _ => ⟨⟨2, 0, []⟩, rfl, rfl, Nat.zero_le _, HNil.out _ _ hfin1.size⟩, (fun h => by cases h)⟩
  have n0 : (s.toList == ([101, 110, 100] : List UInt8)) = false := by have := toList_ne h0; rwa [ByteArray.toList_eq (⟨#[101, 110, 100]⟩ : ByteArray)] at this
  by_cases h1 : s = ⟨#[109, 105, 110, 111, 114]⟩
  · subst h1
    go_wp2
    obtain ⟨hfin1, hc0, hc1, hc2⟩ := HFin.out 4
    refine bodyPost_ret (v := .tuple #[.agg #[.int .i64 4, .int .i64 0, .slice none 0 0], .bool true]) (by simp [results, Tryd.results31, go_sem, hc0, hc1, hc2]) rfl ?_
    exact ReadPost.mk ⟨⟨_, _, _, _, _, rfl⟩, hfin1, fun _ => ⟨⟨4, 0, []⟩, rfl, rfl, Nat.zero_le _, HNil.out _ _ hfin1.size⟩, (fun h => by cases h)⟩
  have n1 : (s.toList == ([109, 105, 110, 111, 114] : List UInt8)) = false := by have := toList_ne h1; rwa [ByteArray.toList_eq (⟨#[109, 105, 110, 111, 114]⟩ : ByteArray)] at this
  by_cases h2 : s = ⟨#[109, 97, 106, 111, 114]⟩
  · subst h2
    go_wp2
    obtain ⟨hfin1, hc0, hc1, hc2⟩ := HFin.out 5
    refine bodyPost_ret (v := .tuple #[.agg #[.int .i64 5, .int .i64 0, .slice none 0 0], .bool true]) (by simp [results, Tryd.results31, go_sem, hc0, hc1, hc2]) rfl ?_
    exact ReadPost.mk ⟨⟨_, _, _, _, _, rfl⟩, hfin1, fun _ => ⟨⟨5, 0, []⟩, rfl, rfl, Nat.zero_le _, HNil.out _ _ hfin1.size⟩, (fun h => by cases h)⟩
  have n2 : (s.toList == ([109, 97, 106, 111, 114] : List UInt8)) = false := by have := toList_ne h2; rwa [ByteArray.toList_eq (⟨#[109, 97, 106, 111, 114]⟩ : ByteArray)] at this
  have HK := Lib.hid (show ∀ x, fineK x = true → s = mkW (lineK x) → (x = ⟨1, 0, x.bytes⟩ ∧ lineK x = feedL ++ x.bytes.flatMap pieceL) ∨ (x = ⟨3, x.n, []⟩ ∧ 0 ≤ x.n ∧ x.n ≤ 1048576 ∧ lineK x = [114, 117, 110, 32] ++ Lib.itoa x.n) from by
    intro x hf hx
    obtain ⟨f1, f2⟩ := fine_zero hf
    obtain ⟨k, n, bs⟩ := x
    rcases fine_kind hf with e | e | ⟨e, r1, r2⟩ | e | e <;> (simp only at e; subst e)
    · have := f1 (fun e => by cases e)
      simp only at this
      subst this
      exact .inl ⟨rfl, rfl⟩
    · exact absurd hx h0
    · have := f2 (fun e => by cases e)
      simp only at this
      subst this
      exact .inr ⟨rfl, r1, r2, rfl⟩
    · exact absurd hx h1
    · exact absurd hx h2)
  clear h0 h1 h2
  obtain ⟨l, hl⟩ : ∃ l, s.data.toList = l := ⟨_, rfl⟩
  have hll : l.length = s.size := by rw [← hl]; rfl
  have Hll := Lib.hid hll
  have Hl := Lib.hid hl
  by_cases hfeed : 4 ≤ s.size ∧ l.take 4 = feedL ∧ (s.size - 4) % 3 = 0
  · obtain ⟨hN4, htk, hmod⟩ := hfeed
    obtain ⟨M, hM⟩ : ∃ M, s.size = 4 + 3 * M := ⟨(s.size - 4) / 3, by omega⟩
    have HM := Lib.hid hM
    have d4 : decide ((4 : Int) ≤ (s.size : Int)) = true := by simp; omega
    have e4 : ((s.extract 0 4).toList == ([102, 101, 101, 100] : List UInt8)) = true := by
      rw [ByteArray.toList_eq]
      have : (s.extract 0 4).data.toList = feedL := by rw [Lib.extract_from_zero, hl, htk]
      rw [this]; rfl
    have m3 : (((s.size : Int) - 4) % 3 == 0) = true := by simp; omega
    have Htk := Lib.hid htk
    clear hl hll htk hmod hM
    go_upto_region 9 with fail
    have z1 := Hz1.out
    have bw := Hb.out
    have QS0 : QSt w (W1.alloc (.cells #[.int .i64 1, .int .i64 0, .slice none 0 0] 34)) b 1 0 (.slice none 0 0) [] := by
      have R2 := Blk.new W1 #[.int .i64 1, .int .i64 0, .slice none 0 0] 34
      have la : Below W1.heap.size W1 (W1.alloc (.cells #[.int .i64 1, .int .i64 0, .slice none 0 0] 34)) := (Below.refl _ W1).alloc (Nat.le_refl _) _
      rw [z1] at R2
      exact ⟨chain Hl1.out la, HR1.out.below la HR1.out.lt, R2, bw, UOwn.nil _ _, by simp⟩
    have QZ : b + 2 ≤ (W1.alloc (.cells #[.int .i64 1, .int .i64 0, .slice none 0 0] 34)).heap.size := by simp [z1]
    have QS0 := Lib.hid QS0
    have QZ := Lib.hid QZ
    clear bw
    go_upto_block 1 with fail
    have SK := QS0.out
    have SZ := QZ.out
    generalize W1.alloc (.cells #[.int .i64 1, .int .i64 0, .slice none 0 0] 34) = W4 at SK SZ ⊢
    have SK2 := Lib.hid SK
    have SZ2 := Lib.hid SZ
    clear z1 SK SZ QS0 QZ a0 a1 a2 g0 g1 g2 d4 e4 m3
    go_wp2_with fail
    go_loopw [5, 6, 7] (fun i _ _ wr => ∃ (k : Nat) (v : Value) (bs : List UInt8), i = .int .i64 ((4 + 3 * k : Nat) : Int) ∧ k ≤ M ∧ Hid (QSt w wr b 1 0 v bs) ∧ Hid (b + 2 ≤ wr.heap.size) ∧ Hid (bs.length = k) ∧ Hid (l.take (4 + 3 * k) = feedL ++ bs.flatMap pieceL)) (fun i _ _ _ => 4 + 3 * M - (intOf i).toNat)
    case atStart => exact ⟨0, _, [], rfl, Nat.zero_le _, SK2, SZ2, Lib.hid rfl, Lib.hid (by rw [show 4 + 3 * 0 = 4 from rfl, Htk.out]; rfl)⟩
    case round =>
      obtain ⟨k, v, bs, rfl, hk, hS, hz2, hbl, hC⟩ := hrel
      obtain ⟨a, c, rfl⟩ := hS.out.own.shape
      obtain ⟨nb, hnb⟩ : ∃ nb, bs.length = nb := ⟨_, rfl⟩
      have HNB := Lib.hid hnb
      rw [hnb] at hS
      clear hnb
      obtain ⟨p, hp⟩ : ∃ p, 4 + 3 * k = p := ⟨_, rfl⟩
      have HP := Lib.hid hp
      rw [hp]
      by_cases hlt : k < M
      · have hps : p + 2 < s.size := by have := HM.out; omega
        have t1 : decide ((p : Int) < (s.size : Int)) = true := by simp; omega
        have hkM := Lib.hid hlt
        clear hp hlt
        obtain ⟨x, hx⟩ : ∃ x, s[p] = x := ⟨_, rfl⟩
        obtain ⟨y, hy⟩ : ∃ y, s[p + 1] = y := ⟨_, rfl⟩
        obtain ⟨z, hz⟩ : ∃ z, s[p + 2] = z := ⟨_, rfl⟩
        have HX := Lib.hid (show l[p]? = some x by rw [← Hl.out, ← hx]; exact List.getElem?_eq_getElem (by show p < s.size; omega))
        have HY := Lib.hid (show l[p + 1]? = some y by rw [← Hl.out, ← hy]; exact List.getElem?_eq_getElem (by show p + 1 < s.size; omega))
        have HZ := Lib.hid (show l[p + 2]? = some z by rw [← Hl.out, ← hz]; exact List.getElem?_eq_getElem (by show p + 2 < s.size; omega))
        obtain ⟨dy, hdy⟩ : ∃ d, digZ y.toNat = d := ⟨_, rfl⟩
        obtain ⟨dz, hdz⟩ : ∃ d, digZ z.toNat = d := ⟨_, rfl⟩
        have KY := Lib.hid (fun W => hdy ▸ digit_any y.toNat y.toNat_lt W)
        have KZ := Lib.hid (fun W => hdz ▸ digit_any z.toNat z.toNat_lt W)
        have HDY := Lib.hid hdy
        have HDZ := Lib.hid hdz
        have HBel := Lib.hid (Below.refl wr.heap.size wr)
        clear hdy hdz
        have HRes := Lib.hid (show ∀ Wx, QSt w Wx b 1 0 (.slice a nb c) bs → Wx.cell? ⟨b, 0, none⟩ = some (.int .i64 0) ∧ Wx.cell? ⟨b, 1, none⟩ = some (.int .i64 0) ∧ Wx.cell? ⟨b, 2, none⟩ = some (.slice none 0 0) ∧ Wx.frozen? ⟨b, 0, none⟩ = false ∧ Wx.frozen? ⟨b, 1, none⟩ = false ∧ Wx.frozen? ⟨b, 2, none⟩ = false from fun Wx h => ⟨h.res.cell 0, h.res.cell 1, h.res.cell 2, h.res.free 0, h.res.free 1, h.res.free 2⟩)
        have HCel := Lib.hid (show ∀ Wx, QSt w Wx b 1 0 (.slice a nb c) bs → Wx.cell? ⟨b + 1, 0, none⟩ = some (.int .i64 1) ∧ Wx.cell? ⟨b + 1, 1, none⟩ = some (.int .i64 0) ∧ Wx.cell? ⟨b + 1, 2, none⟩ = some (.slice a nb c) ∧ Wx.frozen? ⟨b + 1, 2, none⟩ = false from fun Wx h => ⟨h.blk.cell 0, h.blk.cell 1, h.blk.cell 2, h.blk.free 2⟩)
        have H0 := Lib.hid (hS.out.below ((Below.refl _ _).drew))
        have Z0 := Lib.hid (show b + 2 ≤ wr.drew.heap.size from hz2.out)
        have j1 : (p : Int) + 1 < (s.size : Int) := by omega
        have j2 : (p : Int) + 2 < (s.size : Int) := by omega
        have j3 : (0 : Int) ≤ (p : Int) + 1 := by omega
        have j4 : (0 : Int) ≤ (p : Int) + 2 := by omega
        have j9 : (0 : Int) ≤ (p : Int) + 1 ∧ (p : Int) + 1 < (s.size : Int) := by omega
        have ja : (0 : Int) ≤ (p : Int) + 2 ∧ (p : Int) + 2 < (s.size : Int) := by omega
        have jb : ((p + 1 : Nat) : Int) < (s.size : Int) := by omega
        have kw1 : IntKind.i64.wrap ((p : Int) + 1) = (p : Int) + 1 := IntWalk.i64_in _ (by omega)
        have kw2 : IntKind.i64.wrap ((p : Int) + 2) = (p : Int) + 2 := IntWalk.i64_in _ (by omega)
        have j5 : p + 1 < s.size := by omega
        have j6 : p < s.size := by omega
        have j7 : ((p : Int) + 1).toNat = p + 1 := by omega
        have j8 : ((p : Int) + 2).toNat = p + 2 := by omega
        go_upto_region 13 with fail
        go_region_held3 (fun wx => True) (trivial) (first | (go_at_call 40; with_reducible (refine (KY.out _).mono ?_); rintro r1 w1 ⟨rfl, b1⟩; have K1 := Lib.hid (H0.out.below b1); have Z1 := Lib.hid (Nat.le_trans Z0.out b1.size); clear b1 H0 KY) | (go_at_call 40; with_reducible (refine (KZ.out _).mono ?_); rintro r2 w2 ⟨rfl, b2⟩; have K2 := Lib.hid (K1.out.below b2); have Z2 := Lib.hid (Nat.le_trans Z1.out b2.size); clear b2))
        all_goals
          obtain ⟨a0, a1, a2, g0, g1, g2⟩ := HRes.out _ K2.out
          obtain ⟨c0, c1, c2, f2⟩ := HCel.out _ K2.out
          clear kw1 kw2 j1 j2 j3 j4 j7 j8 j9 ja jb
          by_cases ex : x = 32
          · subst ex
            by_cases ey : 0 ≤ dy
            · by_cases ez : 0 ≤ dz
              · obtain ⟨v0, v255, hpc⟩ := byte_of (y := y) (z := z) (by rw [HDY.out]; exact ey) (by rw [HDZ.out]; exact ez)
                rw [HDY.out, HDZ.out] at v0 v255
                have HPC := Lib.hid hpc
                have hd1 := (digZ_pos ⟨y.toNat, y.toNat_lt⟩ (by show 0 ≤ digZ y.toNat; rw [HDY.out]; exact ey)).1
                have hd2 := (digZ_pos ⟨z.toNat, z.toNat_lt⟩ (by show 0 ≤ digZ z.toNat; rw [HDZ.out]; exact ez)).1
                simp only at hd1 hd2
                rw [HDY.out] at hd1
                rw [HDZ.out] at hd2
                have t3 : decide (dy < 0) = false := by simp; omega
                have t4 : decide (dz < 0) = false := by simp; omega
                have u1 : IntKind.i64.wrap (16 * dy) = 16 * dy := IntWalk.i64_in _ (by omega)
                have u2 : IntKind.i64.wrap (16 * dy + dz) = 16 * dy + dz := IntWalk.i64_in _ (by omega)
                have u3 : IntKind.u8.wrap (16 * dy + dz) = 16 * dy + dz := IntWalk.u8_in _ (by omega)
                obtain ⟨vq, hvq⟩ : ∃ v, 16 * dy + dz = v := ⟨_, rfl⟩
                have HVQ := Lib.hid hvq
                rw [hvq] at u2 u3 v0 v255
                obtain ⟨v', W', hrun, hown, hbel⟩ := K2.out.own.one vq v0 v255 (by have := hbl.out; have := HM.out; have := hkM.out; omega) Z2.out
                obtain ⟨a', m', c', rfl⟩ : ∃ a m c, v' = .slice a m c := by
                  obtain ⟨a, c, e⟩ := hown.shape
                  exact ⟨a, _, c, e⟩
                have f3 := (K2.out.blk.below hbel (by omega)).free 2
                have d2 := (K2.out.blk.below hbel (by omega)).cell 2
                simp only [List.getElem?_toArray, List.getElem?_cons_zero, List.getElem?_cons_succ] at d2
                have S6 := Lib.hid (K2.out.app hown hbel (by rw [List.length_append]; have := hbl.out; have := HM.out; have := hkM.out; simp; omega))
                have Z6 := Lib.hid (show b + 2 ≤ (W'.setCell ⟨b + 1, 2, none⟩ (.slice a' m' c')).heap.size by have := hbel.size; have := Z2.out; simp [World.setCell]; omega)
                clear a0 a1 a2 g0 g1 g2 c0 c1 hown hbel hpc
                go_wp2_with (at_builtin; refine wpList_append_run rfl _ _ _ _ rfl _ _ _ _ rfl rfl hrun ?_)
                go_roundw
                case measure => simp [intOf]; have := HP.out; have := hkM.out; omega
                case rel => exact ⟨k + 1, _, bs ++ [UInt8.ofNat vq.toNat], by rw [← HP.out]; go_num, by have := hkM.out; omega, S6, Z6, Lib.hid (by rw [List.length_append, hbl.out]; rfl), Lib.hid (by
                  have hX := HX.out
                  have hY := HY.out
                  have hZ := HZ.out
                  rw [← HP.out] at hX hY hZ
                  refine take_feed hC.out hX hY hZ ?_
                  have := HPC.out
                  rw [HDY.out, HDZ.out, HVQ.out] at this
                  exact this)⟩
              · have t3 : decide (dy < 0) = false := by simp; omega
                have t4 : decide (dz < 0) = true := by simp; omega
                go_wp2
                obtain ⟨hfin1, hfin2, hc0, hc1, hc2⟩ := K2.out.fin (.int .i64 0) (.int .i64 0) (.slice none 0 0)
                refine bodyPost_ret (v := .tuple #[.agg #[.int .i64 0, .int .i64 0, .slice none 0 0], .bool false]) (by simp [results, Tryd.results31, go_sem, hc0, hc1, hc2]) rfl ?_
                refine ReadPost.mk ⟨⟨_, _, _, _, _, rfl⟩, hfin1, (fun h => by cases h), fun _ pl hf hy => ?_⟩
                obtain ⟨o1, o2, o3⟩ := feed_only Hl.out HM.out hkM.out Htk.out (HP.out ▸ HX.out) (HP.out ▸ HY.out) (HP.out ▸ HZ.out) (HK.out pl hf hy) hy
                rw [HDY.out] at o2
                rw [HDZ.out] at o3
                omega
            · have t3 : decide (dy < 0) = true := by simp; omega
              go_wp2
              obtain ⟨hfin1, hfin2, hc0, hc1, hc2⟩ := K2.out.fin (.int .i64 0) (.int .i64 0) (.slice none 0 0)
              refine bodyPost_ret (v := .tuple #[.agg #[.int .i64 0, .int .i64 0, .slice none 0 0], .bool false]) (by simp [results, Tryd.results31, go_sem, hc0, hc1, hc2]) rfl ?_
              refine ReadPost.mk ⟨⟨_, _, _, _, _, rfl⟩, hfin1, (fun h => by cases h), fun _ pl hf hy => ?_⟩
              obtain ⟨o1, o2, o3⟩ := feed_only Hl.out HM.out hkM.out Htk.out (HP.out ▸ HX.out) (HP.out ▸ HY.out) (HP.out ▸ HZ.out) (HK.out pl hf hy) hy
              rw [HDY.out] at o2
              rw [HDZ.out] at o3
              omega
          · have t2 : ((x.toNat : Int) != 32) = true := by
                          simp only [bne_iff_ne, ne_eq]
                          intro h
                          exact ex (UInt8.toNat_inj.1 (by show x.toNat = 32; omega))
            go_wp2
            obtain ⟨hfin1, hfin2, hc0, hc1, hc2⟩ := K2.out.fin (.int .i64 0) (.int .i64 0) (.slice none 0 0)
            refine bodyPost_ret (v := .tuple #[.agg #[.int .i64 0, .int .i64 0, .slice none 0 0], .bool false]) (by simp [results, Tryd.results31, go_sem, hc0, hc1, hc2]) rfl ?_
            refine ReadPost.mk ⟨⟨_, _, _, _, _, rfl⟩, hfin1, (fun h => by cases h), fun _ pl hf hy => ?_⟩
            obtain ⟨o1, o2, o3⟩ := feed_only Hl.out HM.out hkM.out Htk.out (HP.out ▸ HX.out) (HP.out ▸ HY.out) (HP.out ▸ HZ.out) (HK.out pl hf hy) hy
            rw [HDY.out] at o2
            rw [HDZ.out] at o3
            exact ex o1
      · obtain rfl : k = M := by omega
        have t1 : decide ((p : Int) < (s.size : Int)) = false := by have := HM.out; simp; omega
        have t1n : decide (p < s.size) = false := by have := HM.out; simp; omega
        have c0 := hS.out.blk.cell 0
        have c1 := hS.out.blk.cell 1
        have c2 := hS.out.blk.cell 2
        have a0 := hS.out.res.cell 0
        have a1 := hS.out.res.cell 1
        have a2 := hS.out.res.cell 2
        have g0 := hS.out.res.free 0
        have g1 := hS.out.res.free 1
        have g2 := hS.out.res.free 2
        simp only [List.getElem?_toArray, List.getElem?_cons_zero, List.getElem?_cons_succ] at a0 a1 a2 c0 c1 c2
        clear hp hlt
        go_wp2
        obtain ⟨hfin1, hfin2, hc0, hc1, hc2⟩ := hS.out.fin (.int .i64 1) (.int .i64 0) (.slice a nb c)
        refine bodyPost_ret (v := .tuple #[.agg #[.int .i64 1, .int .i64 0, .slice a nb c], .bool true]) (by simp [results, Tryd.results31, go_sem, hc0, hc1, hc2]) rfl ?_
        refine ReadPost.mk ⟨⟨_, _, _, _, _, rfl⟩, hfin1, fun _ => ⟨⟨1, 0, bs⟩, rfl, ?_, hS.out.len, hfin2⟩, (fun h => by cases h)⟩
        have e := hC.out
        rw [List.take_of_length_le (by rw [Hll.out, HM.out]; exact Nat.le_refl _)] at e
        have e2 := Hl.out
        rw [e] at e2
        cases s with | mk d => exact congrArg ByteArray.mk (Array.toList_inj.1 (by rw [show d.toList = _ from e2]; rfl))
  · have HRO := Lib.hid (fun (x : PlD) (hf : fineK x = true) (hx : s = mkW (lineK x)) => run_only hl hfeed (HK.out x hf hx) hx)
    have HNF := Lib.hid hfeed
    by_cases hrun : 5 ≤ s.size ∧ l.take 4 = runL ∧ s.size ≤ 11
    · obtain ⟨r5, rtk, r11⟩ := hrun
      have d4 : decide ((4 : Int) ≤ (s.size : Int)) = true := by simp; omega
      have d4n : decide (4 ≤ s.size) = true := by simp; omega
      have d5 : decide ((s.size : Int) < 5) = false := by simp; omega
      have d5n : decide (s.size < 5) = false := by simp; omega
      have d11 : decide ((11 : Int) < (s.size : Int)) = false := by simp; omega
      have d11n : decide (11 < s.size) = false := by simp; omega
      have e4 : ((s.extract 0 4).toList == ([102, 101, 101, 100] : List UInt8)) = false := by rw [ByteArray.toList_eq, Lib.extract_from_zero, hl, rtk]; rfl
      have e5 : ((s.extract 0 4).toList == ([114, 117, 110, 32] : List UInt8)) = true := by rw [ByteArray.toList_eq, Lib.extract_from_zero, hl, rtk]; rfl
      have HTK := Lib.hid rtk
      clear hfeed hl hll rtk
      go_upto_block 3 with fail
      clear d4 d4n d5 d5n d11 d11n e4 e5
      go_wp2_with fail
      go_loopw [8, 9] (fun v i wr => ∃ (k m : Nat), i = .int .i64 ((4 + k : Nat) : Int) ∧ v = .int .i64 (m : Int) ∧ 4 + k ≤ s.size ∧ wr = W1 ∧ Hid (Lib.decFrom 0 ((l.drop 4).take k) = some m)) (fun _ i _ => s.size - (intOf i).toNat)
      case atStart => exact ⟨0, 0, rfl, rfl, by omega, rfl, Lib.hid rfl⟩
      case round =>
        obtain ⟨k, m, rfl, rfl, hk, rfl, hD⟩ := hrel
        have hm : m < 10 ^ 8 := by
          have h := Lib.decFrom_lt _ _ _ hD.out
          have h2 : ((l.drop 4).take k).length ≤ 7 := by rw [List.length_take]; omega
          have h3 := Nat.pow_le_pow_right (n := 10) (by omega) h2
          omega
        have hm := Lib.hid hm
        obtain ⟨p, hp⟩ : ∃ p, 4 + k = p := ⟨_, rfl⟩
        have HP := Lib.hid hp
        rw [hp] at hk ⊢
        clear hp
        by_cases hlt : p < s.size
        · obtain ⟨c, hc⟩ : ∃ c, s[p] = c := ⟨_, rfl⟩
          have HX := Lib.hid (show l[p]? = some c by rw [← Hl.out, ← hc]; exact List.getElem?_eq_getElem (by show p < s.size; omega))
          have t1 : decide ((p : Int) < (s.size : Int)) = true := by simp; omega
          have t1n : decide (p < s.size) = true := by simp; omega
          have c8 := c.toNat_lt
          by_cases hdg : 48 ≤ c.toNat ∧ c.toNat ≤ 57
          · obtain ⟨h48, h57⟩ := hdg
            have f1 : decide ((c.toNat : Int) < 48) = false := by simp; omega
            have f2 : decide ((57 : Int) < (c.toNat : Int)) = false := by simp; omega
            have f1n : decide (c.toNat < 48) = false := by simp; omega
            have f2n : decide (57 < c.toNat) = false := by simp; omega
            have u0 : IntKind.i64.wrap (10 * (m : Int)) = 10 * (m : Int) := IntWalk.i64_in _ (by have := hm.out; omega)
            have u1 : IntKind.u8.wrap ((c.toNat : Int) - 48) = (c.toNat : Int) - 48 := IntWalk.u8_in _ (by omega)
            have u2 : IntKind.i64.wrap ((c.toNat : Int) - 48) = (c.toNat : Int) - 48 := IntWalk.i64_in _ (by omega)
            have u3 : IntKind.i64.wrap (10 * (m : Int) + ((c.toNat : Int) - 48)) = 10 * (m : Int) + ((c.toNat : Int) - 48) := IntWalk.i64_in _ (by have := hm.out; omega)
            have HD2 := Lib.hid (show Lib.decFrom 0 ((l.drop 4).take (k + 1)) = some (m * 10 + (c.toNat - 48)) from Lib.decFrom_take _ k 0 m c _ hD.out (by rw [List.getElem?_drop, HP.out]; exact HX.out) (by unfold Lib.digitVal; rw [if_pos ⟨h48, h57⟩]))
            go_wp2
            go_roundw
            case measure => simp [intOf]; omega
            case rel => exact ⟨k + 1, m * 10 + (c.toNat - 48), by rw [← HP.out]; go_num, congrArg (Value.int .i64) (by omega), by have := HP.out; omega, trivial, HD2⟩
          · have hbad : ∀ (W : World) (v : Value), (∃ K N a n c, v = .agg #[.int .i64 K, .int .i64 N, .slice a n c]) → Below w.heap.size w W → ReadSays s w W v false := fun W v hv hb => ⟨hv, hb, (fun h => by cases h), fun _ x hf hx => by
              obtain ⟨-, -, -, r0, r1, r2, r3⟩ := HRO.out x hf hx
              have hxx := HX.out
              rw [r0, List.getElem?_append_right (by have := HP.out; show 4 ≤ p; omega)] at hxx
              exact hdg (dec_sp _ c (List.mem_of_getElem? hxx))⟩
            have HBad := Lib.hid hbad
            clear hbad
            by_cases h48 : c.toNat < 48
            · have f1 : decide ((c.toNat : Int) < 48) = true := by simp; omega
              have f1n : decide (c.toNat < 48) = true := by simp; omega
              clear hdg
              go_wp2
              obtain ⟨hfin1, hc0, hc1, hc2⟩ := HFin.out 0
              refine bodyPost_ret (v := .tuple #[.agg #[.int .i64 0, .int .i64 0, .slice none 0 0], .bool false]) (by simp [results, Tryd.results31, go_sem, hc0, hc1, hc2]) rfl ?_
              exact ReadPost.mk (HBad.out _ _ ⟨_, _, _, _, _, rfl⟩ hfin1)
            · have f1 : decide ((c.toNat : Int) < 48) = false := by simp; omega
              have f1n : decide (c.toNat < 48) = false := by simp; omega
              have f2 : decide ((57 : Int) < (c.toNat : Int)) = true := by simp; omega
              have f2n : decide (57 < c.toNat) = true := by simp; omega
              clear hdg h48
              go_wp2
              obtain ⟨hfin1, hc0, hc1, hc2⟩ := HFin.out 0
              refine bodyPost_ret (v := .tuple #[.agg #[.int .i64 0, .int .i64 0, .slice none 0 0], .bool false]) (by simp [results, Tryd.results31, go_sem, hc0, hc1, hc2]) rfl ?_
              exact ReadPost.mk (HBad.out _ _ ⟨_, _, _, _, _, rfl⟩ hfin1)
        · have t1 : decide ((p : Int) < (s.size : Int)) = false := by simp; omega
          have t1n : decide (p < s.size) = false := by simp; omega
          have HCm := Lib.hid (show ∀ x, fineK x = true → s = mkW (lineK x) → x = ⟨3, m, []⟩ from fun x hf hx => by
            obtain ⟨e1, r1, r2, r0, -⟩ := HRO.out x hf hx
            have hDD := hD.out
            have hlen := Hll.out
            rw [r0, List.length_append] at hlen
            have hlen : 4 + (Lib.decDigits x.n.toNat).length = s.size := hlen
            rw [r0, show List.drop 4 (runL ++ Lib.decDigits x.n.toNat) = Lib.decDigits x.n.toNat from rfl, List.take_of_length_le (by have := HP.out; omega), dec_val] at hDD
            have := Option.some.inj hDD
            rw [e1]
            have e3 : x.n = (m : Int) := by omega
            rw [e3])
          have z1 := Hz1.out
          have bw := Hb.out
          have QS0 : QSt w (wr.alloc (.cells #[.int .i64 3, .int .i64 m, .slice none 0 0] 34)) b 3 m (.slice none 0 0) [] := by
            have R2 := Blk.new wr #[.int .i64 3, .int .i64 m, .slice none 0 0] 34
            have la : Below wr.heap.size wr (wr.alloc (.cells #[.int .i64 3, .int .i64 m, .slice none 0 0] 34)) := (Below.refl _ wr).alloc (Nat.le_refl _) _
            rw [z1] at R2
            exact ⟨chain Hl1.out la, HR1.out.below la HR1.out.lt, R2, bw, UOwn.nil _ _, by simp⟩
          have QS0 := Lib.hid QS0
          clear bw hlt
          go_upto_region 28 with fail
          have SK := QS0.out
          generalize wr.alloc (.cells #[.int .i64 3, .int .i64 (m : Int), .slice none 0 0] 34) = W5 at SK ⊢
          have HS := Lib.hid SK
          clear SK QS0 z1 a0 a1 a2 g0 g1 g2
          obtain ⟨ln, hln⟩ : ∃ ln, mkW (lineK ⟨3, m, []⟩) = ln := ⟨_, rfl⟩
          obtain ⟨bb, hbb⟩ : ∃ bb, (ln.toList == s.toList) = bb := ⟨_, rfl⟩
          have HLn := Lib.hid hln
          have HBB := Lib.hid hbb
          have HCell := Lib.hid (show ∀ Wx, QSt w Wx b 3 m (.slice none 0 0) [] → Wx.cell? ⟨b + 1, 0, none⟩ = some (.int .i64 3) ∧ Wx.cell? ⟨b + 1, 1, none⟩ = some (.int .i64 m) ∧ Wx.cell? ⟨b + 1, 2, none⟩ = some (.slice none 0 0) from fun Wx h => ⟨h.blk.cell 0, h.blk.cell 1, h.blk.cell 2⟩)
          have HRes := Lib.hid (show ∀ Wx, QSt w Wx b 3 m (.slice none 0 0) [] → Wx.cell? ⟨b, 0, none⟩ = some (.int .i64 0) ∧ Wx.cell? ⟨b, 1, none⟩ = some (.int .i64 0) ∧ Wx.cell? ⟨b, 2, none⟩ = some (.slice none 0 0) ∧ Wx.frozen? ⟨b, 0, none⟩ = false ∧ Wx.frozen? ⟨b, 1, none⟩ = false ∧ Wx.frozen? ⟨b, 2, none⟩ = false from fun Wx h => ⟨h.res.cell 0, h.res.cell 1, h.res.cell 2, h.res.free 0, h.res.free 1, h.res.free 2⟩)
          have HSD := Lib.hid (HS.out.below ((Below.refl _ _).drew))
          clear hln
          have hS0 := HCell.out _ HSD.out
          have hS1 := HCell.out _ HS.out
          by_cases hle : m ≤ 1048576
          · have KL := Lib.hid (show ∀ Wx, QSt w Wx b 3 m (.slice none 0 0) [] → Calls Tryd.prog 30 #[.agg #[.int .i64 3, .int .i64 m, .slice none 0 0]] Wx fun e w' => e = .returned (.string ln) ∧ Below Wx.heap.size Wx w' from fun Wx hW => HLn.out ▸ rline_run m (.slice none 0 0) Wx (by omega) (by omega))
            have y1 : decide ((m : Int) ≤ 1048576) = true := by simp; omega
            have y1n : decide (m ≤ 1048576) = true := by simp; omega
            go_region_held3 (fun wx => wx.cell? ⟨b + 1, 0, none⟩ = some (.int .i64 3) ∧ wx.cell? ⟨b + 1, 1, none⟩ = some (.int .i64 m) ∧ wx.cell? ⟨b + 1, 2, none⟩ = some (.slice none 0 0)) (first | assumption | go_keep) (first | (go_at_call 30; with_reducible (refine (KL.out _ HSD.out).mono ?_); rintro r2 w2 ⟨rfl, b2⟩; have K2 := Lib.hid (HSD.out.below b2); have hS3 := HCell.out _ K2.out; obtain ⟨a0, a1, a2, g0, g1, g2⟩ := HRes.out _ K2.out; clear b2) | fail)
            all_goals
              go_wp2
              obtain ⟨hfin1, hfin2, hc0, hc1, hc2⟩ := K2.out.fin (.int .i64 3) (.int .i64 m) (.slice none 0 0)
              refine bodyPost_ret (v := .tuple #[.agg #[.int .i64 3, .int .i64 m, .slice none 0 0], .bool bb]) (by simp [results, Tryd.results31, go_sem, hc0, hc1, hc2]) rfl ?_
              refine ReadPost.mk ⟨⟨_, _, _, _, _, rfl⟩, hfin1, fun hbt => ⟨⟨3, m, []⟩, ?_, ?_, Nat.zero_le _, hfin2⟩, fun hbf x hfx hx => ?_⟩
              · unfold fineK; simp; omega
              · rw [HLn.out]; exact (bytes_eq (HBB.out.trans hbt)).symm
              · have e := HCm.out x hfx hx
                rw [hx, e, HLn.out] at HBB
                have := HBB.out
                rw [beq_self_eq_true, hbf] at this
                cases this
          · have y1 : decide ((m : Int) ≤ 1048576) = false := by simp; omega
            have y1n : decide (m ≤ 1048576) = false := by simp; omega
            obtain ⟨a0, a1, a2, g0, g1, g2⟩ := HRes.out _ HSD.out
            have HLE := Lib.hid hle
            clear hle
            have hS2 := HRes.out _ HS.out
            first | go_region | go_region_with (go_at_call 30; skip)
            all_goals
              go_wp2
              obtain ⟨hfin1, hfin2, hc0, hc1, hc2⟩ := HS.out.fin (.int .i64 3) (.int .i64 m) (.slice none 0 0)
              refine bodyPost_ret (v := .tuple #[.agg #[.int .i64 3, .int .i64 m, .slice none 0 0], .bool false]) (by simp [results, Tryd.results31, go_sem, hc0, hc1, hc2]) rfl ?_
              refine ReadPost.mk ⟨⟨_, _, _, _, _, rfl⟩, hfin1.drew, (fun h => by cases h), fun _ x hfx hx => ?_⟩
              obtain ⟨-, r1, r2, -⟩ := HRO.out x hfx hx
              have e := HCm.out x hfx hx
              rw [e] at r2
              have := HLE.out
              simp only at r2
              omega
    · have HNR := Lib.hid hrun
      have hto : ∀ r : List UInt8, ((s.extract 0 4).toList == r) = (l.take 4 == r) := fun r => by rw [ByteArray.toList_eq, Lib.extract_from_zero, hl]
      have hbad : ∀ (W : World) (v : Value), (∃ K N a n c, v = .agg #[.int .i64 K, .int .i64 N, .slice a n c]) → Below w.heap.size w W → ReadSays s w W v false := fun W v hv hb => ⟨hv, hb, (fun h => by cases h), fun _ x hf hx => by
        obtain ⟨-, -, -, -, r1, r2, r3⟩ := HRO.out x hf hx
        exact HNR.out ⟨r1, r3, r2⟩⟩
      have HBad := Lib.hid hbad
      clear hbad
      by_cases hA : s.size < 4
      · have d4 : decide ((4 : Int) ≤ (s.size : Int)) = false := by simp; omega
        have d4n : decide (4 ≤ s.size) = false := by simp; omega
        have d5 : decide ((s.size : Int) < 5) = true := by simp; omega
        have d5n : decide (s.size < 5) = true := by simp; omega
        clear hfeed hrun hl hll hto
        go_wp2
        obtain ⟨hfin1, hc0, hc1, hc2⟩ := HFin.out 0
        refine bodyPost_ret (v := .tuple #[.agg #[.int .i64 0, .int .i64 0, .slice none 0 0], .bool false]) (by simp [results, Tryd.results31, go_sem, hc0, hc1, hc2]) rfl ?_
        exact ReadPost.mk (HBad.out _ _ ⟨_, _, _, _, _, rfl⟩ hfin1)
      by_cases hB : l.take 4 = feedL
      · have hmod : ¬ (s.size - 4) % 3 = 0 := fun h => hfeed ⟨by omega, hB, h⟩
        have d4 : decide ((4 : Int) ≤ (s.size : Int)) = true := by simp; omega
        have d4n : decide (4 ≤ s.size) = true := by simp; omega
        have d5 : decide ((s.size : Int) < 5) = false := by simp; omega
        have d5n : decide (s.size < 5) = false := by simp; omega
        have e4 : ((s.extract 0 4).toList == ([102, 101, 101, 100] : List UInt8)) = true := by rw [hto, hB]; rfl
        have e5 : ((s.extract 0 4).toList == ([114, 117, 110, 32] : List UInt8)) = false := by rw [hto, hB]; rfl
        have m3 : (((s.size : Int) - 4) % 3 == 0) = false := by simp; omega
        clear hmod
        clear hfeed hrun hl hll hto
        go_wp2
        obtain ⟨hfin1, hc0, hc1, hc2⟩ := HFin.out 0
        refine bodyPost_ret (v := .tuple #[.agg #[.int .i64 0, .int .i64 0, .slice none 0 0], .bool false]) (by simp [results, Tryd.results31, go_sem, hc0, hc1, hc2]) rfl ?_
        exact ReadPost.mk (HBad.out _ _ ⟨_, _, _, _, _, rfl⟩ hfin1)
      have e4 : ((s.extract 0 4).toList == ([102, 101, 101, 100] : List UInt8)) = false := by rw [hto, beq_eq_false_iff_ne]; exact hB
      by_cases hC : s.size < 5
      · have d4 : decide ((4 : Int) ≤ (s.size : Int)) = true := by simp; omega
        have d4n : decide (4 ≤ s.size) = true := by simp; omega
        have d5 : decide ((s.size : Int) < 5) = true := by simp; omega
        have d5n : decide (s.size < 5) = true := by simp; omega
        clear hfeed hrun hl hll hto
        go_wp2
        obtain ⟨hfin1, hc0, hc1, hc2⟩ := HFin.out 0
        refine bodyPost_ret (v := .tuple #[.agg #[.int .i64 0, .int .i64 0, .slice none 0 0], .bool false]) (by simp [results, Tryd.results31, go_sem, hc0, hc1, hc2]) rfl ?_
        exact ReadPost.mk (HBad.out _ _ ⟨_, _, _, _, _, rfl⟩ hfin1)
      by_cases hD : l.take 4 = runL
      · have h11 : 11 < s.size := by
          rcases Nat.lt_or_ge 11 s.size with h | h
          · exact h
          · exact absurd ⟨by omega, hD, h⟩ hrun
        have d4 : decide ((4 : Int) ≤ (s.size : Int)) = true := by simp; omega
        have d4n : decide (4 ≤ s.size) = true := by simp; omega
        have d5 : decide ((s.size : Int) < 5) = false := by simp; omega
        have d5n : decide (s.size < 5) = false := by simp; omega
        have e5 : ((s.extract 0 4).toList == ([114, 117, 110, 32] : List UInt8)) = true := by rw [hto, hD]; rfl
        have d11 : decide ((11 : Int) < (s.size : Int)) = true := by simp; omega
        have d11n : decide (11 < s.size) = true := by simp; omega
        clear hfeed hrun hl hll hto
        go_wp2
        obtain ⟨hfin1, hc0, hc1, hc2⟩ := HFin.out 0
        refine bodyPost_ret (v := .tuple #[.agg #[.int .i64 0, .int .i64 0, .slice none 0 0], .bool false]) (by simp [results, Tryd.results31, go_sem, hc0, hc1, hc2]) rfl ?_
        exact ReadPost.mk (HBad.out _ _ ⟨_, _, _, _, _, rfl⟩ hfin1)
      · have d4 : decide ((4 : Int) ≤ (s.size : Int)) = true := by simp; omega
        have d4n : decide (4 ≤ s.size) = true := by simp; omega
        have d5 : decide ((s.size : Int) < 5) = false := by simp; omega
        have d5n : decide (s.size < 5) = false := by simp; omega
        have e5 : ((s.extract 0 4).toList == ([114, 117, 110, 32] : List UInt8)) = false := by rw [hto, beq_eq_false_iff_ne]; exact hD
        clear hfeed hrun hl hll hto
        go_wp2
        obtain ⟨hfin1, hc0, hc1, hc2⟩ := HFin.out 0
        refine bodyPost_ret (v := .tuple #[.agg #[.int .i64 0, .int .i64 0, .slice none 0 0], .bool false]) (by simp [results, Tryd.results31, go_sem, hc0, hc1, hc2]) rfl ?_
        exact ReadPost.mk (HBad.out _ _ ⟨_, _, _, _, _, rfl⟩ hfin1)
end Go.Proofs.YtbjlnllbcgghlaaDoor
