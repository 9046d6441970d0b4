/- Contracts of (*frames.Stack).Push. -/
import Derived.Test.YtmnadlgglmhfhaaInv
import Derived.Deep.RegionLaw
import Derived.Deep.AppendLies
namespace Go.Proofs.Ytmnadlgglmhfhaa
open Go.RowKit
set_option linter.unusedSimpArgs false

theorem infoF : (Try.prog.info? 32).map (fun i => (i.zero, i.size, i.bytes)) = some (some (.agg #[.int .i64 0, .int .i64 0, .int .i64 0, .string ⟨#[]⟩, .slice none 0 0, .slice none 0 0]), 6, 88) := by kernel_rfl

theorem off_of_grown {W W' : World} {row : Option Nat} (h : W.grownBy W' row) : Off (fun k => some k = row) W W' :=
  ⟨h.os, h.tape, h.output, h.size, fun k hk hn => h.block k hk hn⟩
theorem off_set {W : World} {b i : Nat} {v : Value} : Off (fun k => k = b) W (W.setCell ⟨b, i, none⟩ v) :=
  ⟨rfl, rfl, rfl, by simp [World.setCell], fun k _ hn => Below.heap_setCell _ _ _ _ hn⟩

theorem frame_news (u : Row) (W : World) : ∀ j x, u.cells[j]? = some x → (W.alloc (.cells #[.int .i64 u.f.k, .int .i64 u.f.o, .int .i64 u.f.n, .string u.f.s, u.vw, u.vd] 32)).cell? ((⟨W.heap.size, 0, none⟩ : Addr).add j) = some x :=
  World.news_of_block (heap_alloc_new W _)

set_option maxRecDepth 100000 in
set_option maxHeartbeats 4000000 in
theorem push_ok (f : FrD) (vw vd : Value) (b B lim : Nat) (us : List Row) (vl : Value) (w : World) (h : SInv w b B lim us vl) (hw : WAt w vw f.ws) (hd : WAt w vd f.ds)
    (hc : chkK f.k f.o f.n f.s f.ws.length f.ds.length = true) (hb : takenOf us + f.takes ≤ lim) :
    Calls Try.prog 11 #[.pointer (some ⟨b, 0, none⟩), .agg #[.int .i64 f.k, .int .i64 f.o, .int .i64 f.n, .string f.s, vw, vd]] w fun e w' => e = .returned (.int .i64 0) ∧
      ∃ vl' vw' vd', SInv w' b B lim (us ++ [⟨f, vw', vd'⟩]) vl' ∧ (∀ k, Foot b vl' (us ++ [⟨f, vw', vd'⟩]) k → Foot b vl us k ∨ w.heap.size ≤ k) ∧ Off (Foot b vl us) w w' := by
  obtain ⟨i0, hi, hz0, hz1, hz2⟩ := info_parts infoF
  have hlim := h.lm
  have hlen := len_le_taken us
  have hnl : f.ws.length ≤ 4194304 := by unfold FrD.takes at hb; omega
  have hnd : f.ds.length ≤ 4194304 := by unfold FrD.takes at hb; omega
  have hns : f.s.size ≤ 100000000 := by unfold FrD.takes at hb; omega
  obtain ⟨aw, cw, rfl, hw'⟩ := hw
  obtain ⟨ad, cd, rfl, hd'⟩ := hd
  have kc := fun W => check_any f.k f.o f.n f.s aw ad f.ws.length f.ds.length cw cd W
  rw [hc] at kc
  simp only [if_true] at kc
  have kt := fun W => takes_any f.k f.o f.n f.s aw ad f.ws.length f.ds.length cw cd W (by omega) (by omega) (by omega)
  have ko := fun W (hW : Below w.heap.size w W) => own_any f.k f.o f.n f.s (.slice aw f.ws.length cw) (.slice ad f.ds.length cd) f.ws f.ds W (WAt.below ⟨_, _, rfl, hw'⟩ hW (Nat.le_refl _)) (WAt.below ⟨_, _, rfl, hd'⟩ hW (Nat.le_refl _)) (by omega) (by omega)
  have KC := Lib.hid kc; have KO := Lib.hid ko
  obtain ⟨K, hK⟩ : ∃ K, 1 + f.ws.length + f.ds.length + (f.s.size + 7) / 8 = K := ⟨_, rfl⟩
  have hKf : f.takes = K := hK
  rw [hK] at kt
  have KT := Lib.hid kt
  rw [hKf] at hb
  obtain ⟨T, hT⟩ : ∃ T, takenOf us = T := ⟨_, rfl⟩
  have hS := h.blk
  rw [hT] at hS hb
  have H := Lib.hid h
  have HT := Lib.hid hT; have HK := Lib.hid hKf
  have HL := Lib.hid hlen
  clear kc kt ko hw' hd' hc h hT hKf hK hlen
  obtain ⟨k, o, n, s, ws, ds⟩ := f
  dsimp only at *
  obtain ⟨lw, hlw⟩ : ∃ l, ws.length = l := ⟨_, rfl⟩
  obtain ⟨ld, hld⟩ : ∃ l, ds.length = l := ⟨_, rfl⟩
  rw [hlw] at KC KO KT hnl ⊢
  rw [hld] at KC KO KT hnd ⊢
  have HLw := Lib.hid hlw; have HLd := Lib.hid hld
  clear hlw hld
  have HWr : Hid (IntKind.i64.wrap ((T : Int) + (K : Int)) = (T : Int) + (K : Int)) := Lib.hid (IntWalk.i64_in _ (by omega))
  go_enter Try.func11, Try.ntmps11
  go_upto_region 1 with fail
  generalize hW0 : w.alloc (Obj.cells #[.int .i64 k, .int .i64 o, .int .i64 n, .string s, .slice aw lw cw, .slice ad ld cd] 32) = W0
  have hbel : Below w.heap.size w W0 := by rw [← hW0]; ((repeat (first | exact Below.refl _ _ | (refine Below.alloc ?_ (by first | (simp [World.setCell]; done) | (simp [World.setCell]; omega)) _) | (refine Below.setCell ?_ (by first | (simp [World.setCell]; done) | (simp [World.setCell]; omega)) _) | refine Below.drew ?_)))
  have B0 : Blk W0 w.heap.size #[.int .i64 k, .int .i64 o, .int .i64 n, .string s, .slice aw lw cw, .slice ad ld cd] := by rw [← hW0]; exact Blk.new w _ _
  have S0 := hS.below hbel hS.lt
  clear hW0
  have c0 := B0.cell
  have s0 := S0.cell
  go_upto_region 6 with (first | (go_at_call 40; with_reducible refine (none_any b _ _ _ true _ S0).mono ?_; rintro e w1 ⟨rfl, hb1⟩; have B1 := B0.below hb1 B0.lt; have c1 := B1.cell; have l1 := hbel.trans (hb1.mono hbel.size)) | (go_at_call 25; with_reducible refine (KC.out _).mono ?_; rintro e w2 ⟨rfl, hb2⟩; have l2 := l1.trans (hb2.mono l1.size); have B2 := B1.below hb2 B1.lt))
  clear c0 s0 c1
  have S2 := hS.below l2 hS.lt
  have c2 := B2.cell
  have s2 := S2.cell
  go_cut [24] (fun s24 wx => s24 = .bool false ∧ Below w.heap.size w wx ∧ Blk wx w.heap.size #[.int .i64 k, .int .i64 o, .int .i64 n, .string s, .slice aw lw cw, .slice ad ld cd])
  case first =>
    go_region_with (go_at_call 12; with_reducible refine (KT.out _).mono ?_; rintro e w3 ⟨rfl, hb3⟩; have q3 := below_of_drew hb3; have l3 := l2.trans (q3.mono l2.size); have B3 := B2.below q3 B2.lt; have S3 := hS.below l3 hS.lt; have s3 := S3.cell)
    all_goals
      go_wp2
      go_meet
      exact ⟨by simp only [HWr.out]; simp; omega, l3, B3⟩
  case rest =>
    obtain ⟨rfl, l3, B3⟩ := hcut
    clear c2 s2 S2
    have S3 := hS.below l3 hS.lt
    have c3 := B3.cell
    have s3 := S3.cell
    go_upto_region 8 with fail
    go_cut [] (fun wx => ∃ g cap vw' vd' m, Blk wx b #[.int .i64 lim, .int .i64 T, .slice (some ⟨g, 0, none⟩) (us.length + 1) cap, .bool true] ∧ Blk wx w.heap.size #[.int .i64 k, .int .i64 o, .int .i64 n, .string s, .slice aw lw cw, .slice ad ld cd] ∧
      wx.ownsRow B 32 6 (.slice (some ⟨g, 0, none⟩) (us.length + 1) cap) (us.length + 1) (flatF us ++ Row.cells ⟨⟨k, o, n, s, ws, ds⟩, vw', vd'⟩) ∧ WOwn wx w.heap.size vw' ws ∧ WOwn wx m vd' ds ∧ w.heap.size ≤ m ∧ (∀ i, vw'.ownBlock = some i → i < m) ∧
      (vl.ownBlock = some g ∨ w.heap.size ≤ g) ∧ Off (fun i => i = b ∨ vl.ownBlock = some i) w wx)
    case first =>
      go_region_law (first | (refine step_append_lies _ (by rfl) _ _ _ (by rfl) B 32 i0 (.agg #[.int .i64 0, .int .i64 0, .int .i64 0, .string ⟨#[]⟩, .slice none 0 0, .slice none 0 0]) 6 88 Try.underlying29 hi hz0 hz1 hz2 rfl (by decide) vl us.length (flatF us) (by rfl) (R4.alloc _) ⟨w4.heap.size, 0, none⟩ 1 1 (Row.cells ⟨⟨k, o, n, s, ws, ds⟩, .slice p1 lw x1, .slice p2 ld x2⟩) (by rfl) (by rfl) (frame_news ⟨⟨k, o, n, s, ws, ds⟩, .slice p1 lw x1, .slice p2 ld x2⟩ w4) (by simp [Row.cells, Value.oneCell']) (by decide) (by have := HL.out; have := HT.out; unfold maxLen; omega) (by have := HL.out; have := HT.out; omega) (by have := H.out.sz; have := l4.size; simp; omega) _ rfl ?_; intro g cap w5 hown hgrow hat hlt; have S5 := (off_of_grown hgrow).blk (S4.alloc _) (fun e => by have := own_from H.out.row b e.symm; have := H.out.lt; omega); have s5 := S5.cell; have f5 := S5.free) | (go_simp; go_at_call 41; with_reducible refine (KO.out _ l3.drew).mono ?_; rintro e w4 ⟨v1, v2, m, rfl, o1, o2, m1, m2, m3, hb4⟩; obtain ⟨p1, x1, rfl⟩ := own_shape o1; obtain ⟨p2, x2, rfl⟩ := own_shape o2; rw [HLw.out] at *; rw [HLd.out] at *; rw [size_drew] at o1 m1; have q4 := below_of_drew hb4; have l4 := l3.trans (q4.mono l3.size); have S4 := hS.below l4 hS.lt; have s4 := S4.cell; have t4 := S4.lt; have B4 := B3.below q4 B3.lt; have c4 := B4.cell; have R4 := own_on H.out.row l4 (own_lt H.out.row)))
      all_goals
        go_wp2
        go_meet
        have vlt := own_lt H.out.row
        have blt := hS.lt
        have hBb := H.out.lt
        have G := off_of_grown hgrow
        have E := off_set (W := w5) (b := b) (i := 2) (v := .slice (some ⟨g, 0, none⟩) (us.length + 1) cap)
        have o1' := own_low o1 l3.size
        have hwc := l3.size
        have lX := (Off.of_below (S := fun _ => False) (l4.alloc l4.size _)).trans G (T := fun i => i = b ∨ vl.ownBlock = some i) (fun i h => h.elim) (fun i h => .inl (.inr h.symm))
        refine ⟨g, cap, .slice p1 lw x1, .slice p2 ld x2, m, S5.set 2 _ (by simp), ?_, ?_, ?_, ?_, Nat.le_trans hwc m1, m3, ?_, ?_⟩
        · exact E.blk (G.blk (B4.alloc _) (fun e => by have := vlt _ e.symm; omega)) (by omega)
        · exact E.own hown (fun g' hg' e => by have := own_from hown g' hg'; omega)
        · exact E.own (G.own (o1'.alloc _) (fun g' hg' e => by have := own_from o1' g' hg'; have := vlt g' e.symm; omega)) (fun g' hg' e => by have := own_from o1' g' hg'; omega)
        · exact E.own (G.own (o2.alloc _) (fun g' hg' e => by have := own_from o2 g' hg'; have := vlt g' e.symm; omega)) (fun g' hg' e => by have := own_from o2 g' hg'; omega)
        · rcases hat with e | e
          · exact .inl e
          · exact .inr (by rw [e, World.size_alloc]; have := l4.size; omega)
        · exact lX.trans E (fun i h => h) (fun i h => .inl (.inl h))
    case rest =>
      obtain ⟨g, cap, vw', vd', m, T8, P8, R8, o1, o2, hm, hm3, hg, hoff⟩ := hcut
      clear c3 s3 S3
      have t8 := T8.cell
      have f8 := T8.free
      have p8 := P8.cell
      go_upto_region 9 with fail
      go_region_with (go_at_call 12; with_reducible refine (KT.out _).mono ?_; rintro e w9 ⟨rfl, hb9⟩; have q9 := below_of_drew hb9; have T9 := T8.below q9 T8.lt; have t9 := T9.cell; have f9 := T9.free)
      all_goals
        go_wp2
        have blt := hS.lt
        have hBb := H.out.lt
        have E := off_set (W := w9) (b := b) (i := 1) (v := .int .i64 ((T : Int) + (K : Int)))
        try simp only [HWr.out]
        refine bodyPost_ret (v := .int .i64 0) (by simp [results, Try.results11, go_sem]) rfl ⟨rfl, .slice (some ⟨g, 0, none⟩) (us.length + 1) cap, vw', vd', ?_⟩
        refine SInv.pushed (m := m) H.out ⟨⟨k, o, n, s, ws, ds⟩, vw', vd'⟩ ?_ ?_ ?_ ?_ ?_ hm hm3 ?_ ?_ ?_
        · have h1 := HK.out
          have h2 := HT.out
          rw [h2]
          show Blk _ _ #[_, .int .i64 ((T : Int) + ((FrD.takes ⟨k, o, n, s, ws, ds⟩ : Nat) : Int)), _, _]
          rw [h1]
          exact T9.set 1 _ (by simp)
        · exact Nat.le_trans hoff.size (Nat.le_trans q9.size E.size)
        · exact E.own (own_on R8 q9 (own_lt R8)) (fun g' hg' e => by have := own_from R8 g' hg'; omega)
        · exact E.own (own_on o1 q9 (own_lt o1)) (fun g' hg' e => by have := own_from o1 g' hg'; omega)
        · exact E.own (own_on o2 q9 (own_lt o2)) (fun g' hg' e => by have := own_from o2 g' hg'; omega)
        · intro g' hg'
          simp [Value.ownBlock] at hg'
          subst hg'
          exact hg
        · exact (hoff.trans (Off.of_below (S := fun _ => False) q9) (T := fun i => i = b ∨ vl.ownBlock = some i) (fun i h => h) (fun i h => h.elim)).trans E (fun i h => h) (fun i h => .inl (.inl h))
        · have h1 := HK.out
          have h2 := HT.out
          rw [h2]
          show T + FrD.takes ⟨k, o, n, s, ws, ds⟩ ≤ lim
          omega

end Go.Proofs.Ytmnadlgglmhfhaa
