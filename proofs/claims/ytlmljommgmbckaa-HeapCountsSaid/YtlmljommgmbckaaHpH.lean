/- The contract of Alloc: its walk. -/
import Derived.Test.YtlmljommgmbckaaHpG
namespace Go.Proofs.Ytlmljommgmbckaa
open Go.RowKit

def Ranged (us : List Wd) : Prop := ∀ x ∈ us, -9223372036854775808 ≤ x.2 ∧ x.2 ≤ 9223372036854775807

/-- What is known behind an Alloc. -/
structure Alloced (w w' : World) (b : Nat) (L : HL) (H H' : HS) : Prop where
  inv : HInv w' b L H'
  good : HGood H'
  nur : H'.nur = H.nur
  old : H'.old = H.old
  ng : H'.ng = H.ng
  off : Off (HFoot b L) w w'

theorem Alloced.same {w w' : World} {b : Nat} {L : HL} {H : HS} (h : HInv w b L H) (g : HGood H) (hb : Below w.heap.size w w') : Alloced w w' b L H H := ⟨h.below hb, g, rfl, rfl, rfl, Off.of_below hb⟩

/-- What an Alloc did: nothing, or a new object. -/
def Did (H H' : HS) (kind info : Int) (us : List Wd) (x y : Int) : Prop :=
  (H' = H ∧ x = 0 ∧ y ≠ 0) ∨ ∃ us3, H' = H.alloc kind info us3 ∧ x = H.top ∧ y = 0 ∧ (us3 = us ∨ (us = [] ∧ us3 = [(0, 0)])) ∧ (∀ u ∈ us, standsK H u.1 u.2 = true) ∧ 1 ≤ kind ∧ kind ≤ 5 ∧ 0 ≤ info ∧ info ≤ 1073741824 ∧ (kind < 5 ∨ 1 ≤ us3.length) ∧ us3.length ≤ 100 ∧ H.top + 1 + us3.length ≤ H.nur

set_option maxRecDepth 100000 in
set_option maxHeartbeats 4000000 in
theorem alloc_full (b : Nat) (L : HL) (H : HS) (w : World) (h : HInv w b L H) (g : HGood H) (kind info : Int) (p : Option Addr) (m c : Nat) (us : List Wd) (hm : us.length = m) (hm1 : m ≤ 100) (hu : WAt w (.slice p m c) us) (hr : Ranged us)
    (hap : 0 < m → ∀ k, (Value.slice p m c).ownBlock = some k → ¬ HFoot b L k) :
    Calls Try.prog 18 #[.pointer (some ⟨b, 0, none⟩), .int .i64 kind, .int .i64 info, .slice p m c] w fun e w' => ∃ (x y : Int) (H' : HS), e = .returned (.tuple #[.int .i64 x, .int .i64 y]) ∧ Alloced w w' b L H H' ∧ Did H H' kind info us x y := by
  have kn := none_any b L H w h
  have KN := Lib.hid kn
  by_cases hC : 1 ≤ kind ∧ kind ≤ 5 ∧ 0 ≤ info ∧ info ≤ 1073741824
  case neg =>
    have hc : kind < 1 ∨ (¬ kind < 1 ∧ 5 < kind) ∨ (¬ kind < 1 ∧ ¬ 5 < kind ∧ info < 0) ∨ (¬ kind < 1 ∧ ¬ 5 < kind ∧ ¬ info < 0 ∧ 1073741824 < info) := by omega
    have Hs := Lib.hid (Alloced.same h g (Below.refl _ _))
    clear kn hC h g hu hr hap
    rcases hc with c1 | ⟨c1, c2⟩ | ⟨c1, c2, c3⟩ | ⟨c1, c2, c3, c4⟩
    all_goals
      go_enter Try.func18, Try.ntmps18
      go_wp2_with (go_at_call 38; with_reducible refine KN.out.mono ?_; rintro e w1 ⟨rfl, rfl⟩)
      exact bodyPost_ret (v := .tuple #[.int .i64 0, .int .i64 2]) (by simp [results, Try.results18, go_sem]) rfl ⟨0, 2, H, rfl, Hs.out, .inl ⟨rfl, rfl, by decide⟩⟩
  case pos =>
    obtain ⟨k1, k2, i1, i2⟩ := hC
    have e1 : decide (kind < 1) = false := by simp; omega
    have e2 : decide (5 < kind) = false := by simp; omega
    have e3 : decide (info < 0) = false := by simp; omega
    have e4 : decide (1073741824 < info) = false := by simp; omega
    have e5 : decide (65536 < (m : Int)) = false := by simp; omega
    have e6 : decide (65536 < m) = false := by simp; omega
    have ks := fun W (hW : Below w.heap.size w W) (t : Nat) (ht : t < us.length) => stands_any b L H W (h.below hW) us[t].1 us[t].2 (hr _ (List.getElem_mem ht)).1 (hr _ (List.getElem_mem ht)).2
    have KS := Lib.hid ks
    have Hh := Lib.hid h; have Hg := Lib.hid g; have Hu := Lib.hid hu; have Hr := Lib.hid hr; have Hap := Lib.hid hap; have Hm := Lib.hid hm
    have hKI := Lib.hid (And.intro k1 (And.intro k2 (And.intro i1 i2)))
    clear kn h g hu hr hap hm ks
    go_enter Try.func18, Try.ntmps18
    go_wp2_with (go_at_call 38; with_reducible refine KN.out.mono ?_; rintro e w1 ⟨rfl, rfl⟩)
    go_loopw [36] (fun i wr => ∃ k : Nat, i = .int .i64 k ∧ k ≤ m ∧ (∀ (j : Nat) (hj : j < us.length), j < k → standsK H us[j].1 us[j].2 = true) ∧ Below w1.heap.size w1 wr) (fun i _ => m - (intOf i).toNat)
    case atStart => exact ⟨0, rfl, Nat.zero_le _, fun j _ hj => absurd hj (Nat.not_lt_zero _), Below.refl _ _⟩
    case round =>
      obtain ⟨k, rfl, hk, hst, hb⟩ := hrel
      have HSt := Lib.hid hst
      clear hst
      by_cases hlt : k < m
      · have hku : k < us.length := by rw [Hm.out]; exact hlt
        obtain ⟨bl, ol, hp, r0, r1⟩ := (Hu.out.below hb (Nat.le_refl _)).word k hku
        subst hp
        obtain ⟨x, hx⟩ : ∃ x, us[k] = x := ⟨_, rfl⟩
        have ks := fun W hW => KS.out W hW k hku
        rw [hx] at r0 r1 ks
        have hltI : (k : Int) < (m : Int) := by omega
        obtain ⟨r, hr⟩ : ∃ r, standsK H x.1 x.2 = r := ⟨_, rfl⟩
        rw [hr] at ks
        have hrx : standsK H us[k].1 us[k].2 = r := by rw [hx]; exact hr
        have HRx := Lib.hid hrx
        clear hrx
        have KSk := Lib.hid ks
        clear ks hr hx
        go_upto_region 8 with fail
        generalize hW0 : wr.alloc (Obj.cells #[.int .i64 x.1, .int .i64 x.2] 32) = W0
        have B0 : Blk W0 wr.heap.size #[.int .i64 x.1, .int .i64 x.2] := by rw [← hW0]; exact Blk.new wr _ _
        have k0 : Below w1.heap.size w1 W0 := by rw [← hW0]; exact hb.alloc hb.size _
        have b0 := B0.cell
        clear hW0 r0 r1
        cases r with
        | true =>
          go_wp2_with (go_at_call 41; with_reducible refine (KSk.out W0 k0).mono ?_; rintro e w5 ⟨rfl, hb5⟩)
          go_roundw
          case rel =>
            refine ⟨k + 1, by go_num, by omega, fun j hj hjk => ?_, k0.trans (hb5.mono k0.size)⟩
            by_cases e : j = k
            · subst e; exact HRx.out
            · exact HSt.out j hj (by omega)
          case measure => simp [intOf]; omega
        | false =>
          go_wp2_with (go_at_call 41; with_reducible refine (KSk.out W0 k0).mono ?_; rintro e w5 ⟨rfl, hb5⟩)
          exact bodyPost_ret (v := .tuple #[.int .i64 0, .int .i64 2]) (by simp [results, Try.results18, go_sem]) rfl ⟨0, 2, H, rfl, Alloced.same Hh.out Hg.out (k0.trans (hb5.mono k0.size)), .inl ⟨rfl, rfl, by decide⟩⟩
      · go_upto_region 11 with fail
        go_cut [51] (fun s51 wx => s51 = .bool (decide (kind = 5 ∧ m = 0)) ∧ wx = wr)
        case first =>
          by_cases a5 : kind = 5
          · subst a5
            go_wp2
            go_meet
            exact ⟨by simp; rw [Bool.eq_iff_iff]; simp, rfl⟩
          · have a6 : (kind == 5) = false := by simpa using a5
            have a7 : decide (kind = 5) = false := by simpa using a5
            go_wp2
            go_meet
            exact ⟨by simp [a5], rfl⟩
        case rest =>
          obtain ⟨rfl, rfl⟩ := hcut
          go_upto_if 51 with fail
          go_cut [3] (fun s3 wx => ∃ p3 m3 c3 us3, s3 = .slice p3 m3 c3 ∧ us3.length = m3 ∧ m3 ≤ 100 ∧ (us3 = us ∨ (us = [] ∧ us3 = [(0, 0)])) ∧ WAt wx s3 us3 ∧ Ranged us3 ∧ (kind < 5 ∨ 1 ≤ m3) ∧ Below w1.heap.size w1 wx ∧ (0 < m3 → ∀ k, (Value.slice p3 m3 c3).ownBlock = some k → ¬ HFoot b L k))
          case first =>
            by_cases cz : kind = 5 ∧ m = 0
            · have cd : decide (kind = 5 ∧ m = 0) = true := by simpa using cz
              go_wp2
              go_meet
              exact ⟨_, 1, 1, [(0, 0)], rfl, rfl, by omega, .inr ⟨List.length_eq_zero_iff.1 (by rw [Hm.out]; exact cz.2), rfl⟩, ⟨_, _, rfl, fun _ => ⟨_, 0, rfl, by simp, fun j v hj => by rw [Nat.zero_add, (Blk.new wc _ _).cell]; simpa [flat] using hj⟩⟩, fun x hx => by simp at hx; subst hx; exact ⟨by decide, by decide⟩, .inr (Nat.le_refl _), hb.alloc hb.size _, fun _ k hk hf => by
                have h1 := Hh.out.lt k hf
                have h2 := hb.size
                simp [Value.ownBlock] at hk
                omega⟩
            · have cd : decide (kind = 5 ∧ m = 0) = false := by simpa using cz
              go_wp2
              go_meet
              exact ⟨_, _, _, us, rfl, Hm.out, hm1, .inl rfl, Hu.out.below hb (Nat.le_refl _), Hr.out, by omega, hb, Hap.out⟩
          case rest =>
            obtain ⟨p3, m3, c3, us3, rfl, hm3, hm31, hwas, hu3, hr3, hk3, hb3, hap3⟩ := hcut
            have HWas := Lib.hid hwas
            clear hwas
            go_upto_region 13 with fail
            have hN := Hh.out.len
            have hnur := Hh.out.nur
            have hold := Hh.out.old
            have htop := Hh.out.top
            have hop := Hh.out.opos
            have H13 := Hh.out.below hb3
            have c13 := H13.blk.cell
            unfold HL.cells at c13
            have HH13 := Lib.hid H13
            obtain ⟨N, hNN⟩ : ∃ N, H.ws.length = N := ⟨_, rfl⟩
            rw [hNN] at c13 hN
            have HNN := Lib.hid hNN
            have hw1 : IntKind.i64.wrap ((H.top : Int) + 1) = (H.top : Int) + 1 := IntWalk.i64_in _ (by omega)
            have hw2 : IntKind.i64.wrap ((H.top : Int) + 1 + (m3 : Int)) = (H.top : Int) + 1 + (m3 : Int) := IntWalk.i64_in _ (by omega)
            have HN := Lib.hid hN
            clear H13 hNN hN
            by_cases full : H.nur < H.top + 1 + m3
            · have fd : decide ((H.nur : Int) < (H.top : Int) + 1 + (m3 : Int)) = true := by simp; omega
              go_quiet (fail)
              all_goals
                go_wp2
                exact bodyPost_ret (v := .tuple #[.int .i64 0, .int .i64 12]) (by simp [results, Try.results18, go_sem]) rfl ⟨0, 12, H, rfl, Alloced.same Hh.out Hg.out (hb3.trans (below_drewN' _ _ hb3.size)), .inl ⟨rfl, rfl, by decide⟩⟩
            · have fd : decide ((H.nur : Int) < (H.top : Int) + 1 + (m3 : Int)) = false := by simp; omega
              go_quiet (fail)
              go_upto_region 16 with fail
              generalize hWq : wc.drewN nq = Wq
              have kq : Below w1.heap.size w1 Wq := by rw [← hWq]; exact hb3.trans (below_drewN' _ _ hb3.size)
              have Hq := Hh.out.below kq
              have uq : WAt Wq (.slice p3 m3 c3) us3 := by rw [← hWq]; exact hu3.below (below_drewN _ _) (Nat.le_refl _)
              have cq := Hq.blk.cell
              unfold HL.cells at cq
              rw [HNN.out] at cq
              have htN : H.top < H.ws.length := by rw [HNN.out, HN.out]; omega
              obtain ⟨d1, d2⟩ := Hq.cell htN
              have fq := Hq.wd.free
              have htI : (H.top : Int) < (N : Int) := by have := HN.out; omega
              obtain ⟨hv, hhv⟩ : ∃ v, headK kind m3 info = v := ⟨_, rfl⟩
              have kh := fun W => head_any kind m3 info W
              rw [hhv] at kh
              have KH := Lib.hid kh
              have hvr : -9223372036854775808 ≤ hv ∧ hv ≤ 9223372036854775807 := by rw [← hhv, headK_in (by omega) (by omega) (by omega) (by omega) (by omega) (by omega)]; omega
              have HVr := Lib.hid hvr
              have HHv := Lib.hid hhv; have HHq := Lib.hid Hq; have HUq := Lib.hid uq; have HTN := Lib.hid htN
              have HU3 := Lib.hid hm3; have HR3 := Lib.hid hr3; have HA3 := Lib.hid hap3
              clear hWq c13 Hq uq htN hhv kh hvr hm3 hr3 hap3 hu3 hb3 HH13
              go_region_with (go_at_call 10; with_reducible refine (KH.out _).mono ?_; rintro e w4 ⟨rfl, rfl⟩)
              all_goals
                go_upto_region 17 with fail
                have q3 := HHq.out.set2 (W := Wq) (Off.of_below (Below.refl _ _)) rfl (i := H.top) HTN.out 6 HVr.out
                generalize hW1 : ((Wq.setCell ⟨L.g, H.top * 2, none⟩ (.int .i64 6)).setCell ⟨L.g, H.top * 2 + 1, none⟩ (.int .i64 hv)).drew = W1
                have H1 : HInv W1 b L (H.put (H.ws.set H.top (6, hv))) := by rw [← hW1]; exact q3.1.drewN 1
                have O1 : Off (fun k => k = L.g) Wq W1 := by rw [← hW1]; exact ⟨q3.2.os, q3.2.tape, q3.2.output, q3.2.size, q3.2.block⟩
                obtain ⟨ws1, hws1⟩ : ∃ ws1, H.ws.set H.top (6, hv) = ws1 := ⟨_, rfl⟩
                rw [hws1] at H1
                have hl1 : ws1.length = N := by rw [← hws1, List.length_set]; exact HNN.out
                have hbg : b ≠ L.g := HHq.out.bg
                have hbm : b ≠ L.ms := HHq.out.bm
                have hgm : L.g ≠ L.ms := HHq.out.gm
                have K1 := O1.blk HHq.out.blk (fun e => hbg e)
                have cw1 := K1.cell
                unfold HL.cells at cw1
                rw [HNN.out] at cw1
                have u1 : WAt W1 (.slice p3 m3 c3) us3 := HUq.out.off0 O1 (fun h0 k hk e => HA3.out (by rw [← HU3.out]; exact h0) k hk (.inr (.inl e)))
                have hne : ¬ N = H.top + 1 := by have := HN.out; omega
                have hcp := run_copy_at W1 3 L.g (H.top + 1) (N - (H.top + 1)) (N - (H.top + 1)) m3 c3 p3 ws1 us3 H1.wh u1 HU3.out (by have := HN.out; omega) (by rw [hl1]; have := HN.out; omega)
                generalize hW2 : W1.setRow L.g (flat (spl ws1 us3 (H.top + 1))).toArray = W2 at hcp
                have O2 : Off (fun k => k = L.g) W1 W2 := by rw [← hW2]; exact off_row (Off.of_below (Below.refl _ _)) _
                have hg2 : W2.heap[L.g]? = some (.cells (flat (spl ws1 us3 (H.top + 1))).toArray 32 (0, 0)) := by rw [← hW2]; exact setRow_heap _ _ _ _ _ _ H1.wh
                have K2 : Blk W2 b (L.cells H) := O2.blk K1 (fun e => hbg e)
                have hmlt := HHq.out.mks.lt
                have M2 : Marks W2 L.ms H.st := HHq.out.mks.of_same ((O2.block _ (Nat.lt_of_lt_of_le hmlt O1.size) (fun e => hgm e.symm)).trans (O1.block _ hmlt (fun e => hgm e.symm)))
                have c2 := K2.cell
                unfold HL.cells at c2
                rw [HNN.out] at c2
                have f2 := K2.free
                have hw3 : IntKind.i64.wrap (1 + (m3 : Int)) = 1 + (m3 : Int) := IntWalk.i64_in _ (by omega)
                have hw4 : IntKind.i64.wrap ((H.top : Int) + (1 + (m3 : Int))) = (H.top : Int) + (1 + (m3 : Int)) := IntWalk.i64_in _ (by omega)
                have O12 := O1.trans O2 (T := fun k => k = L.g) (fun _ h => h) (fun _ h => .inl h)
                have hr1 : Ranged ws1 := H1.num
                have HO12 := Lib.hid O12; have HG2 := Lib.hid hg2; have HK2 := Lib.hid K2; have HM2 := Lib.hid M2; have HWs1 := Lib.hid hws1; have HL1 := Lib.hid hl1; have HR1 := Lib.hid hr1
                clear hW1 q3 H1 O1 hws1 hl1 K1 u1 hW2 O2 hg2 K2 M2 O12 hr1 cq d1 d2 fq
                go_upto_region 19 with fail
                generalize hW3 : W2.setCell ⟨b, 3, none⟩ (.int .i64 ((H.top : Int) + (1 + (m3 : Int)))) = W3
                have K3 : Blk W3 b #[.int .i64 H.nur, .int .i64 H.old, .int .i64 0, .int .i64 ((H.top : Int) + (1 + (m3 : Int))), .int .i64 0, .slice (some ⟨L.g, 0, none⟩) N N, L.vg, L.vr, .map (some L.mn), .map (some L.ms), .bool true, .bool false] := by
                  have q := HK2.out.set 3 (.int .i64 ((H.top : Int) + (1 + (m3 : Int)))) (by simp [HL.cells])
                  unfold HL.cells at q
                  rw [HNN.out] at q
                  rw [← hW3]
                  exact q
                have hh3 : ∀ k, k ≠ b → W3.heap[k]? = W2.heap[k]? := fun k hk => by rw [← hW3]; exact Below.heap_setCell _ _ _ _ hk
                have M3 : Marks W3 L.ms H.st := HM2.out.of_same (hh3 _ (fun e => hbm e.symm))
                have hnt : (H.top : Int) ∉ H.st := fun q => by have := (Hg.out.at_ _ q).2.1; omega
                have O3 : Off (HFoot b L) W2 W3 := by
                  refine ⟨by rw [← hW3]; rfl, by rw [← hW3]; rfl, by rw [← hW3]; rfl, by rw [← hW3]; simp [World.setCell], fun k _ hf => hh3 k (fun e => hf (.inl e))⟩
                have HO3 := Lib.hid O3; have HK3 := Lib.hid K3; have HH3 := Lib.hid hh3
                have c3' := K3.cell
                clear hW3 c2 f2 K3 hh3 O3 hcp
                go_upto_region 20 with (at_mapUpdate; refine wpList_mark rfl rfl _ _ _ (by rfl) L.ms H.st M3 (H.top : Int) hnt (by rfl) (by rfl) (by rfl) ?_; intro w9 only9 mk9)
                have K9 := only9.blk HK3.out hbm
                have c9 := K9.cell
                have f9 := K9.free
                go_wp2
                have hwsE : (H.alloc kind info us3).ws = spl ws1 us3 (H.top + 1) := by
                  unfold HS.alloc
                  simp only
                  rw [HU3.out, HHv.out, HWs1.out]
                have hlE : (spl ws1 us3 (H.top + 1)).length = N := by rw [spl_len (by rw [HL1.out, HU3.out]; have := HN.out; omega), HL1.out]
                have KF : Blk (w9.setCell ⟨b, 11, none⟩ (.bool false)) b (L.cells (H.alloc kind info us3)) := by
                  have q := K9.set 11 (.bool false) (by simp)
                  have e : L.cells (H.alloc kind info us3) = #[.int .i64 H.nur, .int .i64 H.old, .int .i64 0, .int .i64 ((H.top : Int) + (1 + (m3 : Int))), .int .i64 0, .slice (some ⟨L.g, 0, none⟩) N N, L.vg, L.vr, .map (some L.mn), .map (some L.ms), .bool true, .bool false] := by
                    unfold HL.cells
                    rw [hwsE, hlE, show (((H.alloc kind info us3).top : Nat) : Int) = (H.top : Int) + (1 + (m3 : Int)) from by show ((H.top + 1 + us3.length : Nat) : Int) = _; rw [HU3.out]; omega]
                    rfl
                  rw [e]
                  exact q
                have hhF : ∀ k, k ≠ b → (w9.setCell ⟨b, 11, none⟩ (.bool false)).heap[k]? = w9.heap[k]? := fun k hk => Below.heap_setCell _ _ _ _ hk
                have hgF := (hhF L.g (fun e => hbg e.symm)).trans ((only9.block _ hgm).trans ((HH3.out L.g (fun e => hbg e.symm)).trans HG2.out))
                have oD : Off (HFoot b L) W3 w9 := ⟨only9.os, only9.tape, only9.output, Nat.le_of_eq only9.size.symm, fun k _ hf => only9.block k (fun e => hf (.inr (.inr e)))⟩
                have oE : Off (HFoot b L) w9 (w9.setCell ⟨b, 11, none⟩ (.bool false)) := ⟨rfl, rfl, rfl, by simp [World.setCell], fun k _ hf => hhF k (fun e => hf (.inl e))⟩
                have oB : Off (HFoot b L) Wq W2 := ⟨HO12.out.os, HO12.out.tape, HO12.out.output, HO12.out.size, fun k hk hf => HO12.out.block k hk (fun e => hf (.inr (.inl e)))⟩
                have id1 : ∀ i, HFoot b L i → HFoot b L i := fun _ h => h
                have id2 : ∀ (A : World) i, HFoot b L i → HFoot b L i ∨ A.heap.size ≤ i := fun _ _ h => .inl h
                have oF := ((((Off.of_below (S := HFoot b L) kq).trans oB id1 (id2 _)).trans HO3.out id1 (id2 _)).trans oD id1 (id2 _)).trans oE id1 (id2 _)
                have hKI' := hKI.out
                refine bodyPost_ret (v := .tuple #[.int .i64 H.top, .int .i64 0]) (by simp [results, Try.results18, go_sem]) rfl ⟨_, _, H.alloc kind info us3, rfl, ?_, .inr ⟨us3, rfl, rfl, rfl, HWas.out, fun u hu => ?_, hKI'.1, hKI'.2.1, hKI'.2.2.1, hKI'.2.2.2, by rw [HU3.out]; exact hk3, by rw [HU3.out]; exact hm31, by rw [HU3.out]; omega⟩⟩
                case refine_2 =>
                  obtain ⟨j, hj, rfl⟩ := List.getElem_of_mem hu
                  exact HSt.out j hj (by have := Hm.out; omega)
                refine { inv := { blk := KF, wh := by rw [hwsE]; exact hgF, mks := mk9.of_same (hhF _ (fun e => hbm e.symm)), bg := hbg, bm := hbm, gm := hgm, vg := HHq.out.vg, len := by rw [hwsE, hlE]; exact HN.out, nur := hnur, old := hold, top := by show H.top + 1 + us3.length ≤ H.nur; rw [HU3.out]; omega, num := ?_, pos := HHq.out.pos, opos := hop }, good := ?_, nur := rfl, old := rfl, ng := rfl, off := oF }
                · rw [hwsE]
                  intro x hx
                  unfold spl at hx
                  simp only [List.mem_append] at hx
                  rcases hx with (hx | hx) | hx
                  · exact HR1.out x (List.mem_of_mem_take hx)
                  · exact HR3.out x hx
                  · exact HR1.out x (List.mem_of_mem_drop hx)
                · exact Hg.out.alloc (by have := HTN.out; omega) hKI'.1 hKI'.2.1 (by rw [HU3.out]; omega) hKI'.2.2.1 hKI'.2.2.2 (by rw [HU3.out]; exact hk3)

theorem alloc_any (b : Nat) (L : HL) (H : HS) (w : World) (h : HInv w b L H) (g : HGood H) (kind info : Int) (p : Option Addr) (m c : Nat) (us : List Wd) (hm : us.length = m) (hm1 : m ≤ 100) (hu : WAt w (.slice p m c) us) (hr : Ranged us)
    (hap : 0 < m → ∀ k, (Value.slice p m c).ownBlock = some k → ¬ HFoot b L k) :
    Calls Try.prog 18 #[.pointer (some ⟨b, 0, none⟩), .int .i64 kind, .int .i64 info, .slice p m c] w fun e w' => ∃ (x y : Int) (H' : HS), e = .returned (.tuple #[.int .i64 x, .int .i64 y]) ∧ Alloced w w' b L H H' :=
  (alloc_full b L H w h g kind info p m c us hm hm1 hu hr hap).mono fun _ _ ⟨x, y, H', h1, h2, _⟩ => ⟨x, y, H', h1, h2⟩

end Go.Proofs.Ytlmljommgmbckaa
