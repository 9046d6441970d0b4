/- The contract of Shape on a sound heap, all roots standing: objects one behind the other, as the plain lists say. -/
import Derived.Test.YtlmljommgmbckaaHsJ
namespace Go.Proofs.Ytlmljommgmbckaa
open Go.RowKit
set_option linter.unusedSimpArgs false

theorem bfs_end {H : HS} {rs : List Wd} {n : Nat} (h1 : n ≤ (bfsN H rs n).1.length) (h2 : (bfsN H rs n).1.drop n = []) : (bfsN H rs n).1.length = n := by
  have := congrArg List.length h2
  rw [List.length_drop] at this
  simp at this
  omega
theorem ShI.new {w w1 W1 : World} {b : Nat} {L : HL} {gb : Nat} {H : HS} {gl : List Wd} (G : GHeap w b L gb H gl) (hb1 : Below w.heap.size w w1) (hW1 : (w1.alloc (.map #[] 0)).alloc (Obj.cells #[.pointer (some ⟨b, 0, none⟩), .map (some w1.heap.size), .slice none 0 0] 86) = W1) :
    ShI W1 b L gb H gl (w1.heap.size + 1) w1.heap.size (.slice none 0 0) [] [] w.heap.size := by
  subst hW1
  have k1 : Below w.heap.size w ((w1.alloc (.map #[] 0)).alloc (Obj.cells #[.pointer (some ⟨b, 0, none⟩), .map (some w1.heap.size), .slice none 0 0] 86)) := (hb1.alloc hb1.size _).alloc (by have := hb1.size; simp; omega) _
  have hs := hb1.size
  refine { G := G.below k1, blk := ?_, nums := ⟨#[], 0, ?_, rfl⟩, fine := ⟨List.nodup_nil, fun a ha => by simp at ha⟩, q := .inl ⟨rfl, rfl⟩, sm := by omega, qs := by simp [Value.ownBlock], qm := by simp [Value.ownBlock], foot := fun k hk => G.lt k hk, bs := by omega, bm := by omega, bq := fun k hk => by simp [Value.ownBlock] at hk }
  · have := Blk.new (w1.alloc (.map #[] 0)) #[.pointer (some ⟨b, 0, none⟩), .map (some w1.heap.size), .slice none 0 0] 86
    simpa using this
  · exact (Below.heap_alloc _ _ _ (by simp)).trans (heap_alloc_new w1 _)

set_option maxRecDepth 100000 in
set_option maxHeartbeats 8000000 in
theorem shape_ok {w : World} {b : Nat} {L : HL} {gb : Nat} {H : HS} {gl : List Wd} (G : GHeap w b L gb H gl) (p : Option Addr) (m c : Nat) (us : List Wd) (hm : us.length = m) (hu : WAt w (.slice p m c) us) (hr : Ranged us) (hv : p = none → c = 0) (hl : m ≤ 1000000) (hng : H.ng ≤ 1000000) (hs : ∀ x ∈ us, standsK H x.1 x.2 = true) :
    Calls Try.prog 27 #[.pointer (some ⟨b, 0, none⟩), .slice p m c] w fun e w' => ∃ p' c' xs n, e = .returned (.tuple #[.slice p' xs.length c', .int .i64 0]) ∧ ObjsAt w' w.heap.size (.slice p' xs.length c') xs ∧ xs.map Prod.fst = (bfsN H (us ++ gl) n).2 ∧ (bfsN H (us ++ gl) n).1.length = n ∧ Below w.heap.size w w' := by
  obtain ⟨i0, hi, hz0, hz1, hz2⟩ := info_parts infoO
  have kc := check_any b L gb H gl w G p m c us hm hu hr hv (by omega) (by omega)
  rw [show us.all (fun x => standsK H x.1 x.2) = true from List.all_eq_true.2 hs] at kc
  have KC := Lib.hid kc; have HG := Lib.hid G; have HU := Lib.hid hu; have HM := Lib.hid hm
  have c0 := G.inv.blk.cell
  unfold HL.cells at c0
  have hgl : gl.length = H.ng := G.snd.gn
  have hvg := G.ga.vg
  rw [hvg] at c0
  obtain ⟨ng, hngl⟩ : ∃ n, gl.length = n := ⟨_, rfl⟩
  rw [hngl] at c0 hgl
  have HNG := Lib.hid hngl
  have hlt := G.inv.blk.lt
  have hga := G.ga.at
  rw [hvg, hngl] at hga
  have HGA := Lib.hid hga
  have hrs : ∀ x ∈ us ++ gl, standsK H x.1 x.2 = true := fun x hx => by
    rcases List.mem_append.1 hx with q | q
    · exact hs x q
    · exact G.snd.gs x q
  have hrr : Ranged (us ++ gl) := fun x hx => by
    rcases List.mem_append.1 hx with q | q
    · exact hr x q
    · exact G.ga.num x q
  have HRs := Lib.hid hrs; have HRr := Lib.hid hrr
  have hmm : ∀ W, (Instr.makeMap 84 none).run Try.prog W = .ok (.map (some W.heap.size)) (W.alloc (.map #[] 0)) := fun W => by simp [Instr.makeMap]
  have hng' : ng ≤ 1000000 := by omega
  have HGl := Lib.hid hgl
  obtain ⟨rs, hrs0⟩ : ∃ rs, us ++ gl = rs := ⟨_, rfl⟩
  obtain ⟨M, hML⟩ : ∃ M, rs.length = M := ⟨_, rfl⟩
  have hMb : M ≤ 2000000 := by rw [← hML, ← hrs0, List.length_append]; omega
  have kcat : ∀ (W : World) (g : Nat), Below w.heap.size w W → Blk W g #[.slice p m c, .slice (some ⟨gb, 0, none⟩) ng ng] → Calls Try.prog 47 #[.slice (some ⟨g, 0, none⟩) 2 2] W fun e w' => ∃ p c, e = .returned (.slice p M c) ∧ World.ownsRow w' W.heap.size 32 2 (.slice p M c) M (flat rs) ∧ Below W.heap.size W w' := by
    intro W g hW hB
    have := concat_any g p (some ⟨gb, 0, none⟩) m c ng ng us gl W hB (HU.out.below hW (Nat.le_refl _)) (HGA.out.below hW (Nat.le_refl _)) HM.out HNG.out hv (fun h => by cases h) (by omega) (by omega)
    unfold WOwn at this
    rw [hrs0, hML] at this
    exact this
  rw [hrs0] at HRs HRr ⊢
  have KCat := Lib.hid kcat; have HML := Lib.hid hML
  clear kcat hrs0 hML
  clear kc hu hm hvg hga hs hr hrs hrr hngl hgl G
  go_enter Try.func27, Try.ntmps27
  go_upto_region 5 with (go_at_call 24; with_reducible refine (KC.out).mono ?_; rintro e w1 ⟨rfl, hb1⟩)
  generalize hW1 : (w1.alloc (.map #[] 0)).alloc (Obj.cells #[.pointer (some ⟨b, 0, none⟩), .map (some w1.heap.size), .slice none 0 0] 86) = W1
  have I1 := ShI.new HG.out hb1 hW1
  have k1 : Below w.heap.size w W1 := by rw [← hW1]; exact (hb1.alloc hb1.size _).alloc (by have := hb1.size; simp; omega) _
  have hs1 : w1.heap.size + 2 = W1.heap.size := by rw [← hW1]; simp
  have c1 : ∀ j, W1.cell? ⟨b, j, none⟩ = _ := fun j => (k1.cell (p := ⟨b, j, none⟩) hlt).trans (c0 j)
  have HI1 := Lib.hid I1; have HK1 := Lib.hid k1; have Hs1 := Lib.hid hs1; have Hs0 := Lib.hid hb1.size
  clear hW1 I1 k1 c0 hs1 hb1
  have hapf : ∀ (w2 : World) (pc : Option Addr) (cc B : Nat), W1.heap.size ≤ B → World.ownsRow w2 B 32 2 (.slice pc M cc) M (flat rs) → ∀ k, (Value.slice pc M cc).ownBlock = some k → ¬ SFoot (w1.heap.size + 1) w1.heap.size (.slice none 0 0) k := by
    intro w2 pc cc B hB oc k hk hf
    have h1 := own_from oc k hk
    have h2 := Hs1.out
    rcases hf with q | q | q
    · omega
    · omega
    · simp [Value.ownBlock] at q
  have HApf := Lib.hid hapf
  clear hapf
  go_wp2_with (first | (go_at_call 47; with_reducible refine (KCat.out _ _ (HK1.out.alloc HK1.out.size _) (Blk.new _ _ _)).mono ?_; rintro e w2 ⟨pc, cc, rfl, oc, hb2⟩; have kA := ((Below.refl W1.heap.size W1).alloc (Nat.le_refl _) _).trans (hb2.mono (by simp)); have HI2 := Lib.hid (HI1.out.below kA); have HKA := Lib.hid kA; have HOC := Lib.hid oc; have HAp := Lib.hid (HApf.out w2 pc cc _ (by simp) oc); clear kA oc hb2) | (go_at_call 49; with_reducible refine (sall_any HI2.out pc M cc rs HML.out (WOwn.at (by show World.ownsRow _ _ _ _ _ _ _; rw [HML.out]; exact HOC.out)) HRs.out HRr.out HAp.out (by simp) (by omega)).mono ?_; rintro e w3 ⟨p3, c3, qv3, rfl, o3, I3, off3, q3, a3⟩))
  have HI3 := Lib.hid I3; have HO3 := Lib.hid o3; have HA3 := Lib.hid a3
  have k3 : Below w.heap.size w w3 := by
    have o := off3
    have kk := HK1.out.trans (HKA.out.mono HK1.out.size)
    refine kk.trans ⟨o.os, o.tape, o.output, o.size, fun k hk => ?_⟩
    have hsz := kk.size
    refine o.block k (by omega) (fun hf => ?_)
    have h2 := Hs0.out
    rcases hf with q | q | q
    · omega
    · omega
    · simp [Value.ownBlock] at q
  have HK3 := Lib.hid k3
  have hHt := HG.out.inv.top; have hHn := HG.out.inv.nur
  clear I3 o3 off3 q3 a3 k3
  go_loopw [8] (fun v wr => ∃ (n : Nat) (qv : Value) (xs : List (ObjS × Value)), ShI wr b L gb H gl (w1.heap.size + 1) w1.heap.size qv (bfsN H rs n).1 ((bfsN H rs n).1.drop n) w.heap.size ∧ OutI wr w.heap.size v xs (w1.heap.size + 1) w1.heap.size qv ∧ xs.map Prod.fst = (bfsN H rs n).2 ∧ n ≤ (bfsN H rs n).1.length ∧ Below w.heap.size w wr ∧ xs.length = n + 1) (fun v _ => 5000000 - lenV v)
  case atStart =>
    have o3 := HO3.out
    unfold WOwn at o3
    rw [allS_len, HML.out] at o3
    have I3 := HI3.out
    have hsA := HK3.out.size
    have e0 : (bfsN H rs 0).1.drop 0 = [] ++ (allS H [] rs).2.drop ([] : List Int).length := by simp [bfsN]
    refine ⟨0, qv3, [(⟨0, 0, (allS H [] rs).1⟩, .slice p3 M c3)], ?_, ?_, rfl, Nat.zero_le _, HK3.out.alloc hsA _, rfl⟩
    · rw [e0]
      exact I3.below ((Below.refl _ _).alloc (Nat.le_refl _) _)
    · refine { own := ?_, ap := ?_, ws := ?_, wa := ?_ }
      · exact ⟨rfl, .inr ⟨w3.heap.size, 1, _, rfl, hsA, heap_alloc_new w3 _, Nat.le_refl _, by unfold maxLen; omega, rfl, rfl⟩⟩
      · intro k hk hf
        cases hk
        exact absurd (I3.lt _ hf).1 (Nat.lt_irrefl _)
      · intro x hx
        rw [List.mem_singleton] at hx
        subst hx
        refine WAt.below (WOwn.at (base := w2.heap.size) ?_) ((Below.refl _ _).alloc (Nat.le_refl _) _) (Nat.le_refl _)
        show World.ownsRow _ _ _ _ _ _ _
        rw [allS_len, HML.out]
        exact o3
      · intro x hx k _ hk
        rw [List.mem_singleton] at hx
        subst hx
        refine ⟨HA3.out k hk, fun e => ?_, ?_⟩
        · cases e
          exact absurd (own_lt o3 _ hk) (Nat.lt_irrefl _)
        · have := own_from o3 k hk
          have := (HK1.out.trans (HKA.out.mono HK1.out.size)).size
          omega
  case round =>
    obtain ⟨n, qv, xs, I, O, hxs, hn, hb, hlen⟩ := hrel
    obtain ⟨l, hl0⟩ : ∃ l, (bfsN H rs n).1 = l := ⟨_, rfl⟩
    rw [hl0] at I hn
    obtain ⟨pq, cq, rfl⟩ := I.q.shape
    have hfl := fine_len I.G.snd I.fine
    have HI := Lib.hid I; have HO := Lib.hid O; have HXs := Lib.hid hxs; have HL0 := Lib.hid hl0; have HB := Lib.hid hb; have HLen := Lib.hid hlen
    by_cases hq : n < l.length
    · obtain ⟨a, ha⟩ : ∃ a, l[n] = a := ⟨_, rfl⟩
      have hdr : l.drop n = a :: l.drop (n + 1) := by rw [← ha]; exact List.drop_eq_getElem_cons hq
      have hmem : a ∈ l := by rw [← ha]; exact List.getElem_mem _
      obtain ⟨hst, hk7⟩ := I.fine.2 a hmem
      have hqq := I.q
      have hbk := I.blk
      rw [hdr] at hqq hbk
      obtain ⟨q, off, c', eq1, hcell, hcc, hqt⟩ := hqq.head
      obtain ⟨R, hR⟩ : ∃ R, (l.drop (n + 1)).length = R := ⟨_, rfl⟩
      rw [List.length_cons, hR] at eq1 hbk
      rw [hR] at hcc hqt
      simp only [Value.slice.injEq] at eq1
      obtain ⟨rfl, _, rfl⟩ := eq1
      have bc := hbk.cell
      have bf := hbk.free
      have hQV : QAt wr (.slice (if cq = 1 then some ⟨q, off, none⟩ else some ⟨q, off + 1, none⟩) R (cq - 1)) (l.drop (n + 1)) := by
        by_cases h1 : cq = 1
        · rw [if_pos h1]
          have hR0 : R = 0 := by omega
          have hd : l.drop (n + 1) = [] := List.eq_nil_of_length_eq_zero (by rw [hR, hR0])
          rcases hqt with ⟨e, _⟩ | ⟨q', off', c'', arr, e, _, h3, h4, _⟩
          · cases e
          · simp only [Value.slice.injEq, Option.some.injEq, Addr.mk.injEq] at e
            obtain ⟨⟨rfl, rfl, _⟩, _, rfl⟩ := e
            rw [hd, hR0]
            exact .inr ⟨q, off, cq - 1, arr, rfl, Nat.zero_le _, by omega, h4, fun j x hj => by simp at hj⟩
        · rw [if_neg h1]; exact hqt
      have hVo : (Value.slice (if cq = 1 then some ⟨q, off, none⟩ else some ⟨q, off + 1, none⟩) R (cq - 1)).ownBlock = some q := by split <;> rfl
      have hne := I.qs
      have hnm := I.qm
      have hqb := I.bq q rfl
      have hqlt := I.q.lt q rfl
      obtain ⟨i, hia⟩ := Int.eq_ofNat_of_zero_le (I.G.snd.good.at_ a hst).1
      have hat := I.G.snd.good.at_ a hst
      rw [hia] at hat
      obtain ⟨P, hP⟩ : ∃ P, headOf H (i : Int) = P := ⟨_, rfl⟩
      rw [hP] at hat
      have hpo := parts_ok (n := (H.word i).2) (by rw [(head_ok (H := H) (i := i) (by rw [hP]; exact hat.2.2.1)).2, hP]; exact hat.2.2.1)
      rw [(head_ok (H := H) (i := i) (by rw [hP]; exact hat.2.2.1)).2, hP] at hpo
      obtain ⟨s, hs⟩ : ∃ s : Nat, P.s = s := ⟨P.s.toNat, by omega⟩
      rw [hs] at hat hpo
      have hlenH := I.G.inv.len; have htop := I.G.inv.top; have hnur := I.G.inv.nur; have hold := I.G.inv.old; have hop := I.G.inv.opos
      obtain ⟨N, hN⟩ : ∃ N, H.ws.length = N := ⟨_, rfl⟩
      have hiN : i + 1 + s ≤ N := by omega
      have hneN : ¬ N = i + 1 := by omega
      have hw1 : IntKind.i64.wrap ((i : Int) + 1) = (i : Int) + 1 := IntWalk.i64_in _ (by omega)
      have hw2 : IntKind.i64.wrap ((i : Int) + 1 + (s : Int)) = (i : Int) + 1 + (s : Int) := IntWalk.i64_in _ (by omega)
      have hsub : i + 1 + s - (i + 1) = s := by omega
      have howl : (objWs H (i : Int)).length = s := by
        unfold objWs
        rw [hP, hs, List.length_take, List.length_drop, hN, Int.toNat_natCast, Int.toNat_natCast]
        omega
      have hNb : N ≤ 12582912 := by omega
      have hit : i + 1 + s ≤ H.top := by omega
      have htN : H.top ≤ N := by omega
      have HN := Lib.hid hN; have HP := Lib.hid hP; have HSs := Lib.hid hs; have HOwl := Lib.hid howl; have HIa := Lib.hid hia
      have HQV := Lib.hid hQV; have HVo := Lib.hid hVo; have Hst := Lib.hid hst; have HBk := Lib.hid hbk; have Hdr := Lib.hid hdr
      rw [hia] at hcell
      have hap := fun k hk hf => O.ap k hk hf
      have HR := Lib.hid hR
      obtain ⟨po, co, rfl⟩ := own_shape O.own
      clear I O hxs hl0 hb hQV hVo hbk hia hst hdr hP hs howl hat hpo hlenH hlen hnur hold hop hmem ha hk7 hqq hqt hR
      go_upto_region 9 with fail
      have hcb := HI.out.G.inv.blk.cell
      unfold HL.cells at hcb
      rw [HN.out] at hcb
      have hHlt := HI.out.G.lt
      have ShN : ∀ V', V' = (Value.slice (if cq = 1 then some ⟨q, off, none⟩ else some ⟨q, off + 1, none⟩) R (cq - 1)) → ShI (wr.setCell ⟨w1.heap.size + 1, 2, none⟩ V') b L gb H gl (w1.heap.size + 1) w1.heap.size V' l (l.drop (n + 1)) w.heap.size := by
        rintro V' rfl
        have I := HI.out
        have hoth : ∀ k, k ≠ w1.heap.size + 1 → (wr.setCell ⟨w1.heap.size + 1, 2, none⟩ (Value.slice (if cq = 1 then some ⟨q, off, none⟩ else some ⟨q, off + 1, none⟩) R (cq - 1))).heap[k]? = wr.heap[k]? := fun k hk => Below.heap_setCell _ _ _ _ hk
        refine { G := I.G.off (by simp [World.setCell]) (fun k hk => hoth k (fun e => ?_)), blk := ?_, nums := I.nums.of_same (hoth _ (by omega)), fine := I.fine, q := HQV.out.on (fun k hk => hoth k (fun e => ?_)), sm := I.sm, qs := fun e => ?_, qm := fun e => ?_, foot := I.foot, bs := I.bs, bm := I.bm, bq := fun k hk => ?_ }
        · have h1 := I.foot k hk
          have h2 := I.bs
          omega
        · exact HBk.out.set 2 _ (by simp)
        · rw [HVo.out] at hk
          cases hk
          exact hne (by rw [e]; rfl)
        · rw [HVo.out] at e
          exact hne e
        · rw [HVo.out] at e
          exact hnm e
        · rw [HVo.out] at hk
          cases hk
          exact hqb
      have ShN' := ShN _ rfl
      have hVo := HVo.out
      generalize (Value.slice (if cq = 1 then some ⟨q, off, none⟩ else some ⟨q, off + 1, none⟩) R (cq - 1)) = V' at ShN' hVo ⊢
      clear ShN
      generalize hW9 : wr.setCell ⟨w1.heap.size + 1, 2, none⟩ V' = W9 at ShN' ⊢
      have hoff9 : ∀ k, k ≠ w1.heap.size + 1 → W9.heap[k]? = wr.heap[k]? := fun k hk => by rw [← hW9]; exact Below.heap_setCell _ _ _ _ hk
      have hmis : W9.os = wr.os ∧ W9.tape = wr.tape ∧ W9.output = wr.output ∧ W9.heap.size = wr.heap.size := by rw [← hW9]; exact ⟨rfl, rfl, rfl, by simp [World.setCell]⟩
      have hx9 : ∀ j, W9.cell? ⟨b, j, none⟩ = _ := ShN'.G.inv.blk.cell
      unfold HL.cells at hx9
      rw [HN.out] at hx9
      have kh := head_at b L H W9 ShN'.G.inv i (by omega) (by omega)
      rw [HP.out, HSs.out] at kh
      have KH := Lib.hid kh; have HShN := Lib.hid ShN'; have HOff9 := Lib.hid hoff9; have HMis := Lib.hid hmis; have HVo9 := Lib.hid hVo; have HAp0 := Lib.hid hap
      clear kh ShN' hoff9 hmis hVo hW9 bc bf hcell hcb hap
      go_upto_region 10 with (go_at_call 48; with_reducible refine (KH.out).mono ?_; rintro e w10 ⟨rfl, nd, rfl⟩)
      generalize hW10 : W9.drewN nd = W10
      have k10 : Below W9.heap.size W9 W10 := by rw [← hW10]; exact belowN _ _
      have I10 := HShN.out.below k10
      have hx10 : ∀ j, W10.cell? ⟨b, j, none⟩ = _ := fun j => (show W10.cell? ⟨b, j, none⟩ = W9.cell? ⟨b, j, none⟩ from by rw [← hW10]; rfl).trans (hx9 j)
      have heow : objWs H (i : Int) = (H.ws.drop (i + 1)).take s := by unfold objWs; rw [HP.out, HSs.out, Int.toNat_natCast, Int.toNat_natCast]
      have hwat : WAt W10 (.slice (some ⟨L.g, (i + 1) * 2, none⟩) s (N - (i + 1))) (objWs H (i : Int)) := by
        rw [heow]
        exact WAt.sub I10.G.inv.wd HN.out hiN
      have hrgo : Ranged (objWs H (i : Int)) := by
        rw [heow]
        intro x hx
        exact I10.G.inv.num x (List.mem_of_mem_drop (List.mem_of_mem_take hx))
      have hsto := objWs_stands I10.G.snd (a := (i : Int)) (by rw [← HIa.out]; exact Hst.out) (by rw [HN.out]; omega)
      have kal := sall_any I10 (some ⟨L.g, (i + 1) * 2, none⟩) s (N - (i + 1)) (objWs H (i : Int)) HOwl.out hwat hsto hrgo (fun k hk hf => by
        have e : L.g = k := by simpa [Value.ownBlock] using hk
        subst e
        exact absurd (I10.lt _ hf).2 (by have h1 := I10.foot L.g (.inl (.inr (.inl rfl))); omega)) (by rw [List.length_drop]; omega) (by omega)
      have HW10 := Lib.hid hW10; have HI10 := Lib.hid I10; have KAL := Lib.hid kal; have HK10 := Lib.hid k10
      have hOw10 : World.ownsRow W10 w.heap.size 41 3 (.slice po xs.length co) xs.length (flatO xs) := by
        refine own_on (W := W9) (B := W9.heap.size) ⟨HO.out.own.1, ?_⟩ k10 ?_
        · rcases HO.out.own.2 with h2 | ⟨g, cap, cur, e, hg, hh, r⟩
          · exact .inl h2
          · refine .inr ⟨g, cap, cur, e, hg, (HOff9.out g (fun q => ?_)).trans hh, r⟩
            refine HAp0.out g (by rw [e]; rfl) (.inl q)
        · intro g hg
          have := own_lt HO.out.own g hg
          rw [HMis.out.2.2.2]
          exact this
      have HOw10 := Lib.hid hOw10
      have hs10 : w.heap.size ≤ W10.heap.size := by have := HB.out.size; have := k10.size; have := HMis.out.2.2.2; omega
      have HNs := Lib.hid (show ∀ g, (Value.slice po xs.length co).ownBlock = some g → ¬ SFoot (w1.heap.size + 1) w1.heap.size V' g from fun g hg hf => by
        rcases hf with q | q | q
        · exact HAp0.out g hg (.inl q)
        · exact HAp0.out g hg (.inr (.inl q))
        · refine HAp0.out g hg (.inr (.inr ?_))
          rw [HVo9.out] at q
          exact q)
      have hxl : xs.length ≤ 4194305 := by have := HLen.out; omega
      clear k10 I10 heow hwat hrgo hsto kal hW10 hx9 hOw10
      go_wp2_with (first | (go_at_call 49; with_reducible refine KAL.out.mono ?_; rintro e w4 ⟨p4, c4, qv4, rfl, o4, I4, off4, q4, a4⟩; have HO4 := Lib.hid o4; have HI4 := Lib.hid I4; have HOff4 := Lib.hid off4; have HQ4 := Lib.hid q4; have HA4 := Lib.hid a4; have HOw4 := Lib.hid (own_off off4 HOw10.out (fun g hg => HNs.out g hg)); have hs4 := Nat.le_trans hs10 off4.size; clear o4 I4 off4 q4 a4) | (at_builtin; refine wpList_append_own_at _ rfl _ _ 55 rfl w.heap.size 41 i0 (.agg #[.int .i64 0, .int .i64 0, .slice none 0 0]) 3 40 Try.underlying55 hi hz0 hz1 hz2 rfl (by decide) (.slice po xs.length co) xs.length (flatO xs) rfl (HOw4.out.alloc _) ⟨w4.heap.size, 0, none⟩ 1 1 [.int .i64 P.k, .int .i64 P.i, .slice p4 s c4] rfl rfl ?news (by intro u hu; simp at hu; rcases hu with rfl | rfl | rfl <;> rfl) (by unfold maxLen; omega) (by omega) (by simp; omega) ?_))
      case news =>
        intro j u hj
        have := (Blk.new w4 #[.int .i64 P.k, .int .i64 P.i, .slice p4 s c4] 41).cell j
        rw [show (⟨w4.heap.size, 0, none⟩ : Addr).add j = ⟨w4.heap.size, j, none⟩ from by unfold Addr.add; split <;> simp_all]
        rw [this]
        simpa using hj
      intro v6 w6 o6 g6 _ n6
      obtain ⟨p6, c6, rfl⟩ := own_shape o6
      have HO6 := Lib.hid o6; have HG6 := Lib.hid g6; have HN6 := Lib.hid n6
      clear o6 g6 n6
      go_wp2
      go_roundw
      case rel =>
        have g6 := HG6.out; have o4 := HO4.out; have I4 := HI4.out; have off4 := HOff4.out; have k10 := HK10.out; have O := HO.out
        have hs9 := HMis.out.2.2.2
        have hs10' := k10.size; have hs4' := off4.size; have hsB := HB.out.size
        have hs6 : w4.heap.size + 1 ≤ w6.heap.size := by have := g6.size; simpa using this
        have hb6 : ∀ j, j < w4.heap.size → (Value.slice po xs.length co).ownBlock ≠ some j → w6.heap[j]? = w4.heap[j]? := fun j hj hn => (g6.block j (by simp; omega) (fun e => hn e.symm)).trans (Below.heap_alloc _ _ _ hj)
        have hpl : ∀ j, (Value.slice po xs.length co).ownBlock = some j → j < W10.heap.size ∧ w.heap.size ≤ j := fun j hj => ⟨own_lt HOw10.out j hj, own_from HOw10.out j hj⟩
        have hsf : ∀ j, SFoot (w1.heap.size + 1) w1.heap.size qv4 j → (Value.slice po xs.length co).ownBlock ≠ some j := by
          intro j hj e
          have h1 := HNs.out j e
          rcases hj with q | q | q
          · exact h1 (.inl q)
          · exact h1 (.inr (.inl q))
          · rcases HQ4.out j q with q | q
            · exact h1 (.inr (.inr q))
            · have := (hpl j e).1; omega
        have hnew : ∀ j, (Value.slice p6 (xs.length + 1) c6).ownBlock = some j → (Value.slice po xs.length co).ownBlock = some j ∨ j = w4.heap.size + 1 := by
          intro j hj
          rcases HN6.out with q | q
          · exact .inl (by rw [← q]; exact hj)
          · right; rw [q] at hj; simpa using hj.symm
        have hb : (bfsN H rs n).1[n]? = some (i : Int) := by rw [HL0.out, ← HIa.out]; rw [List.getElem?_eq_getElem hq]; have := Hdr.out; rw [List.drop_eq_getElem_cons hq] at this; simp only [List.cons.injEq] at this; rw [this.1]
        have hbs := bfs_succ hb
        rw [HL0.out, HP.out] at hbs
        obtain ⟨r, hr⟩ := allS_grows H (objWs H (i : Int)) l
        -- the words that are told, in the worlds that come
        have hws : ∀ x ∈ xs, WAt w6 x.2 x.1.ws := by
          intro x hx
          have h0 := O.ws x hx
          have ha := O.wa x hx
          have h1 : WAt W9 x.2 x.1.ws := h0.off0 (S := fun k => k = w1.heap.size + 1) ⟨HMis.out.1, HMis.out.2.1, HMis.out.2.2.1, by omega, fun k _ hn => HOff9.out k hn⟩ (fun hl k hk e => (ha k hl hk).1 (.inl e))
          have h2 : WAt W10 x.2 x.1.ws := h1.below k10 (Nat.le_refl _)
          have h3 : WAt w4 x.2 x.1.ws := h2.off0 off4 (fun hl k hk e => (ha k hl hk).1 (by
            rcases e with q | q | q
            · exact .inl q
            · exact .inr (.inl q)
            · rw [HVo9.out] at q; exact .inr (.inr q)))
          exact h3.off0 (S := fun k => (Value.slice po xs.length co).ownBlock = some k) ⟨g6.os, g6.tape, g6.output, by omega, fun k hk hn => hb6 k hk hn⟩ (fun hl k hk e => (ha k hl hk).2.1 e)
        have hb0 : ∀ k, k < w.heap.size → w6.heap[k]? = w.heap[k]? := by
          intro k hk
          rw [hb6 k (by omega) (fun e => by have := (hpl k e).2; omega), off4.block k (by omega) (fun e => by have := (HI10.out.lt k e).2; omega), k10.block k (by omega), HOff9.out k (by have := HI.out.bs; omega)]
          exact HB.out.block k hk
        refine ⟨n + 1, qv4, xs ++ [(⟨P.k, P.i, (allS H l (objWs H (i : Int))).1⟩, .slice p4 s c4)], ?_, ?_, ?_, ?_, ?_, by rw [List.length_append, HLen.out]; rfl⟩
        · rw [hbs]
          dsimp only
          have hI6 := I4.on (w' := w6) (by omega) (fun j hj => by
            rcases hj with hj | hj
            · exact hb6 j (I4.lt j hj).1 (hsf j hj)
            · exact hb6 j (I4.G.lt j hj) (fun e => by have h1 := (hpl j e).2; have h2 := I4.foot j hj; omega))
          rw [hr] at hI6 ⊢
          rw [show l.drop (n + 1) ++ (l ++ r).drop l.length = (l ++ r).drop (n + 1) from by
            have := drop_step (l := l) (r := r) (n := n + 1) (by omega) []
            simpa using this] at hI6
          exact hI6
        · refine { own := ?_, ap := ?_, ws := ?_, wa := ?_ }
          · rw [List.length_append, flatO_append]
            exact HO6.out
          · intro j hj hf
            rcases hnew j hj with q | q
            · exact hsf j hf q
            · have := (I4.lt j hf).1; omega
          · intro x hx
            rcases List.mem_append.1 hx with hx | hx
            · exact hws x hx
            · rw [List.mem_singleton] at hx
              subst hx
              have h1 : WAt w4 (.slice p4 s c4) (allS H l (objWs H (i : Int))).1 := WOwn.at o4
              refine h1.off0 (S := fun k => (Value.slice po xs.length co).ownBlock = some k) ⟨g6.os, g6.tape, g6.output, by omega, fun k hk hn => hb6 k hk hn⟩ (fun _ k hk e => ?_)
              have h2 := own_from o4 k hk
              have h3 := (hpl k e).1
              omega
          · intro x hx k hl hk
            rcases List.mem_append.1 hx with hx | hx
            · have hkl := wat_lt (O.ws x hx) hl k hk
              have ha := O.wa x hx k hl hk
              refine ⟨fun hf => ?_, fun e => ?_, ha.2.2⟩
              · rcases hf with q | q | q
                · exact ha.1 (.inl q)
                · exact ha.1 (.inr (.inl q))
                · rcases HQ4.out k q with q | q
                  · rw [HVo9.out] at q; exact ha.1 (.inr (.inr q))
                  · omega
              · rcases hnew k e with q | q
                · exact ha.2.1 q
                · omega
            · rw [List.mem_singleton] at hx
              subst hx
              have h2 := own_from o4 k hk
              have h3 := own_lt o4 k hk
              refine ⟨HA4.out k hk, fun e => ?_, by omega⟩
              rcases hnew k e with q | q
              · have := (hpl k q).1; omega
              · omega
        · rw [hbs, List.map_append, HXs.out]
          rfl
        · rw [hbs, hr]
          dsimp only
          rw [List.length_append]
          omega
        · exact ⟨g6.os.trans (off4.os.trans (k10.os.trans (HMis.out.1.trans HB.out.os))), g6.tape.trans (off4.tape.trans (k10.tape.trans (HMis.out.2.1.trans HB.out.tape))), g6.output.trans (off4.output.trans (k10.output.trans (HMis.out.2.2.1.trans HB.out.output))), by omega, hb0⟩
      case measure => simp only [lenV]; omega
    · have hn0 : n = l.length := by omega
      have hd0 : l.drop n = [] := by rw [hn0, List.drop_length]
      have hsb := I.blk.cell
      rw [hd0] at hsb
      obtain ⟨po, co, rfl⟩ := own_shape O.own
      clear I O hxs hl0 hb hlen hd0
      go_wp2
      refine bodyPost_ret (v := .tuple #[.slice po xs.length co, .int .i64 0]) (by simp [results, Try.results27, go_sem]) rfl ?_
      exact ⟨po, co, xs, n, rfl, objs_of_own HO.out.own (fun x hx => ⟨HO.out.ws x hx, fun k hl hk => (HO.out.wa x hx k hl hk).2.2⟩), HXs.out, by rw [HL0.out]; exact hn0.symm, HB.out⟩

/-- Shape, whatever the roots are. -/
theorem shape_u {w : World} {b : Nat} {L : HL} {gb : Nat} {H : HS} {gl : List Wd} (G : GHeap w b L gb H gl) (p : Option Addr) (m c : Nat) (us : List Wd) (hm : us.length = m) (hu : WAt w (.slice p m c) us) (hr : Ranged us) (hv : p = none → c = 0) (hl : m ≤ 1000000) (hng : H.ng ≤ 1000000) :
    Calls Try.prog 27 #[.pointer (some ⟨b, 0, none⟩), .slice p m c] w fun e w' => ∃ (p' : Option Addr) (n' c' : Nat) (r : Int), e = .returned (.tuple #[.slice p' n' c', .int .i64 r]) ∧ Below w.heap.size w w' ∧
      ((r = 13 ∧ n' = 0 ∧ us.all (fun x => standsK H x.1 x.2) = false) ∨ (r = 0 ∧ (∀ x ∈ us, standsK H x.1 x.2 = true) ∧ ∃ xs n, n' = xs.length ∧ ObjsAt w' w.heap.size (.slice p' n' c') xs ∧ xs.map Prod.fst = (bfsN H (us ++ gl) n).2 ∧ (bfsN H (us ++ gl) n).1.length = n)) := by
  cases hs : us.all (fun x => standsK H x.1 x.2) with
  | false =>
    refine (shape_no G p m c us hm hu hr hv hl hng hs).mono ?_
    rintro e w' ⟨rfl, hb⟩
    exact ⟨none, 0, 0, 13, rfl, hb, .inl ⟨rfl, rfl, rfl⟩⟩
  | true =>
    refine (shape_ok G p m c us hm hu hr hv hl hng (List.all_eq_true.1 hs)).mono ?_
    rintro e w' ⟨p', c', xs, n, rfl, ho, h1, h2, hb⟩
    exact ⟨p', xs.length, c', 0, rfl, hb, .inr ⟨rfl, List.all_eq_true.1 hs, xs, n, rfl, ho, h1, h2⟩⟩

end Go.Proofs.Ytlmljommgmbckaa
