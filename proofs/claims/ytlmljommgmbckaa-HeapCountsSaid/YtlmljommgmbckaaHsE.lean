/- The contract of Check on a sound heap. Conditions: at most 10^7 roots. -/
import Derived.Test.YtlmljommgmbckaaHsD
namespace Go.Proofs.Ytlmljommgmbckaa
open Go.RowKit Go.ChangeMaps
set_option linter.unusedSimpArgs false
attribute [local simp, local go_sem] undef

theorem below_setBlock {B r : Nat} {w wx : World} (h : Below B w wx) (hr : B ≤ r) (o : Obj) : Below B w (setBlock wx r o) :=
  ⟨h.os, h.tape, h.output, by simpa [setBlock] using h.size, fun k hk => by
    have : (setBlock wx r o).heap[k]? = wx.heap[k]? := by
      show (wx.heap.setIfInBounds r o)[k]? = _
      exact Array.getElem?_setIfInBounds_ne (by omega)
    rw [this]
    exact h.block k hk⟩
theorem setBlock_at {w : World} {r : Nat} {o : Obj} (hr : r < w.heap.size) : (setBlock w r o).heap[r]? = some o := by
  show (w.heap.setIfInBounds r o)[r]? = _
  exact Array.getElem?_setIfInBounds_self_of_lt hr
theorem setBlock_size (w : World) (r : Nat) (o : Obj) : (setBlock w r o).heap.size = w.heap.size := by simp [setBlock]
theorem iterSeen_of {w : World} {r : Nat} {a : Option Nat} {b : Nat} {s : Array Nat} {c : Nat} (h : w.heap[r]? = some (.mapIter a b s c)) : w.iterSeen r = s := by
  unfold World.iterSeen
  rw [h]

theorem all_false {us gl : List Wd} {f : Wd → Bool} (k : Nat) (hk : k < (us ++ gl).length) (h : f (us ++ gl)[k] = false) (hg : ∀ x ∈ gl, f x = true) : us.all f = false := by
  rw [List.all_eq_false]
  have hm := List.getElem_mem hk
  rcases List.mem_append.1 hm with q | q
  · exact ⟨_, q, by rw [h]; decide⟩
  · rw [hg _ q] at h; cases h
theorem all_true {us gl : List Wd} {f : Wd → Bool} (h : ∀ (j : Nat) (hj : j < (us ++ gl).length), f (us ++ gl)[j] = true) : us.all f = true := by
  rw [List.all_eq_true]
  intro x hx
  obtain ⟨j, hj, rfl⟩ := List.getElem_of_mem hx
  have := h j (by rw [List.length_append]; omega)
  rwa [List.getElem_append_left hj] at this

/-- A region that draws, walked once: each of its operations reads, or calls what leaves the class of worlds. -/
theorem wp_region_class {P : Program} {id : Nat} {Q : Exit → Act → World → Prop} {a : Act} {w : World} {l : List Oper} (C : World → Prop) (hm : P.follows .mixedOrders = true) (hB : Region.lexB .any l.toArray = true) (hC : C w.drew)
    (h : wpQuiet P l.toArray C (fun a' => ∀ w', C w' → Q .normal a' w') l a) : (Code.region id l.toArray true).wp P Q a w :=
  wp_region_quiet (C := C) hm hB hC (by simpa using h)

theorem keepA5 {w wx wy : World} {p1 p2 p3 p4 p5 : Addr} {v1 v2 v3 v4 v5 : Value} (b1 : p1.block < w.heap.size) (b2 : p2.block < w.heap.size) (b3 : p3.block < w.heap.size) (b4 : p4.block < w.heap.size) (b5 : p5.block < w.heap.size)
    (h : wx.cell? p1 = some v1 ∧ wx.cell? p2 = some v2 ∧ wx.cell? p3 = some v3 ∧ wx.cell? p4 = some v4 ∧ wx.cell? p5 = some v5 ∧ Below w.heap.size w wx) (hy : Below wx.heap.size wx wy) :
    wy.cell? p1 = some v1 ∧ wy.cell? p2 = some v2 ∧ wy.cell? p3 = some v3 ∧ wy.cell? p4 = some v4 ∧ wy.cell? p5 = some v5 ∧ Below w.heap.size w wy := by
  obtain ⟨h1, h2, h3, h4, h5, hb⟩ := h
  have hs := hb.size
  exact ⟨(hy.cell (Nat.lt_of_lt_of_le b1 hs)).trans h1, (hy.cell (Nat.lt_of_lt_of_le b2 hs)).trans h2, (hy.cell (Nat.lt_of_lt_of_le b3 hs)).trans h3, (hy.cell (Nat.lt_of_lt_of_le b4 hs)).trans h4, (hy.cell (Nat.lt_of_lt_of_le b5 hs)).trans h5, hb.trans (hy.mono hs)⟩

set_option maxRecDepth 100000 in
set_option maxHeartbeats 8000000 in
theorem check_any (b : Nat) (L : HL) (gb : Nat) (H : HS) (gl : List Wd) (w : World) (G : GHeap w b L gb H gl) (p : Option Addr) (m c : Nat) (us : List Wd) (hm : us.length = m) (hu : WAt w (.slice p m c) us) (hr : Ranged us) (hv : p = none → c = 0) (hl : m ≤ 10000000) (hng : H.ng ≤ 10000000) :
    Calls Try.prog 24 #[.pointer (some ⟨b, 0, none⟩), .slice p m c] w fun e w' => e = .returned (.int .i64 (if us.all (fun x => standsK H x.1 x.2) then 0 else 13)) ∧ Below w.heap.size w w' := by
  obtain ⟨R, hR⟩ : ∃ R, us.all (fun x => standsK H x.1 x.2) = R := ⟨_, rfl⟩
  rw [hR]
  have HR := Lib.hid hR
  have HG := Lib.hid G
  have HM := Lib.hid hm
  have hgl : gl.length = H.ng := G.snd.gn
  obtain ⟨ng, hngl⟩ : ∃ n, gl.length = n := ⟨_, rfl⟩
  have HNG := Lib.hid hngl
  have kn := fun W hb => none_any b L H W (G.inv.below hb)
  have ka := fun W hb => ask_any b L H W (G.inv.below hb)
  have KN := Lib.hid kn; have KA := Lib.hid ka
  have c0 := G.inv.blk.cell
  unfold HL.cells at c0
  have hvg := G.ga.vg
  rw [hngl] at hvg
  rw [hvg] at c0
  have hlt := G.inv.blk.lt
  obtain ⟨N, hN⟩ : ∃ N, H.ws.length = N := ⟨_, rfl⟩
  rw [hN] at c0
  have HN := Lib.hid hN
  have hng2 : ng ≤ 10000000 := by omega
  clear kn ka hR hN hngl hgl
  go_enter Try.func24, Try.ntmps24
  go_upto_region 7 with (first | (go_at_call 38; with_reducible refine (KN.out _ ?_).mono ?_; exact ((Below.refl _ _).alloc (Nat.le_refl _) _); rintro e w1 ⟨rfl, rfl⟩) | (go_at_call 45; with_reducible refine (KA.out _ ?_).mono ?_; exact ((Below.refl _ _).alloc (Nat.le_refl _) _); rintro e w1 ⟨rfl, rfl⟩))
  generalize hW0 : w.alloc (Obj.cells #[.pointer (some ⟨b, 0, none⟩)] 27) = W0
  have X0 : Blk W0 w.heap.size #[.pointer (some ⟨b, 0, none⟩)] := by rw [← hW0]; exact Blk.new w _ _
  have k0 : Below w.heap.size w W0 := by rw [← hW0]; exact (Below.refl _ _).alloc (Nat.le_refl _) _
  have G0 := G.below k0
  have x0 := X0.cell 0
  have b0 : ∀ j, W0.cell? ⟨b, j, none⟩ = _ := fun j => (k0.cell (p := ⟨b, j, none⟩) hlt).trans (c0 j)
  have hu0 := hu.below k0 (Nat.le_refl _)
  have hga0 := G0.ga.at
  rw [hvg] at hga0
  have HX0 := Lib.hid X0; have HG0 := Lib.hid G0; have HK0 := Lib.hid k0; have HU0 := Lib.hid hu0; have HGA := Lib.hid hga0
  clear hW0 c0 X0 G0 k0 hu0 hga0 G hu hvg
  go_wp2_with (go_at_call 47; with_reducible refine (concat_any _ p (some ⟨gb, 0, none⟩) m c ng ng us gl _ (Blk.new _ _ _) (HU0.out.below ((Below.refl _ _).alloc (Nat.le_refl _) _) (Nat.le_refl _)) (HGA.out.below ((Below.refl _ _).alloc (Nat.le_refl _) _) (Nat.le_refl _)) HM.out HNG.out hv (fun h => by cases h) hl hng2).mono ?_; rintro e w2 ⟨pc, cc, rfl, oc, hb2⟩)
  have hrc : Ranged (us ++ gl) := by
    intro x hx
    rcases List.mem_append.1 hx with q | q
    · exact hr x q
    · exact HG.out.ga.num x q
  have hgf : ∀ x ∈ gl, standsK H x.1 x.2 = true := HG.out.snd.gs
  obtain ⟨M, hMM⟩ : ∃ M, (us ++ gl).length = M := ⟨_, rfl⟩
  have hME := hMM
  rw [List.length_append, HM.out, HNG.out] at hME
  have hMb : M ≤ 20000000 := by omega
  have HME := Lib.hid hME
  have hlen : us.length + gl.length = M := by rw [HM.out, HNG.out]; exact hME
  rw [hMM] at oc
  have k2 : Below w.heap.size w w2 := HK0.out.trans (((Below.refl _ _).alloc (Nat.le_refl _) _ |>.trans (hb2.mono (by simp))).mono HK0.out.size)
  have x2 := HX0.out.below (((Below.refl W0.heap.size W0).alloc (Nat.le_refl _) _).trans (hb2.mono (by simp))) HX0.out.lt
  have HOC := Lib.hid oc; have HRC := Lib.hid hrc; have HGF := Lib.hid hgf; have HMM := Lib.hid hMM; have HK2 := Lib.hid k2; have HX2 := Lib.hid x2
  clear oc hrc hgf hMM hb2 hME
  go_loopw [34] (fun i wr => ∃ k : Nat, i = .int .i64 k ∧ k ≤ M ∧ (∀ (j : Nat) (hj : j < (us ++ gl).length), j < k → standsK H (us ++ gl)[j].1 (us ++ gl)[j].2 = true) ∧ Below w2.heap.size w2 wr) (fun i _ => M - (intOf i).toNat)
  case atStart => exact ⟨0, rfl, Nat.zero_le _, fun j _ hj => absurd hj (Nat.not_lt_zero _), Below.refl _ _⟩
  case round =>
    obtain ⟨k, rfl, hk, hst, hb⟩ := hrel
    have HSt := Lib.hid hst
    clear hst
    by_cases hlt : k < M
    · have hkl : k < (us ++ gl).length := by rw [HMM.out]; exact hlt
      obtain ⟨x, hx⟩ : ∃ x, (us ++ gl)[k] = x := ⟨_, rfl⟩
      have HXk := Lib.hid hx
      have hxr := HRC.out x (by rw [← hx]; exact List.getElem_mem _)
      have oc' := own_on HOC.out hb (own_lt HOC.out)
      obtain ⟨bl, ol, e1, u0, u1⟩ := (WOwn.at oc').word k hkl
      rw [hx] at u0 u1
      obtain ⟨r, hr⟩ : ∃ r, standsK H x.1 x.2 = r := ⟨_, rfl⟩
      have HRk := Lib.hid hr
      have hltI : (k : Int) < (M : Int) := by omega
      have HE1 := Lib.hid e1
      subst e1
      clear hx hr oc'
      go_upto_region 10 with fail
      generalize hW3 : wr.alloc (Obj.cells #[.int .i64 x.1, .int .i64 x.2] 32) = W3
      have B3 : Blk W3 wr.heap.size #[.int .i64 x.1, .int .i64 x.2] := by rw [← hW3]; exact Blk.new wr _ _
      have k3 : Below w2.heap.size w2 W3 := by rw [← hW3]; exact hb.alloc hb.size _
      have b3 := B3.cell
      have kf := fineC_any b L gb H gl W3 (HG.out.below (HK2.out.trans (k3.mono HK2.out.size))) w.heap.size (HX2.out.below k3 HX2.out.lt) x.1 x.2 hxr.1 hxr.2
      rw [HRk.out] at kf
      have KF := Lib.hid kf
      have K3 := Lib.hid k3
      clear kf k3 hW3 u0 u1 hxr
      cases r with
      | false =>
        have hRf : R = false := by
          rw [← HR.out]
          exact all_false (f := fun x => standsK H x.1 x.2) k hkl (by rw [HXk.out]; exact HRk.out) HGF.out
        subst hRf
        go_wp2_with (go_at_call 46; with_reducible refine (KF.out).mono ?_; rintro e w4 ⟨rfl, hb4⟩)
        go_ret
        have q := HK2.out.trans (K3.out.mono HK2.out.size)
        exact ⟨rfl, q.trans (hb4.mono q.size)⟩
      | true =>
        go_wp2_with (go_at_call 46; with_reducible refine (KF.out).mono ?_; rintro e w4 ⟨rfl, hb4⟩)
        go_roundw
        case rel =>
          refine ⟨k + 1, by go_num, by omega, fun j hj hjk => ?_, K3.out.trans (hb4.mono K3.out.size)⟩
          by_cases e : j = k
          · subst e
            rw [HXk.out]
            exact HRk.out
          · exact HSt.out j hj (by omega)
        case measure => simp [intOf]; omega
    · rename World => wq
      have hkM : k = M := by omega
      subst hkM
      have hRt : R = true := by
        rw [← HR.out]
        exact all_true (f := fun x => standsK H x.1 x.2) (fun j hj => HSt.out j hj (by rw [HMM.out] at hj; exact hj))
      subst hRt
      have kwr := HK2.out.trans (hb.mono HK2.out.size)
      have Gr := HG.out.below kwr
      obtain ⟨ms, ck, hms, hkeys, hvals, hstamp⟩ := Gr.inv.mks
      have hrange := run_range_map (P := Try.prog) wq 65 2 4 L.ms ms ck Try.underlying65 hms
      have c0 := Gr.inv.blk.cell
      unfold HL.cells at c0
      have xr := (HX2.out.below hb HX2.out.lt).cell 0
      have HMS := Lib.hid hms; have HST := Lib.hid hstamp; have HKeys := Lib.hid hkeys; have HKw := Lib.hid kwr; have HGr := Lib.hid Gr
      have hmslt := (Array.getElem?_eq_some_iff.1 hms).1
      have hxlt := Nat.lt_of_lt_of_le HX2.out.lt hb.size
      clear hstamp hkeys hvals hms kwr Gr
      go_wp2
      go_loopw [8] (fun _ wx => ∃ seen, wx.heap[wq.heap.size]? = some (.mapIter (some L.ms) ck seen ck) ∧ Below wq.heap.size wq wx) (fun _ wx => (leftOf ms (wx.iterSeen wq.heap.size)).size)
      case atStart => exact ⟨#[], heap_alloc_new wq _, (Below.refl _ _).alloc (Nat.le_refl _) _⟩
      case round =>
        obtain ⟨seen, hit, hbx⟩ := hrel
        have kx := HKw.out.trans (hbx.mono HKw.out.size)
        have hmx := (hbx.block L.ms hmslt).trans HMS.out
        have hstamp := (MapKept.stamped_iff _ _).1 HST.out
        rcases run_next_at (P := Try.prog) wr 0 wq.heap.size L.ms ck ck seen ms ck hit hmx hstamp.1 (Nat.le_refl _) with ⟨h0, hn⟩ | ⟨e, he, w1, hw1, hn⟩
        · clear hstamp hmx hit
          go_wp2
          go_ret
          exact ⟨rfl, kx⟩
        · have heM := (mem_left he).1
          obtain ⟨a, ha, hae⟩ : ∃ a ∈ H.st, e.key = .int .i64 a := by
            have : e.key ∈ ms.toList.map (·.key) := List.mem_map_of_mem heM
            rw [HKeys.out] at this
            obtain ⟨a, ha, q⟩ := List.mem_map.1 this
            exact ⟨a, ha, q.symm⟩
          have hshr := left_shrinks ms seen e he
          have hseen := iterSeen_of hit
          have hxs := hbx.size
          have hrlt : wq.heap.size < w1.heap.size := by
            have := (Array.getElem?_eq_some_iff.1 hit).1
            rcases hw1 with rfl | rfl
            · exact this
            · exact this
          have hb1' : Below wq.heap.size wq w1 := by
            rcases hw1 with rfl | rfl
            · exact hbx
            · exact hbx.drew
          rw [hae] at hn
          generalize hW1 : ChangeMaps.setBlock w1 wq.heap.size (.mapIter (some L.ms) ck (seen.push e.born) ck) = W1 at hn
          have hit1 : W1.heap[wq.heap.size]? = some (.mapIter (some L.ms) ck (seen.push e.born) ck) := by rw [← hW1]; exact setBlock_at hrlt
          have hb1 : Below wq.heap.size wq W1 := by rw [← hW1]; exact below_setBlock hb1' (Nat.le_refl _) _
          have hen := run_entry_at (P := Try.prog) W1 wq.heap.size L.ms ck seen ms ck e hit1 ((hb1.block L.ms hmslt).trans HMS.out) heM hstamp.2.1
          rw [hae] at hen
          obtain ⟨q1, q2, q3, q4⟩ := HG.out.snd.good.at_ a ha
          obtain ⟨i, rfl⟩ := Int.eq_ofNat_of_zero_le q1
          obtain ⟨P, hP⟩ : ∃ P, headOf H (i : Int) = P := ⟨_, rfl⟩
          rw [hP] at q3 q4
          have hpo := parts_ok (n := (H.word i).2) (by rw [(head_ok (H := H) (i := i) (by rw [hP]; exact q3)).2, hP]; exact q3)
          rw [(head_ok (H := H) (i := i) (by rw [hP]; exact q3)).2, hP] at hpo
          obtain ⟨s, hs⟩ : ∃ s : Nat, P.s = s := ⟨P.s.toNat, by omega⟩
          have hlen := HG.out.inv.len; have htop := HG.out.inv.top; have hnur := HG.out.inv.nur; have hold := HG.out.inv.old
          have hin := fun (j : Nat) (h1 : i < j) (h2 : j < i + 1 + s) => HG.out.snd.ins i ha j (by omega) (by rw [hP, hs]; omega)
          have hind := HG.out.snd.ind i ha
          rw [hP, Int.toNat_natCast] at hind
          have K1 := HKw.out.trans (hb1.mono HKw.out.size)
          have kh := head_at b L H W1 (HG.out.inv.below K1) i (by omega) (by omega)
          rw [hP, hs] at kh
          have KH := Lib.hid kh; have HIn := Lib.hid hin; have HInd := Lib.hid hind; have HB1 := Lib.hid hb1; have HIt := Lib.hid hit1; have HShr := Lib.hid hshr
          have c1 := fun j => (HG.out.inv.below K1).blk.cell j
          unfold HL.cells at c1
          have x1 := (HX2.out.below (hb.trans (hb1.mono hb.size)) HX2.out.lt).cell 0
          have HK1 := Lib.hid K1
          have hiN : i + 1 + s ≤ H.nur := by omega
          have HPo := Lib.hid hpo
          clear kh hin hind hb1 hit1 hshr hb1' hW1 hw1 he heM hae hstamp hmx hit hP ha K1 kx c0 xr hpo
          go_upto_region 18 with (go_at_call 48; with_reducible refine (KH.out).mono ?_; rintro e2 w3 ⟨rfl, nd, rfl⟩)
          generalize hW3 : W1.drewN nd = W3
          have kb3 : Below W1.heap.size W1 W3 := by rw [← hW3]; exact belowN _ _
          have it3 : W3.heap[wq.heap.size]? = some (.mapIter (some L.ms) ck (seen.push e.born) ck) := by rw [← hW3]; exact HIt.out
          have c3 : ∀ j, W3.cell? ⟨b, j, none⟩ = _ := fun j => (show W3.cell? ⟨b, j, none⟩ = W1.cell? ⟨b, j, none⟩ from by rw [← hW3]; rfl).trans (c1 j)
          have x3 : W3.cell? ⟨w.heap.size, 0, none⟩ = _ := (show W3.cell? ⟨w.heap.size, 0, none⟩ = W1.cell? ⟨w.heap.size, 0, none⟩ from by rw [← hW3]; rfl).trans x1
          have K3w := HK1.out.trans (kb3.mono HK1.out.size)
          have hX3 : w.heap.size < W3.heap.size := by have := kb3.size; have := HB1.out.size; omega
          have kX3 : Below w2.heap.size w2 W3 := hb.trans ((HB1.out.trans (kb3.mono HB1.out.size)).mono hb.size)
          have BX3 := HX2.out.below kX3 HX2.out.lt
          have HBX3 := Lib.hid BX3
          have HKb3 := Lib.hid kb3; have HIt3 := Lib.hid it3; have HK3 := Lib.hid K3w
          rw [HN.out] at c3
          have hw1 : IntKind.i64.wrap ((i : Int) + 1) = (i : Int) + 1 := IntWalk.i64_in _ (by omega)
          have hw2 : IntKind.i64.wrap ((i : Int) + 1 + (s : Int)) = (i : Int) + 1 + (s : Int) := IntWalk.i64_in _ (by omega)
          have hop := HG.out.inv.opos
          have hlenN : N = H.nur + 2 * H.old := by have := HN.out; omega
          have hne : ¬ N = i + 1 := by omega
          have hiN2 : i + 1 + s ≤ N := by omega
          have HHN := Lib.hid hlenN
          have hsub : i + 1 + s - (i + 1) = s := by omega
          clear hW3 c1 x1 kb3 it3 hlenN K3w kX3 BX3
          go_wp2
          rw [hsub]
          clear hsub
          go_loopw [72, 13] (fun j y wz => ∃ (t : Nat) (yb : Bool), j = .int .i64 t ∧ y = .bool yb ∧ t ≤ s ∧ Below W3.heap.size W3 wz) (fun j _ _ => s - (intOf j).toNat)
          case atStart => exact ⟨0, false, rfl, rfl, Nat.zero_le _, Below.refl _ _⟩
          case round =>
            obtain ⟨t, yb, rfl, rfl, ht, hbz⟩ := hrel
            have kz := HK3.out.trans (hbz.mono HK3.out.size)
            have Gz := HG.out.below kz
            have x4 := (hbz.cell (p := ⟨w.heap.size, 0, none⟩) hX3).trans x3
            by_cases hts : t < s
            · obtain ⟨d1, d2⟩ := Gz.inv.cell (a := i + 1 + t) (by rw [HN.out]; omega)
              have hst4 := HIn.out (i + 1 + t) (by omega) (by omega)
              have hxr := Gz.inv.num (H.word (i + 1 + t)) (by unfold HS.word; rw [List.getD_eq_getElem?_getD, List.getElem?_eq_getElem (by rw [HN.out]; omega)]; exact List.getElem_mem _)
              obtain ⟨x, hx⟩ : ∃ x, H.word (i + 1 + t) = x := ⟨_, rfl⟩
              rw [hx] at d1 d2 hst4 hxr
              rw [show (i + 1 + t) * 2 = (i + 1) * 2 + t * 2 by omega] at d1 d2
              have htI : (t : Int) < (s : Int) := by omega
              have HGz := Lib.hid Gz; have Hst4 := Lib.hid hst4
              clear hx Gz hst4
              go_upto_region 21 with fail
              generalize hW4 : wr.alloc (Obj.cells #[.int .i64 x.1, .int .i64 x.2] 32) = W4
              have B4 : Blk W4 wr.heap.size #[.int .i64 x.1, .int .i64 x.2] := by rw [← hW4]; exact Blk.new wr _ _
              have k4 : Below W3.heap.size W3 W4 := by rw [← hW4]; exact hbz.alloc hbz.size _
              have b4 := B4.cell
              have BX4 := HBX3.out.below k4 HBX3.out.lt
              have x4' := BX4.cell 0
              have G4 := HG.out.below (HK3.out.trans (k4.mono HK3.out.size))
              have kf := fineC_any b L gb H gl W4 G4 w.heap.size BX4 x.1 x.2 hxr.1 hxr.2
              rw [Hst4.out] at kf
              have ky := fun W (hW : Below W4.heap.size W4 W) => young_any b L H W (G4.inv.below (hW.mono (Nat.le_refl _))) x.1 x.2
              have KF := Lib.hid kf; have KY := Lib.hid ky; have K4 := Lib.hid k4; have HB4 := Lib.hid B4; have HBX4 := Lib.hid BX4
              clear kf ky k4 hW4 d1 d2 hxr B4 BX4 G4
              cases yb with
              | true =>
                go_wp2_with (go_at_call 46; with_reducible refine KF.out.mono ?_; rintro e5 w5 ⟨rfl, hb5⟩; have b5 := (HB4.out.below hb5 HB4.out.lt).cell; have x5 := (HBX4.out.below hb5 HBX4.out.lt).cell 0)
                go_roundw
                case rel => exact ⟨t + 1, true, by go_num, rfl, by omega, K4.out.trans (hb5.mono K4.out.size)⟩
                case measure => simp [intOf]; omega
              | false =>
                go_wp2_with (first | (go_at_call 46; with_reducible refine KF.out.mono ?_; rintro e5 w5 ⟨rfl, hb5⟩; have b5 := (HB4.out.below hb5 HB4.out.lt).cell; have x5 := (HBX4.out.below hb5 HBX4.out.lt).cell 0) | (go_at_call 43; with_reducible refine (KY.out _ hb5).mono ?_; rintro e6 w6 ⟨rfl, hb6⟩))
                go_roundw
                case rel => exact ⟨t + 1, _, by go_num, rfl, by omega, (K4.out.trans (hb5.mono K4.out.size)).trans (hb6.mono ((K4.out.trans (hb5.mono K4.out.size)).size))⟩
                case measure => simp [intOf]; omega
            · have hbz' := Lib.hid hbz
              have c4 := Gz.inv.blk.cell
              unfold HL.cells at c4
              rw [HN.out] at c4
              have hitlt := (Array.getElem?_eq_some_iff.1 HIt3.out).1
              have hfin : ∀ W', Below wr.heap.size wr W' → W'.heap[wq.heap.size]? = some (.mapIter (some L.ms) ck (seen.push e.born) ck) ∧ Below wq.heap.size wq W' := by
                intro W' hW
                have h1 : Below W3.heap.size W3 W' := hbz'.out.trans (hW.mono hbz'.out.size)
                have h2 : Below W1.heap.size W1 W' := HKb3.out.trans (h1.mono HKb3.out.size)
                exact ⟨(h1.block _ hitlt).trans HIt3.out, HB1.out.trans (h2.mono HB1.out.size)⟩
              have HFin := Lib.hid hfin
              have dn : decide ((H.nur : Int) ≤ (i : Int)) = false := by simp; omega
              have dn2 : decide (H.nur ≤ i) = false := by simp; omega
              have hs1 : s = 0 ∨ i + 1 < N := by omega
              have HGz := Lib.hid Gz
              have hbzz := hbz'.out.size
              clear Gz hfin hbz
              by_cases k7 : P.k = 7
              · have hiN3 : i + 1 < N := by
                  have := HPo.out
                  rcases hs1 with q | q
                  · omega
                  · exact q
                obtain ⟨d1, d2⟩ := HGz.out.inv.cell (a := i + 1) (by rw [HN.out]; exact hiN3)
                have hiv := HInd.out k7
                have hxr := HGz.out.inv.num (H.word (i + 1)) (by unfold HS.word; rw [List.getD_eq_getElem?_getD, List.getElem?_eq_getElem (by rw [HN.out]; omega)]; exact List.getElem_mem _)
                obtain ⟨x, hx⟩ : ∃ x, H.word (i + 1) = x := ⟨_, rfl⟩
                rw [hx] at d1 d2 hiv hxr
                have kv := fun W (hW : Below wr.heap.size wr W) => value_any b L H W (HGz.out.inv.below hW) x.1 x.2 hxr.1 hxr.2
                rw [hiv] at kv
                have KV := Lib.hid kv
                have hiI : (i : Int) + 1 < (N : Int) := by omega
                have hi0 : (0 : Int) ≤ (i : Int) + 1 := by omega
                have hbl := HGz.out.inv.blk.lt
                have hgl' := HGz.out.inv.wd.lt
                have hwl : w.heap.size < wr.heap.size := Nat.lt_of_lt_of_le hX3 hbzz
                have s0 : wr.drew.cell? ⟨w.heap.size, 0, none⟩ = some (.pointer (some ⟨b, 0, none⟩)) ∧ wr.drew.cell? ⟨b, 0, none⟩ = some (.int .i64 H.nur) ∧ wr.drew.cell? ⟨b, 5, none⟩ = some (.slice (some ⟨L.g, 0, none⟩) N N) ∧ wr.drew.cell? ⟨L.g, (i + 1) * 2, none⟩ = some (.int .i64 x.1) ∧ wr.drew.cell? ⟨L.g, (i + 1) * 2 + 1, none⟩ = some (.int .i64 x.2) ∧ Below wr.heap.size wr wr.drew := ⟨x4, c4 0, c4 5, d1, d2, (Below.refl _ _).drew⟩
                rw [k7]
                clear hx kv hiv hxr
                cases yb
                all_goals
                  go_upto_region 25 with fail
                  refine wp_region_class (fun wx => wx.cell? ⟨w.heap.size, 0, none⟩ = some (.pointer (some ⟨b, 0, none⟩)) ∧ wx.cell? ⟨b, 0, none⟩ = some (.int .i64 H.nur) ∧ wx.cell? ⟨b, 5, none⟩ = some (.slice (some ⟨L.g, 0, none⟩) N N) ∧ wx.cell? ⟨L.g, (i + 1) * 2, none⟩ = some (.int .i64 x.1) ∧ wx.cell? ⟨L.g, (i + 1) * 2 + 1, none⟩ = some (.int .i64 x.2) ∧ Below wr.heap.size wr wx) (by kernel_rfl) (by kernel_rfl) (by assumption) ?_
                  repeat (first | go_big_quiet_skip | (go_big_quiet_want; first | (go_big_quiet_op; go_big_quiet_on) | (apply Exists.intro; refine ⟨fun wx hC => ?_, ?_⟩; (focus (obtain ⟨g1, g2, g3, g4, g5, g6⟩ := hC; unfold Oper.quietAt; go_simp; all_goals exact rfl)); go_simp; go_big_quiet_on) | (apply Exists.intro; refine ⟨fun wx hC => ?_, ?_⟩; (focus (unfold Oper.quietAt; go_simp; (refine (KV.out _ hC.2.2.2.2.2).mono ?_; rintro e8 w8 ⟨rfl, hb8⟩; exact ⟨rfl, keepA5 hwl hbl hbl hgl' hgl' hC hb8⟩))); go_simp; go_big_quiet_on)))
                  refine wpQuiet_nil ?_
                  intro wz hCz
                  have k8 := hCz.2.2.2.2.2
                  go_wp2
                  go_roundw
                  case rel => exact ⟨_, (HFin.out _ k8).1, (HFin.out _ k8).2⟩
                  case measure => rw [iterSeen_of (HFin.out _ k8).1, hseen]; exact HShr.out
              · have d7 : (P.k == 7) = false := by simpa using k7
                have d7' : decide (P.k = 7) = false := by simpa using k7
                cases yb
                all_goals
                  go_upto_region 25 with fail
                  go_quiet (fail)
                  go_wp2
                  go_roundw
                  case rel => exact ⟨_, (HFin.out _ (belowN _ _)).1, (HFin.out _ (belowN _ _)).2⟩
                  case measure => rw [iterSeen_of (HFin.out _ (belowN _ _)).1, hseen]; exact HShr.out

end Go.Proofs.Ytlmljommgmbckaa
