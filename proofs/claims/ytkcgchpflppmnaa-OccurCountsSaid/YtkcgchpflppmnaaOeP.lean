/- core: alternatives: some truth value, some fault noted. -/
import Derived.Test.YtkcgchpflppmnaaOeO
import Derived.Test.YtkcgchpflppmnaaOeM
import Derived.BigRegion
namespace Go.Proofs.Ytkcgchpflppmnaa
open Go.RowKit
set_option linter.unusedSimpArgs false
set_option linter.unusedVariables false

set_option maxRecDepth 100000 in
set_option maxHeartbeats 8000000 in
theorem alts_any (d : Nat) (L : List (AltN (Ex d))) (a : Option Addr) (N c : Nat) (w : World) (cb bm : Nat) (k0 : Int) (h : AlS w (.slice a N c) L) (hc : N ≤ c) (hn : N ≤ 10000000)
    (hz : ∀ x ∈ L, x.vars.length ≤ 10000000 ∧ (∀ s ∈ x.vars, s.size ≤ 1000000000000000) ∧ x.name.size ≤ 1000000000000000) (R : Blk w cb #[.map (some bm), .int .i64 k0]) (hm : WMap w bm ConV) :
    Calls Try.prog 58 #[.pointer (some ⟨cb, 0, none⟩), .slice a N c] w fun r w' => AltPost w cb (.map (some bm)) r w' := by
  obtain ⟨a', c', hv, hat0⟩ := h
  obtain ⟨rfl, hN, rfl⟩ := Value.slice.inj hv
  have HN := Lib.hid hN.symm
  rw [← hN] at hat0
  have Hat := Lib.hid hat0
  have HZ := Lib.hid hz
  have HR := Lib.hid R
  have HM := Lib.hid hm
  have hbad := Lib.hid (Bad.blk R ⟨_, rfl⟩)
  have HC := Lib.hid hc
  have hmm : ∀ W, (Instr.makeMap 76 none).run Try.prog W = .ok (.map (some W.heap.size)) (W.alloc (.map #[] 0)) := fun W => by simp [Instr.makeMap]
  have S1 := Lib.hid (SSet.new w)
  have G1 := Lib.hid (grown_allocE (grown_reflE w (some cb)) (.map #[] 0))
  have R1 := Lib.hid (R.alloc (.map #[] 0))
  have hbm := hm.lt
  have hcb := R.lt
  have hbc : bm ≠ cb := map_ne hm R (by simp)
  clear hv hat0 hz R hm hc hN
  go_enter Try.func58, Try.ntmps58
  go_upto_region 3 with fail
  clear hmm
  generalize w.alloc (.map #[] 0) = W1 at S1 G1 R1 ⊢
  obtain ⟨mm, hmq⟩ : ∃ m, w.heap.size = m := ⟨_, rfl⟩
  have HMM := Lib.hid hmq
  have HNE := Lib.hid (show mm ≠ cb ∧ bm ≠ mm ∧ bm ≠ cb from ⟨by omega, by omega, hbc⟩)
  rw [hmq] at S1 ⊢
  clear hmq hbm hcb hbc
  go_upto_region 4 with fail
  go_loopw [5, 6, 7, 9, 10, 11, 13, 14, 15, 19] (fun s5 s6 s7 _ _ _ _ _ _ i wr => ∃ (k : Nat) (q5 : Int) (q6 : ByteArray) (q7 : Bool) (k1 : Int) (ls : List ByteArray), i = .int .i64 k ∧ s5 = .int .i64 q5 ∧ s6 = .string q6 ∧ s7 = .bool q7 ∧ k ≤ N ∧ Hid (Blk wr cb #[.map (some bm), .int .i64 k1]) ∧ Hid (SSet wr mm ls) ∧ Hid (w.grownBy wr (some cb))) (fun _ _ _ _ _ _ _ _ _ i _ => N - (intOf i).toNat)
  case atStart => exact ⟨0, 0, _, false, k0, [], rfl, rfl, rfl, rfl, Nat.zero_le _, R1, S1, G1⟩
  case round =>
    clear R1 S1 G1
    obtain ⟨k, q5, q6, q7, k1, ls, rfl, rfl, rfl, rfl, hk, HRR, HSS, HG⟩ := hrel
    by_cases hlt : k < N
    · have hlt2 : decide ((k : Int) < (N : Int)) = true := by simp; omega
      have hlt3 : decide (k < N) = true := by simp; omega
      have hi0 : (0 : Int) ≤ (k : Int) := by omega
      have hkt : k < L.length := by rw [HN.out]; exact hlt
      obtain ⟨x, hx⟩ : ∃ x, L[k]? = some x := ⟨_, List.getElem?_eq_getElem hkt⟩
      obtain ⟨p, o', hq, hp, hat⟩ := Hat.out (by omega)
      subst hq
      obtain ⟨va, vc, z4, z6, z5, z7, z8, z9, zx, z7a, z7b, z8a, z8b, z9a, z9b, zxa, zxb, hcs, htx⟩ := hat k x hx
      have hpc : p ≠ cb := fun e => (hbad.out (o' + k * 11 + 1)).1 x.name (e ▸ hcs 1 _ rfl)
      obtain ⟨hz1, hz2, hz3⟩ := HZ.out x (List.mem_of_getElem? hx)
      have htx2 := htx.grown HG.out hbad.out
      have hcw := fun j c hj => cell_grown HG.out (hcs j c hj) hpc hp
      have c0 := hcw 0 _ rfl
      have c1 := hcw 1 _ rfl
      have c2 := hcw 2 _ rfl
      have c3 := hcw 3 _ rfl
      have c4 := hcw 4 _ rfl
      have c5 := hcw 5 _ rfl
      have c6 := hcw 6 _ rfl
      have c7 := hcw 7 _ rfl
      have c8 := hcw 8 _ rfl
      have c9 := hcw 9 _ rfl
      have cx := hcw 10 _ rfl
      rw [Nat.add_zero] at c0
      obtain ⟨kd, hkd⟩ : ∃ q, x.kind = q := ⟨_, rfl⟩
      obtain ⟨nm, hnm⟩ : ∃ q, x.name = q := ⟨_, rfl⟩
      obtain ⟨nu, hnu⟩ : ∃ q, x.num = q := ⟨_, rfl⟩
      obtain ⟨vs, hvs⟩ : ∃ q, x.vars = q := ⟨_, rfl⟩
      rw [hkd] at c0
      rw [hnm] at c1 hz3
      rw [hnu] at c2
      rw [hvs] at c3 htx2 hz1 hz2
      obtain ⟨vl, hvl⟩ : ∃ q, vs.length = q := ⟨_, rfl⟩
      rw [hvl] at c3 hz1
      have HVL := Lib.hid hvl
      have HT2 := Lib.hid htx2
      have HZ2 := Lib.hid hz2
      have HZ3 := Lib.hid hz3
      have hAt := Lib.hid (show ∀ j, j < N → ∃ (cs : List Value), cs.length = 11 ∧ ∀ (W : World), w.grownBy W (some cb) → CellsAt W p (o' + j * 11) cs from fun j hj => by
        obtain ⟨x2, hx2⟩ : ∃ x2, L[j]? = some x2 := ⟨_, List.getElem?_eq_getElem (by rw [HN.out]; exact hj)⟩
        obtain ⟨_, _, _, _, _, _, _, _, _, _, _, _, _, _, _, _, _, hcs2, _⟩ := hat j x2 hx2
        exact ⟨_, rfl, fun W hW => hcs2.grown hW (fun e => (hbad.out (o' + j * 11 + 1)).1 x2.name (e ▸ hcs2 1 _ rfl)) hp⟩)
      have hAt2 := Lib.hid hat
      clear hcs htx hcw hat hx hkd hnm hnu hvs hvl htx2 hz2 hz3 hpc hkt
      go_upto_region 6 with fail
      have hB2 : Below wr.heap.size wr (wr.alloc (.cells #[.int .i64 kd, .string nm, .int .i64 nu, .slice va vl vc, .int .i64 z4, .string z5, .int .i64 z6, .slice z7 z7a z7b, .slice z8 z8a z8b, .slice z9 z9a z9b, .slice zx zxa zxb] 52)) := (Below.refl _ wr).alloc (Nat.le_refl _) _
      have hR2 := Blk.new wr #[.int .i64 kd, .string nm, .int .i64 nu, .slice va vl vc, .int .i64 z4, .string z5, .int .i64 z6, .slice z7 z7a z7b, .slice z8 z8a z8b, .slice z9 z9a z9b, .slice zx zxa zxb] 52
      have A2 : ASt w (wr.alloc (.cells #[.int .i64 kd, .string nm, .int .i64 nu, .slice va vl vc, .int .i64 z4, .string z5, .int .i64 z6, .slice z7 z7a z7b, .slice z8 z8a z8b, .slice z9 z9a z9b, .slice zx zxa zxb] 52)) cb bm mm wr.heap.size #[.int .i64 kd, .string nm, .int .i64 nu, .slice va vl vc, .int .i64 z4, .string z5, .int .i64 z6, .slice z7 z7a z7b, .slice z8 z8a z8b, .slice z9 z9a z9b, .slice zx zxa zxb] ls :=
        ⟨⟨k1, HRR.out.alloc _⟩, HSS.out.below hB2, grown_allocE HG.out _, (HM.out.grown HG.out HNE.out.2.2).below hB2, hR2, by have := HRR.out.lt; omega, by have := HSS.out.lt; omega, HNE.out.1, HNE.out.2.1, by rw [HMM.out]; exact Nat.le_refl _, HNE.out.2.2⟩
      have HT3 := Lib.hid (show Txs (wr.alloc (.cells #[.int .i64 kd, .string nm, .int .i64 nu, .slice va vl vc, .int .i64 z4, .string z5, .int .i64 z6, .slice z7 z7a z7b, .slice z8 z8a z8b, .slice z9 z9a z9b, .slice zx zxa zxb] 52)) (.slice va vl vc) vs from by have := HT2.out.below hB2; rw [HVL.out] at this; exact this)
      generalize wr.alloc (.cells #[.int .i64 kd, .string nm, .int .i64 nu, .slice va vl vc, .int .i64 z4, .string z5, .int .i64 z6, .slice z7 z7a z7b, .slice z8 z8a z8b, .slice z9 z9a z9b, .slice zx zxa zxb] 52) = W2 at A2 HT3 ⊢
      generalize wr.heap.size = r2 at A2 ⊢
      have A2 := Lib.hid A2
      clear hB2 hR2 c0 c1 c2 c3 c4 c5 c6 c7 c8 c9 cx HRR HSS HG HT2
      obtain ⟨y0, y1, y2, y3⟩ := A2.out.cells
      have KN := Lib.hid (coreNames_any _ vs W2 HT3.out (by rw [HVL.out]; exact hz1) HZ2.out)
      clear hz1
      by_cases h1 : kd < 1
      · have d1 : decide (kd < 1) = true := by simpa using h1
        go_wp2_with (go_at_call 57; refine KN.out.mono ?_; rintro r1 w1 ⟨bb, rfl, b1⟩; have A1 := Lib.hid (A2.out.below b1); obtain ⟨y0, y1, y2, y3⟩ := A1.out.cells; clear b1; rcases bb with _ | _)
        all_goals
          go_ret
          exact A1.out.post rfl
      · have d1 : decide (kd < 1) = false := by simpa using h1
        by_cases h2 : 4 < kd
        · have d2 : decide (4 < kd) = true := by simpa using h2
          go_wp2_with (go_at_call 57; refine KN.out.mono ?_; rintro r1 w1 ⟨bb, rfl, b1⟩; have A1 := Lib.hid (A2.out.below b1); obtain ⟨y0, y1, y2, y3⟩ := A1.out.cells; clear b1; rcases bb with _ | _)
          all_goals
            go_ret
            exact A1.out.post rfl
        · have d2 : decide (4 < kd) = false := by simpa using h2
          go_upto_region 8 with (go_at_call 57; refine KN.out.mono ?_; rintro r1 w1 ⟨bb, rfl, b1⟩; have A1 := Lib.hid (A2.out.below b1); obtain ⟨y0, y1, y2, y3⟩ := A1.out.cells; clear b1; rcases bb with _ | _)
          · go_ret
            exact A1.out.post rfl
          · clear HT3 KN A2
            by_cases h4 : kd = 4
            · have e3 : (kd == 4) = true := by simpa using h4
              have hwN : IntKind.i64.wrap ((N : Int) - 1) = (N : Int) - 1 := IntWalk.i64_in _ (by omega)
              by_cases u1 : (k : Int) = (N : Int) - 1
              · have fka : ((k : Int) == ((N : Int) - 1)) = true := by simpa using u1
                have fkb : ((k : Int) != ((N : Int) - 1)) = false := by simpa using u1
                by_cases u2 : 1 < vl
                · have fl : decide ((1 : Int) < (vl : Int)) = true := by simp; omega
                  have fl2 : decide (1 < vl) = true := by simpa using u2
                  go_wp2_with fail
                  go_ret
                  exact A1.out.post rfl
                · have fl : decide ((1 : Int) < (vl : Int)) = false := by simp; omega
                  have fl2 : decide (1 < vl) = false := by simpa using u2
                  by_cases us : nm.toList = []
                  · have fsa : (nm.toList == ([] : List UInt8)) = true := by simpa using us
                    have fsb : (nm.toList != ([] : List UInt8)) = false := by simpa using us
                    by_cases un : nu = 0
                    · have fna : (nu == 0) = true := by simpa using un
                      have fnb : (nu != 0) = false := by simpa using un
                      go_wp2_with fail
                      go_roundw
                      case measure => simp [intOf]; omega
                      case rel => obtain ⟨k9, hk9⟩ := A1.out.c; exact ⟨k + 1, _, _, _, k9, _, by go_num, rfl, rfl, rfl, by omega, Lib.hid hk9, Lib.hid A1.out.s, Lib.hid A1.out.g⟩
                    · have fna : (nu == 0) = false := by simpa using un
                      have fnb : (nu != 0) = true := by simpa using un
                      go_wp2_with fail
                      go_ret
                      exact A1.out.post rfl
                  · have fsa : (nm.toList == ([] : List UInt8)) = false := by simpa using us
                    have fsb : (nm.toList != ([] : List UInt8)) = true := by simpa using us
                    go_wp2_with fail
                    go_ret
                    exact A1.out.post rfl
              · have fka : ((k : Int) == ((N : Int) - 1)) = false := by simpa using u1
                have fkb : ((k : Int) != ((N : Int) - 1)) = true := by simpa using u1
                go_wp2_with fail
                go_ret
                exact A1.out.post rfl
            · have e3 : (kd == 4) = false := by simpa using h4
              by_cases m0 : q5 = 0
              · have e7 : (q5 == 0) = true := by simpa using m0
                have e8 : (q5 != 0) = false := by simpa using m0
                go_upto_region 13 with fail
                by_cases n0 : kd = 1
                · have e5 : (kd == 1) = true := by simpa using n0
                  have e6 : (kd != 1) = false := by simpa using n0
                  by_cases n1 : nu = 0
                  · have f1 : (nu == 0) = true := by simpa using n1
                    have f2 : (nu != 0) = false := by simpa using n1
                    cases hd : decide (nm ∈ ls) with
                    | true =>
                      have hlk := set_lookup A1.out.s nm
                      rw [hd] at hlk
                      go_wp2_with fail
                      go_ret
                      exact A1.out.post rfl
                    | false =>
                      have hlk := set_lookup A1.out.s nm
                      rw [hd] at hlk
                      have KM := Lib.hid (named_any nm w1 HZ3.out)
                      go_upto_region 26 with (go_at_call 54; refine KM.out.mono ?_; rintro r3 w3 ⟨bb, rfl, b3⟩; have A3 := Lib.hid (A1.out.below b3); obtain ⟨y0, y1, y2, y3⟩ := A3.out.cells; clear b3; rcases bb with _ | _)
                      · go_ret
                        exact A3.out.post rfl
                      · obtain ⟨W4, ls4, hput, hg4, hS4, -, -⟩ := set_put A3.out.s nm
                        have A4 := Lib.hid (A3.out.put hS4 hg4)
                        clear hg4 hS4 hlk
                        go_upto_region 27 with fail
                        clear hput y0 y1 y2 y3
                        have B5 : Below W4.heap.size W4 ((W4.alloc (.cells #[.string ⟨#[]⟩, .int .i64 0, .string ⟨#[]⟩, .int .i64 0] 75)).drew) := ((Below.refl _ W4).alloc (Nat.le_refl _) _).drew
                        have B4 : Below W4.heap.size W4 W4.drew := (Below.refl _ W4).drew
                        obtain ⟨cs9, cn9, ct9, cg9, ok9, hlk⟩ := con_lookup_all A4.out.m nm
                        have hlkA := hlk _ (B4.block bm A4.out.m.lt)
                        have hlkB := hlk _ (B5.block bm A4.out.m.lt)
                        have f0 := (A4.out.below B5).c0
                        obtain ⟨-, g1, -, -⟩ := (A4.out.below B5).cells
                        have f0' := (A4.out.below B4).c0
                        obtain ⟨-, g1', -, -⟩ := (A4.out.below B4).cells
                        clear hlk B4
                        have B5 := Lib.hid B5
                        go_region
                        all_goals
                          have B6 : Below W4.heap.size W4 ((W4.alloc (.cells #[.string cs9, .int .i64 cn9, .string ct9, .int .i64 cg9] 75)).drew) := ((Below.refl _ W4).alloc (Nat.le_refl _) _).drew
                          have A5 := Lib.hid (A4.out.below B6)
                          have C5 := Lib.hid ((Blk.new W4 #[.string cs9, .int .i64 cn9, .string ct9, .int .i64 cg9] 75).drew)
                          have hrc : W4.heap.size ≠ cb := by obtain ⟨k5, hk5⟩ := A4.out.c; have := hk5.lt; omega
                          clear B6 B5 f0 g1 f0' g1' hlkA hlkB A4
                          generalize (W4.alloc (.cells #[.string cs9, .int .i64 cn9, .string ct9, .int .i64 cg9] 75)).drew = W5 at A5 C5 ⊢
                          generalize W4.heap.size = r5 at C5 hrc ⊢
                          have e1 : W5.cell? ⟨r5, 1, none⟩ = some (.int .i64 cn9) := C5.out.cell 1
                          obtain ⟨-, -, -, y3⟩ := A5.out.cells
                          obtain ⟨k5, hk5⟩ := A5.out.c
                          have KT := Lib.hid (fun q => note_any cb (.map (some bm)) k5 q 9 W5 hk5)
                          clear hk5
                          cases ok9 with
                          | false =>
                            go_wp2_with (go_at_call 55; refine (KT.out _).mono ?_; rintro r6 w6 ⟨k6, rfl, hk6, g6⟩; have A6 := Lib.hid (A5.out.note hk6 g6); have e2 : w6.cell? ⟨r5, 2, none⟩ = some (.string ct9) := (C5.out.grown g6 hrc).cell 2; clear hk6 g6)
                            all_goals
                              go_roundw
                              case measure => simp [intOf]; omega
                              case rel => obtain ⟨k9, hk9⟩ := A6.out.c; exact ⟨k + 1, _, _, _, k9, _, by go_num, rfl, rfl, rfl, by omega, Lib.hid hk9, Lib.hid A6.out.s, Lib.hid A6.out.g⟩
                          | true =>
                            cases q7 with
                            | false =>
                              go_wp2_with (go_at_call 55; refine (KT.out _).mono ?_; rintro r6 w6 ⟨k6, rfl, hk6, g6⟩; have A6 := Lib.hid (A5.out.note hk6 g6); have e2 : w6.cell? ⟨r5, 2, none⟩ = some (.string ct9) := (C5.out.grown g6 hrc).cell 2; clear hk6 g6)
                              all_goals
                                go_roundw
                                case measure => simp [intOf]; omega
                                case rel => obtain ⟨k9, hk9⟩ := A6.out.c; exact ⟨k + 1, _, _, _, k9, _, by go_num, rfl, rfl, rfl, by omega, Lib.hid hk9, Lib.hid A6.out.s, Lib.hid A6.out.g⟩
                            | true =>
                              by_cases hq : ct9.toList = q6.toList
                              · have fq : (ct9.toList == q6.toList) = true := by simpa using hq
                                have fq2 : (ct9.toList != q6.toList) = false := by simpa using hq
                                go_wp2_with (go_at_call 55; refine (KT.out _).mono ?_; rintro r6 w6 ⟨k6, rfl, hk6, g6⟩; have A6 := Lib.hid (A5.out.note hk6 g6); have e2 : w6.cell? ⟨r5, 2, none⟩ = some (.string ct9) := (C5.out.grown g6 hrc).cell 2; clear hk6 g6)
                                all_goals
                                  go_roundw
                                  case measure => simp [intOf]; omega
                                  case rel => obtain ⟨k9, hk9⟩ := A6.out.c; exact ⟨k + 1, _, _, _, k9, _, by go_num, rfl, rfl, rfl, by omega, Lib.hid hk9, Lib.hid A6.out.s, Lib.hid A6.out.g⟩
                              · have fq : (ct9.toList == q6.toList) = false := by simpa using hq
                                have fq2 : (ct9.toList != q6.toList) = true := by simpa using hq
                                go_wp2_with (go_at_call 55; refine (KT.out _).mono ?_; rintro r6 w6 ⟨k6, rfl, hk6, g6⟩; have A6 := Lib.hid (A5.out.note hk6 g6); have e2 : w6.cell? ⟨r5, 2, none⟩ = some (.string ct9) := (C5.out.grown g6 hrc).cell 2; clear hk6 g6)
                                all_goals
                                  go_ret
                                  exact A6.out.post rfl
                  · have f1 : (nu == 0) = false := by simpa using n1
                    have f2 : (nu != 0) = true := by simpa using n1
                    go_wp2_with fail
                    go_ret
                    exact A1.out.post rfl
                · have e5 : (kd == 1) = false := by simpa using n0
                  have e6 : (kd != 1) = true := by simpa using n0
                  by_cases us : nm.toList = []
                  · have fsa : (nm.toList == ([] : List UInt8)) = true := by simpa using us
                    have fsb : (nm.toList != ([] : List UInt8)) = false := by simpa using us
                    by_cases ul : vl = 0
                    · have fl : ((vl : Int) == 0) = true := by simp; omega
                      have fl2 : (vl == 0) = true := by simpa using ul
                      have fl3 : ((vl : Int) != 0) = false := by simp; omega
                      have fl4 : (vl != 0) = false := by simpa using ul
                      by_cases uk : kd = 3
                      · have f3a : (kd == 3) = true := by simpa using uk
                        have f3b : (kd != 3) = false := by simpa using uk
                        by_cases ua : nu < 0
                        · have fu : decide (nu < 0) = true := by simpa using ua
                          go_wp2_with fail
                          go_ret
                          exact A1.out.post rfl
                        · have fu : decide (nu < 0) = false := by simpa using ua
                          by_cases ub : 255 < nu
                          · have fv : decide (255 < nu) = true := by simpa using ub
                            go_wp2_with fail
                            go_ret
                            exact A1.out.post rfl
                          · have fv : decide (255 < nu) = false := by simpa using ub
                            have hkc : (k : Int) ≤ (c : Int) := by have := HC.out; omega
                            clear y0 y1 y2 y3
                            obtain ⟨y0, y1, y2, y3⟩ := A1.out.cells
                            go_upto_block 2 with fail
                            clear y0 y1 y2 y3
                            go_wp2
                            go_loopw [13, 105] (fun _ j wj => ∃ (j0 : Nat), j = .int .i64 j0 ∧ j0 ≤ k ∧ Hid (ASt w wj cb bm mm r2 #[.int .i64 kd, .string nm, .int .i64 nu, .slice va vl vc, .int .i64 z4, .string z5, .int .i64 z6, .slice z7 z7a z7b, .slice z8 z8a z8b, .slice z9 z9a z9b, .slice zx zxa zxb] ls)) (fun _ j _ => k - (intOf j).toNat)
                            case atStart => exact ⟨0, rfl, Nat.zero_le _, A1⟩
                            case round =>
                              clear A1
                              obtain ⟨j0, rfl, hj, A1⟩ := hrel
                              by_cases hjl : j0 < k
                              · have hjlt2 : decide ((j0 : Int) < (k : Int)) = true := by simp; omega
                                have hjlt3 : decide (j0 < k) = true := by simp; omega
                                have hj0 : (0 : Int) ≤ (j0 : Int) := by omega
                                obtain ⟨x2, hx2⟩ : ∃ x2, L[j0]? = some x2 := ⟨_, List.getElem?_eq_getElem (by rw [HN.out]; omega)⟩
                                obtain ⟨va', vc', z4', z6', z5', z7', z8', z9', zx', z7a', z7b', z8a', z8b', z9a', z9b', zxa', zxb', hcs', -⟩ := hAt2.out j0 x2 hx2
                                have hcw' := hcs'.grown A1.out.g (fun e => (hbad.out (o' + j0 * 11 + 1)).1 x2.name (e ▸ hcs' 1 _ rfl)) hp
                                have c0 := hcw' 0 _ rfl
                                have c1 := hcw' 1 _ rfl
                                have c2 := hcw' 2 _ rfl
                                have c3 := hcw' 3 _ rfl
                                have c4 := hcw' 4 _ rfl
                                have c5 := hcw' 5 _ rfl
                                have c6 := hcw' 6 _ rfl
                                have c7 := hcw' 7 _ rfl
                                have c8 := hcw' 8 _ rfl
                                have c9 := hcw' 9 _ rfl
                                have cx := hcw' 10 _ rfl
                                rw [Nat.add_zero] at c0
                                generalize x2.kind = kd' at c0
                                generalize x2.name = nm' at c1
                                generalize x2.num = nu' at c2
                                generalize x2.vars.length = vl' at c3
                                clear hcs' hcw' hx2
                                go_upto_region 21 with fail
                                have hB9 : Below wr.heap.size wr (wr.alloc (.cells #[.int .i64 kd', .string nm', .int .i64 nu', .slice va' vl' vc', .int .i64 z4', .string z5', .int .i64 z6', .slice z7' z7a' z7b', .slice z8' z8a' z8b', .slice z9' z9a' z9b', .slice zx' zxa' zxb'] 52)) := (Below.refl _ wr).alloc (Nat.le_refl _) _
                                have hR9 := Blk.new wr #[.int .i64 kd', .string nm', .int .i64 nu', .slice va' vl' vc', .int .i64 z4', .string z5', .int .i64 z6', .slice z7' z7a' z7b', .slice z8' z8a' z8b', .slice z9' z9a' z9b', .slice zx' zxa' zxb'] 52
                                have A9 := Lib.hid (A1.out.below hB9)
                                generalize wr.alloc (.cells #[.int .i64 kd', .string nm', .int .i64 nu', .slice va' vl' vc', .int .i64 z4', .string z5', .int .i64 z6', .slice z7' z7a' z7b', .slice z8' z8a' z8b', .slice z9' z9a' z9b', .slice zx' zxa' zxb'] 52) = W9 at A9 hR9 ⊢
                                generalize wr.heap.size = r9 at hR9 ⊢
                                have e9 : W9.cell? ⟨r9, 2, none⟩ = some (.int .i64 nu') := hR9.cell 2
                                clear hB9 hR9 c0 c1 c2 c3 c4 c5 c6 c7 c8 c9 cx A1
                                by_cases hnn : nu' = nu
                                · have e91 : (nu' == nu) = true := by simpa using hnn
                                  go_wp2_with fail
                                  go_ret
                                  exact A9.out.post rfl
                                · have e91 : (nu' == nu) = false := by simpa using hnn
                                  go_wp2_with fail
                                  go_roundw
                                  case rel => exact ⟨j0 + 1, by go_num, by omega, A9⟩
                                  case measure => simp [intOf]; omega
                              · have hjlt2 : decide ((j0 : Int) < (k : Int)) = false := by simp; omega
                                have hjlt3 : decide (j0 < k) = false := by simp; omega
                                go_wp2_with fail
                                go_roundw
                                case measure => simp [intOf]; omega
                                case rel => obtain ⟨k9, hk9⟩ := A1.out.c; exact ⟨k + 1, _, _, _, k9, _, by go_num, rfl, rfl, rfl, by omega, Lib.hid hk9, Lib.hid A1.out.s, Lib.hid A1.out.g⟩
                      · have f3a : (kd == 3) = false := by simpa using uk
                        have f3b : (kd != 3) = true := by simpa using uk
                        have hkc : (k : Int) ≤ (c : Int) := by have := HC.out; omega
                        clear y0 y1 y2 y3
                        obtain ⟨y0, y1, y2, y3⟩ := A1.out.cells
                        go_upto_block 2 with fail
                        clear y0 y1 y2 y3
                        go_wp2
                        go_loopw [13, 105] (fun _ j wj => ∃ (j0 : Nat), j = .int .i64 j0 ∧ j0 ≤ k ∧ Hid (ASt w wj cb bm mm r2 #[.int .i64 kd, .string nm, .int .i64 nu, .slice va vl vc, .int .i64 z4, .string z5, .int .i64 z6, .slice z7 z7a z7b, .slice z8 z8a z8b, .slice z9 z9a z9b, .slice zx zxa zxb] ls)) (fun _ j _ => k - (intOf j).toNat)
                        case atStart => exact ⟨0, rfl, Nat.zero_le _, A1⟩
                        case round =>
                          clear A1
                          obtain ⟨j0, rfl, hj, A1⟩ := hrel
                          by_cases hjl : j0 < k
                          · have hjlt2 : decide ((j0 : Int) < (k : Int)) = true := by simp; omega
                            have hjlt3 : decide (j0 < k) = true := by simp; omega
                            have hj0 : (0 : Int) ≤ (j0 : Int) := by omega
                            obtain ⟨x2, hx2⟩ : ∃ x2, L[j0]? = some x2 := ⟨_, List.getElem?_eq_getElem (by rw [HN.out]; omega)⟩
                            obtain ⟨va', vc', z4', z6', z5', z7', z8', z9', zx', z7a', z7b', z8a', z8b', z9a', z9b', zxa', zxb', hcs', -⟩ := hAt2.out j0 x2 hx2
                            have hcw' := hcs'.grown A1.out.g (fun e => (hbad.out (o' + j0 * 11 + 1)).1 x2.name (e ▸ hcs' 1 _ rfl)) hp
                            have c0 := hcw' 0 _ rfl
                            have c1 := hcw' 1 _ rfl
                            have c2 := hcw' 2 _ rfl
                            have c3 := hcw' 3 _ rfl
                            have c4 := hcw' 4 _ rfl
                            have c5 := hcw' 5 _ rfl
                            have c6 := hcw' 6 _ rfl
                            have c7 := hcw' 7 _ rfl
                            have c8 := hcw' 8 _ rfl
                            have c9 := hcw' 9 _ rfl
                            have cx := hcw' 10 _ rfl
                            rw [Nat.add_zero] at c0
                            generalize x2.kind = kd' at c0
                            generalize x2.name = nm' at c1
                            generalize x2.num = nu' at c2
                            generalize x2.vars.length = vl' at c3
                            clear hcs' hcw' hx2
                            go_upto_region 21 with fail
                            have hB9 : Below wr.heap.size wr (wr.alloc (.cells #[.int .i64 kd', .string nm', .int .i64 nu', .slice va' vl' vc', .int .i64 z4', .string z5', .int .i64 z6', .slice z7' z7a' z7b', .slice z8' z8a' z8b', .slice z9' z9a' z9b', .slice zx' zxa' zxb'] 52)) := (Below.refl _ wr).alloc (Nat.le_refl _) _
                            have hR9 := Blk.new wr #[.int .i64 kd', .string nm', .int .i64 nu', .slice va' vl' vc', .int .i64 z4', .string z5', .int .i64 z6', .slice z7' z7a' z7b', .slice z8' z8a' z8b', .slice z9' z9a' z9b', .slice zx' zxa' zxb'] 52
                            have A9 := Lib.hid (A1.out.below hB9)
                            generalize wr.alloc (.cells #[.int .i64 kd', .string nm', .int .i64 nu', .slice va' vl' vc', .int .i64 z4', .string z5', .int .i64 z6', .slice z7' z7a' z7b', .slice z8' z8a' z8b', .slice z9' z9a' z9b', .slice zx' zxa' zxb'] 52) = W9 at A9 hR9 ⊢
                            generalize wr.heap.size = r9 at hR9 ⊢
                            have e9 : W9.cell? ⟨r9, 2, none⟩ = some (.int .i64 nu') := hR9.cell 2
                            clear hB9 hR9 c0 c1 c2 c3 c4 c5 c6 c7 c8 c9 cx A1
                            by_cases hnn : nu' = nu
                            · have e91 : (nu' == nu) = true := by simpa using hnn
                              go_wp2_with fail
                              go_ret
                              exact A9.out.post rfl
                            · have e91 : (nu' == nu) = false := by simpa using hnn
                              go_wp2_with fail
                              go_roundw
                              case rel => exact ⟨j0 + 1, by go_num, by omega, A9⟩
                              case measure => simp [intOf]; omega
                          · have hjlt2 : decide ((j0 : Int) < (k : Int)) = false := by simp; omega
                            have hjlt3 : decide (j0 < k) = false := by simp; omega
                            go_wp2_with fail
                            go_roundw
                            case measure => simp [intOf]; omega
                            case rel => obtain ⟨k9, hk9⟩ := A1.out.c; exact ⟨k + 1, _, _, _, k9, _, by go_num, rfl, rfl, rfl, by omega, Lib.hid hk9, Lib.hid A1.out.s, Lib.hid A1.out.g⟩
                    · have fl : ((vl : Int) == 0) = false := by simp; omega
                      have fl2 : (vl == 0) = false := by simpa using ul
                      have fl3 : ((vl : Int) != 0) = true := by simp; omega
                      have fl4 : (vl != 0) = true := by simpa using ul
                      go_wp2_with fail
                      go_ret
                      exact A1.out.post rfl
                  · have fsa : (nm.toList == ([] : List UInt8)) = false := by simpa using us
                    have fsb : (nm.toList != ([] : List UInt8)) = true := by simpa using us
                    go_wp2_with fail
                    go_ret
                    exact A1.out.post rfl
              · have e7 : (q5 == 0) = false := by simpa using m0
                have e8 : (q5 != 0) = true := by simpa using m0
                by_cases m1 : kd = q5
                · have e9 : (kd == q5) = true := by simpa using m1
                  have ea : (kd != q5) = false := by simpa using m1
                  go_upto_region 13 with fail
                  by_cases n0 : kd = 1
                  · have e5 : (kd == 1) = true := by simpa using n0
                    have e6 : (kd != 1) = false := by simpa using n0
                    by_cases n1 : nu = 0
                    · have f1 : (nu == 0) = true := by simpa using n1
                      have f2 : (nu != 0) = false := by simpa using n1
                      cases hd : decide (nm ∈ ls) with
                      | true =>
                        have hlk := set_lookup A1.out.s nm
                        rw [hd] at hlk
                        go_wp2_with fail
                        go_ret
                        exact A1.out.post rfl
                      | false =>
                        have hlk := set_lookup A1.out.s nm
                        rw [hd] at hlk
                        have KM := Lib.hid (named_any nm w1 HZ3.out)
                        go_upto_region 26 with (go_at_call 54; refine KM.out.mono ?_; rintro r3 w3 ⟨bb, rfl, b3⟩; have A3 := Lib.hid (A1.out.below b3); obtain ⟨y0, y1, y2, y3⟩ := A3.out.cells; clear b3; rcases bb with _ | _)
                        · go_ret
                          exact A3.out.post rfl
                        · obtain ⟨W4, ls4, hput, hg4, hS4, -, -⟩ := set_put A3.out.s nm
                          have A4 := Lib.hid (A3.out.put hS4 hg4)
                          clear hg4 hS4 hlk
                          go_upto_region 27 with fail
                          clear hput y0 y1 y2 y3
                          have B5 : Below W4.heap.size W4 ((W4.alloc (.cells #[.string ⟨#[]⟩, .int .i64 0, .string ⟨#[]⟩, .int .i64 0] 75)).drew) := ((Below.refl _ W4).alloc (Nat.le_refl _) _).drew
                          have B4 : Below W4.heap.size W4 W4.drew := (Below.refl _ W4).drew
                          obtain ⟨cs9, cn9, ct9, cg9, ok9, hlk⟩ := con_lookup_all A4.out.m nm
                          have hlkA := hlk _ (B4.block bm A4.out.m.lt)
                          have hlkB := hlk _ (B5.block bm A4.out.m.lt)
                          have f0 := (A4.out.below B5).c0
                          obtain ⟨-, g1, -, -⟩ := (A4.out.below B5).cells
                          have f0' := (A4.out.below B4).c0
                          obtain ⟨-, g1', -, -⟩ := (A4.out.below B4).cells
                          clear hlk B4
                          have B5 := Lib.hid B5
                          go_region
                          all_goals
                            have B6 : Below W4.heap.size W4 ((W4.alloc (.cells #[.string cs9, .int .i64 cn9, .string ct9, .int .i64 cg9] 75)).drew) := ((Below.refl _ W4).alloc (Nat.le_refl _) _).drew
                            have A5 := Lib.hid (A4.out.below B6)
                            have C5 := Lib.hid ((Blk.new W4 #[.string cs9, .int .i64 cn9, .string ct9, .int .i64 cg9] 75).drew)
                            have hrc : W4.heap.size ≠ cb := by obtain ⟨k5, hk5⟩ := A4.out.c; have := hk5.lt; omega
                            clear B6 B5 f0 g1 f0' g1' hlkA hlkB A4
                            generalize (W4.alloc (.cells #[.string cs9, .int .i64 cn9, .string ct9, .int .i64 cg9] 75)).drew = W5 at A5 C5 ⊢
                            generalize W4.heap.size = r5 at C5 hrc ⊢
                            have e1 : W5.cell? ⟨r5, 1, none⟩ = some (.int .i64 cn9) := C5.out.cell 1
                            obtain ⟨-, -, -, y3⟩ := A5.out.cells
                            obtain ⟨k5, hk5⟩ := A5.out.c
                            have KT := Lib.hid (fun q => note_any cb (.map (some bm)) k5 q 9 W5 hk5)
                            clear hk5
                            cases ok9 with
                            | false =>
                              go_wp2_with (go_at_call 55; refine (KT.out _).mono ?_; rintro r6 w6 ⟨k6, rfl, hk6, g6⟩; have A6 := Lib.hid (A5.out.note hk6 g6); have e2 : w6.cell? ⟨r5, 2, none⟩ = some (.string ct9) := (C5.out.grown g6 hrc).cell 2; clear hk6 g6)
                              all_goals
                                go_roundw
                                case measure => simp [intOf]; omega
                                case rel => obtain ⟨k9, hk9⟩ := A6.out.c; exact ⟨k + 1, _, _, _, k9, _, by go_num, rfl, rfl, rfl, by omega, Lib.hid hk9, Lib.hid A6.out.s, Lib.hid A6.out.g⟩
                            | true =>
                              cases q7 with
                              | false =>
                                go_wp2_with (go_at_call 55; refine (KT.out _).mono ?_; rintro r6 w6 ⟨k6, rfl, hk6, g6⟩; have A6 := Lib.hid (A5.out.note hk6 g6); have e2 : w6.cell? ⟨r5, 2, none⟩ = some (.string ct9) := (C5.out.grown g6 hrc).cell 2; clear hk6 g6)
                                all_goals
                                  go_roundw
                                  case measure => simp [intOf]; omega
                                  case rel => obtain ⟨k9, hk9⟩ := A6.out.c; exact ⟨k + 1, _, _, _, k9, _, by go_num, rfl, rfl, rfl, by omega, Lib.hid hk9, Lib.hid A6.out.s, Lib.hid A6.out.g⟩
                              | true =>
                                by_cases hq : ct9.toList = q6.toList
                                · have fq : (ct9.toList == q6.toList) = true := by simpa using hq
                                  have fq2 : (ct9.toList != q6.toList) = false := by simpa using hq
                                  go_wp2_with (go_at_call 55; refine (KT.out _).mono ?_; rintro r6 w6 ⟨k6, rfl, hk6, g6⟩; have A6 := Lib.hid (A5.out.note hk6 g6); have e2 : w6.cell? ⟨r5, 2, none⟩ = some (.string ct9) := (C5.out.grown g6 hrc).cell 2; clear hk6 g6)
                                  all_goals
                                    go_roundw
                                    case measure => simp [intOf]; omega
                                    case rel => obtain ⟨k9, hk9⟩ := A6.out.c; exact ⟨k + 1, _, _, _, k9, _, by go_num, rfl, rfl, rfl, by omega, Lib.hid hk9, Lib.hid A6.out.s, Lib.hid A6.out.g⟩
                                · have fq : (ct9.toList == q6.toList) = false := by simpa using hq
                                  have fq2 : (ct9.toList != q6.toList) = true := by simpa using hq
                                  go_wp2_with (go_at_call 55; refine (KT.out _).mono ?_; rintro r6 w6 ⟨k6, rfl, hk6, g6⟩; have A6 := Lib.hid (A5.out.note hk6 g6); have e2 : w6.cell? ⟨r5, 2, none⟩ = some (.string ct9) := (C5.out.grown g6 hrc).cell 2; clear hk6 g6)
                                  all_goals
                                    go_ret
                                    exact A6.out.post rfl
                    · have f1 : (nu == 0) = false := by simpa using n1
                      have f2 : (nu != 0) = true := by simpa using n1
                      go_wp2_with fail
                      go_ret
                      exact A1.out.post rfl
                  · have e5 : (kd == 1) = false := by simpa using n0
                    have e6 : (kd != 1) = true := by simpa using n0
                    by_cases us : nm.toList = []
                    · have fsa : (nm.toList == ([] : List UInt8)) = true := by simpa using us
                      have fsb : (nm.toList != ([] : List UInt8)) = false := by simpa using us
                      by_cases ul : vl = 0
                      · have fl : ((vl : Int) == 0) = true := by simp; omega
                        have fl2 : (vl == 0) = true := by simpa using ul
                        have fl3 : ((vl : Int) != 0) = false := by simp; omega
                        have fl4 : (vl != 0) = false := by simpa using ul
                        by_cases uk : kd = 3
                        · have f3a : (kd == 3) = true := by simpa using uk
                          have f3b : (kd != 3) = false := by simpa using uk
                          by_cases ua : nu < 0
                          · have fu : decide (nu < 0) = true := by simpa using ua
                            go_wp2_with fail
                            go_ret
                            exact A1.out.post rfl
                          · have fu : decide (nu < 0) = false := by simpa using ua
                            by_cases ub : 255 < nu
                            · have fv : decide (255 < nu) = true := by simpa using ub
                              go_wp2_with fail
                              go_ret
                              exact A1.out.post rfl
                            · have fv : decide (255 < nu) = false := by simpa using ub
                              have hkc : (k : Int) ≤ (c : Int) := by have := HC.out; omega
                              clear y0 y1 y2 y3
                              obtain ⟨y0, y1, y2, y3⟩ := A1.out.cells
                              go_upto_block 2 with fail
                              clear y0 y1 y2 y3
                              go_wp2
                              go_loopw [13, 105] (fun _ j wj => ∃ (j0 : Nat), j = .int .i64 j0 ∧ j0 ≤ k ∧ Hid (ASt w wj cb bm mm r2 #[.int .i64 kd, .string nm, .int .i64 nu, .slice va vl vc, .int .i64 z4, .string z5, .int .i64 z6, .slice z7 z7a z7b, .slice z8 z8a z8b, .slice z9 z9a z9b, .slice zx zxa zxb] ls)) (fun _ j _ => k - (intOf j).toNat)
                              case atStart => exact ⟨0, rfl, Nat.zero_le _, A1⟩
                              case round =>
                                clear A1
                                obtain ⟨j0, rfl, hj, A1⟩ := hrel
                                by_cases hjl : j0 < k
                                · have hjlt2 : decide ((j0 : Int) < (k : Int)) = true := by simp; omega
                                  have hjlt3 : decide (j0 < k) = true := by simp; omega
                                  have hj0 : (0 : Int) ≤ (j0 : Int) := by omega
                                  obtain ⟨x2, hx2⟩ : ∃ x2, L[j0]? = some x2 := ⟨_, List.getElem?_eq_getElem (by rw [HN.out]; omega)⟩
                                  obtain ⟨va', vc', z4', z6', z5', z7', z8', z9', zx', z7a', z7b', z8a', z8b', z9a', z9b', zxa', zxb', hcs', -⟩ := hAt2.out j0 x2 hx2
                                  have hcw' := hcs'.grown A1.out.g (fun e => (hbad.out (o' + j0 * 11 + 1)).1 x2.name (e ▸ hcs' 1 _ rfl)) hp
                                  have c0 := hcw' 0 _ rfl
                                  have c1 := hcw' 1 _ rfl
                                  have c2 := hcw' 2 _ rfl
                                  have c3 := hcw' 3 _ rfl
                                  have c4 := hcw' 4 _ rfl
                                  have c5 := hcw' 5 _ rfl
                                  have c6 := hcw' 6 _ rfl
                                  have c7 := hcw' 7 _ rfl
                                  have c8 := hcw' 8 _ rfl
                                  have c9 := hcw' 9 _ rfl
                                  have cx := hcw' 10 _ rfl
                                  rw [Nat.add_zero] at c0
                                  generalize x2.kind = kd' at c0
                                  generalize x2.name = nm' at c1
                                  generalize x2.num = nu' at c2
                                  generalize x2.vars.length = vl' at c3
                                  clear hcs' hcw' hx2
                                  go_upto_region 21 with fail
                                  have hB9 : Below wr.heap.size wr (wr.alloc (.cells #[.int .i64 kd', .string nm', .int .i64 nu', .slice va' vl' vc', .int .i64 z4', .string z5', .int .i64 z6', .slice z7' z7a' z7b', .slice z8' z8a' z8b', .slice z9' z9a' z9b', .slice zx' zxa' zxb'] 52)) := (Below.refl _ wr).alloc (Nat.le_refl _) _
                                  have hR9 := Blk.new wr #[.int .i64 kd', .string nm', .int .i64 nu', .slice va' vl' vc', .int .i64 z4', .string z5', .int .i64 z6', .slice z7' z7a' z7b', .slice z8' z8a' z8b', .slice z9' z9a' z9b', .slice zx' zxa' zxb'] 52
                                  have A9 := Lib.hid (A1.out.below hB9)
                                  generalize wr.alloc (.cells #[.int .i64 kd', .string nm', .int .i64 nu', .slice va' vl' vc', .int .i64 z4', .string z5', .int .i64 z6', .slice z7' z7a' z7b', .slice z8' z8a' z8b', .slice z9' z9a' z9b', .slice zx' zxa' zxb'] 52) = W9 at A9 hR9 ⊢
                                  generalize wr.heap.size = r9 at hR9 ⊢
                                  have e9 : W9.cell? ⟨r9, 2, none⟩ = some (.int .i64 nu') := hR9.cell 2
                                  clear hB9 hR9 c0 c1 c2 c3 c4 c5 c6 c7 c8 c9 cx A1
                                  by_cases hnn : nu' = nu
                                  · have e91 : (nu' == nu) = true := by simpa using hnn
                                    go_wp2_with fail
                                    go_ret
                                    exact A9.out.post rfl
                                  · have e91 : (nu' == nu) = false := by simpa using hnn
                                    go_wp2_with fail
                                    go_roundw
                                    case rel => exact ⟨j0 + 1, by go_num, by omega, A9⟩
                                    case measure => simp [intOf]; omega
                                · have hjlt2 : decide ((j0 : Int) < (k : Int)) = false := by simp; omega
                                  have hjlt3 : decide (j0 < k) = false := by simp; omega
                                  go_wp2_with fail
                                  go_roundw
                                  case measure => simp [intOf]; omega
                                  case rel => obtain ⟨k9, hk9⟩ := A1.out.c; exact ⟨k + 1, _, _, _, k9, _, by go_num, rfl, rfl, rfl, by omega, Lib.hid hk9, Lib.hid A1.out.s, Lib.hid A1.out.g⟩
                        · have f3a : (kd == 3) = false := by simpa using uk
                          have f3b : (kd != 3) = true := by simpa using uk
                          have hkc : (k : Int) ≤ (c : Int) := by have := HC.out; omega
                          clear y0 y1 y2 y3
                          obtain ⟨y0, y1, y2, y3⟩ := A1.out.cells
                          go_upto_block 2 with fail
                          clear y0 y1 y2 y3
                          go_wp2
                          go_loopw [13, 105] (fun _ j wj => ∃ (j0 : Nat), j = .int .i64 j0 ∧ j0 ≤ k ∧ Hid (ASt w wj cb bm mm r2 #[.int .i64 kd, .string nm, .int .i64 nu, .slice va vl vc, .int .i64 z4, .string z5, .int .i64 z6, .slice z7 z7a z7b, .slice z8 z8a z8b, .slice z9 z9a z9b, .slice zx zxa zxb] ls)) (fun _ j _ => k - (intOf j).toNat)
                          case atStart => exact ⟨0, rfl, Nat.zero_le _, A1⟩
                          case round =>
                            clear A1
                            obtain ⟨j0, rfl, hj, A1⟩ := hrel
                            by_cases hjl : j0 < k
                            · have hjlt2 : decide ((j0 : Int) < (k : Int)) = true := by simp; omega
                              have hjlt3 : decide (j0 < k) = true := by simp; omega
                              have hj0 : (0 : Int) ≤ (j0 : Int) := by omega
                              obtain ⟨x2, hx2⟩ : ∃ x2, L[j0]? = some x2 := ⟨_, List.getElem?_eq_getElem (by rw [HN.out]; omega)⟩
                              obtain ⟨va', vc', z4', z6', z5', z7', z8', z9', zx', z7a', z7b', z8a', z8b', z9a', z9b', zxa', zxb', hcs', -⟩ := hAt2.out j0 x2 hx2
                              have hcw' := hcs'.grown A1.out.g (fun e => (hbad.out (o' + j0 * 11 + 1)).1 x2.name (e ▸ hcs' 1 _ rfl)) hp
                              have c0 := hcw' 0 _ rfl
                              have c1 := hcw' 1 _ rfl
                              have c2 := hcw' 2 _ rfl
                              have c3 := hcw' 3 _ rfl
                              have c4 := hcw' 4 _ rfl
                              have c5 := hcw' 5 _ rfl
                              have c6 := hcw' 6 _ rfl
                              have c7 := hcw' 7 _ rfl
                              have c8 := hcw' 8 _ rfl
                              have c9 := hcw' 9 _ rfl
                              have cx := hcw' 10 _ rfl
                              rw [Nat.add_zero] at c0
                              generalize x2.kind = kd' at c0
                              generalize x2.name = nm' at c1
                              generalize x2.num = nu' at c2
                              generalize x2.vars.length = vl' at c3
                              clear hcs' hcw' hx2
                              go_upto_region 21 with fail
                              have hB9 : Below wr.heap.size wr (wr.alloc (.cells #[.int .i64 kd', .string nm', .int .i64 nu', .slice va' vl' vc', .int .i64 z4', .string z5', .int .i64 z6', .slice z7' z7a' z7b', .slice z8' z8a' z8b', .slice z9' z9a' z9b', .slice zx' zxa' zxb'] 52)) := (Below.refl _ wr).alloc (Nat.le_refl _) _
                              have hR9 := Blk.new wr #[.int .i64 kd', .string nm', .int .i64 nu', .slice va' vl' vc', .int .i64 z4', .string z5', .int .i64 z6', .slice z7' z7a' z7b', .slice z8' z8a' z8b', .slice z9' z9a' z9b', .slice zx' zxa' zxb'] 52
                              have A9 := Lib.hid (A1.out.below hB9)
                              generalize wr.alloc (.cells #[.int .i64 kd', .string nm', .int .i64 nu', .slice va' vl' vc', .int .i64 z4', .string z5', .int .i64 z6', .slice z7' z7a' z7b', .slice z8' z8a' z8b', .slice z9' z9a' z9b', .slice zx' zxa' zxb'] 52) = W9 at A9 hR9 ⊢
                              generalize wr.heap.size = r9 at hR9 ⊢
                              have e9 : W9.cell? ⟨r9, 2, none⟩ = some (.int .i64 nu') := hR9.cell 2
                              clear hB9 hR9 c0 c1 c2 c3 c4 c5 c6 c7 c8 c9 cx A1
                              by_cases hnn : nu' = nu
                              · have e91 : (nu' == nu) = true := by simpa using hnn
                                go_wp2_with fail
                                go_ret
                                exact A9.out.post rfl
                              · have e91 : (nu' == nu) = false := by simpa using hnn
                                go_wp2_with fail
                                go_roundw
                                case rel => exact ⟨j0 + 1, by go_num, by omega, A9⟩
                                case measure => simp [intOf]; omega
                            · have hjlt2 : decide ((j0 : Int) < (k : Int)) = false := by simp; omega
                              have hjlt3 : decide (j0 < k) = false := by simp; omega
                              go_wp2_with fail
                              go_roundw
                              case measure => simp [intOf]; omega
                              case rel => obtain ⟨k9, hk9⟩ := A1.out.c; exact ⟨k + 1, _, _, _, k9, _, by go_num, rfl, rfl, rfl, by omega, Lib.hid hk9, Lib.hid A1.out.s, Lib.hid A1.out.g⟩
                      · have fl : ((vl : Int) == 0) = false := by simp; omega
                        have fl2 : (vl == 0) = false := by simpa using ul
                        have fl3 : ((vl : Int) != 0) = true := by simp; omega
                        have fl4 : (vl != 0) = true := by simpa using ul
                        go_wp2_with fail
                        go_ret
                        exact A1.out.post rfl
                    · have fsa : (nm.toList == ([] : List UInt8)) = false := by simpa using us
                      have fsb : (nm.toList != ([] : List UInt8)) = true := by simpa using us
                      go_wp2_with fail
                      go_ret
                      exact A1.out.post rfl
                · have e9 : (kd == q5) = false := by simpa using m1
                  have ea : (kd != q5) = true := by simpa using m1
                  go_wp2_with fail
                  go_ret
                  exact A1.out.post rfl
    · have hlt2 : decide ((k : Int) < (N : Int)) = false := by simp; omega
      have hlt3 : decide (k < N) = false := by simp; omega
      obtain rfl : N = k := by omega
      cases hq : decide ((0 : Int) < (N : Int)) with
      | false =>
        go_wp2
        go_ret
        exact ⟨_, _, rfl, HRR.out, HG.out⟩
      | true =>
        go_wp2
        go_ret
        exact ⟨_, _, rfl, HRR.out, HG.out⟩
end Go.Proofs.Ytkcgchpflppmnaa
