/- core: a look at an expression notes some fault. -/
import Derived.Test.YtkcgchpflppmnaaOeU
namespace Go.Proofs.Ytkcgchpflppmnaa
open Go.RowKit
set_option linter.unusedSimpArgs false
set_option linter.unusedVariables false

set_option maxRecDepth 100000 in
set_option maxHeartbeats 16000000 in
theorem expr_stepA (w0 : World) (cb bm : Nat) (d : Nat)
    (hexpr : ∀ (x : Ex d) (b o : Nat) (W : World) (fs : List (List ByteArray)) (v : Value), b < w0.heap.size → ExAt w0 d b o x → CapAt w0 d b o → Bd d x → Sm d x → Below w0.heap.size w0 W → w0.heap.size ≤ cb → FrAt W v fs → FrSm fs → (∃ k, Blk W cb #[.map (some bm), .int .i64 k]) → WMap W bm ConV →
      Calls Try.prog 36 #[.pointer (some ⟨cb, 0, none⟩), .pointer (some ⟨b, o, none⟩), v] W fun r W' => NotePost W cb (.map (some bm)) r W')
    (e : ExN (Ex d)) (b o : Nat) (wi : World) (fs : List (List ByteArray)) (v : Value) (hb : b < w0.heap.size) (h : ExAt w0 (d + 1) b o e) (hcap : CapAt w0 (d + 1) b o) (hbd : Bd (d + 1) e) (hs : Sm (d + 1) e) (hw : Below w0.heap.size w0 wi) (hcb : w0.heap.size ≤ cb) (hf : FrAt wi v fs) (hn : FrSm fs) (hc : ∃ k, Blk wi cb #[.map (some bm), .int .i64 k]) (hm : WMap wi bm ConV) (hab : e.kind ≤ 5) :
    Calls Try.prog 36 #[.pointer (some ⟨cb, 0, none⟩), .pointer (some ⟨b, o, none⟩), v] wi fun r W' => NotePost wi cb (.map (some bm)) r W' := by
  have A : XSt w0 wi wi cb bm := ⟨hc, grown_reflE _ _, hw, hm, by obtain ⟨k, hk⟩ := hc; exact map_ne hm hk (by simp), hcb⟩
  have hbad := A.bad
  have hsh : ∃ p, v = .pointer p := by
    rcases fs with _ | ⟨ns, r⟩
    · exact ⟨none, hf⟩
    · obtain ⟨b, vs, vo, h1, -⟩ := hf; exact ⟨_, h1⟩
  obtain ⟨pv, rfl⟩ := hsh
  obtain ⟨cs, hcs, ps, bs, es, ls, rfl, h1, ⟨q4, r4, rfl, h2⟩, ⟨q5, r5, rfl, h3⟩, ⟨q6, r6, rfl, h4⟩⟩ := h
  obtain ⟨q3, r3, rfl, h1'⟩ := id h1
  obtain ⟨hroom, k4, k5, k6⟩ := hcap.parts (hcs 4 _ rfl) (hcs 5 _ rfl) (hcs 6 _ rfl)
  obtain ⟨N3, hN3⟩ : ∃ N, e.params.length = N := ⟨_, rfl⟩
  obtain ⟨N4, hN4⟩ : ∃ N, e.binds.length = N := ⟨_, rfl⟩
  obtain ⟨N5, hN5⟩ : ∃ N, e.args.length = N := ⟨_, rfl⟩
  obtain ⟨N6, hN6⟩ : ∃ N, e.alts.length = N := ⟨_, rfl⟩
  have m3 : N3 ≤ 10000000 := hN3 ▸ hs.1
  have m4 : N4 ≤ 10000000 := hN4 ▸ hs.2.1.1
  have m5 : N5 ≤ 10000000 := hN5 ▸ hs.2.2.1.1
  have m6 : N6 ≤ 10000000 := hN6 ▸ hs.2.2.2.1
  have hz1 : e.name.size ≤ 1000000000000000 := Nat.le_trans hbd.1 reach_le
  have hz2 : ∀ s ∈ e.params, s.size ≤ 1000000000000000 := fun s hs => Nat.le_trans (hbd.2.1.2 s hs) reach_le
  have hz3 : ∀ s ∈ e.binds.map (·.1), s.size ≤ 1000000000000000 := fun s hs => by
    obtain ⟨x, hx, rfl⟩ := List.mem_map.1 hs
    exact Nat.le_trans (hbd.2.2.1.2 x hx).1 reach_le
  have hz4 : ∀ x ∈ e.alts, x.vars.length ≤ 10000000 ∧ (∀ s ∈ x.vars, s.size ≤ 1000000000000000) ∧ x.name.size ≤ 1000000000000000 := fun x hx =>
    ⟨(hs.2.2.2.2 x hx).1, fun s hs => Nat.le_trans ((hbd.2.2.2.2.2 x hx).2.1.2 s hs) reach_le, Nat.le_trans (hbd.2.2.2.2.2 x hx).1 reach_le⟩
  rw [hN3] at hcs h1
  rw [hN4] at hcs k4
  rw [hN5] at hcs k5
  rw [hN6] at hcs k6 hroom
  have HAlS := alts_of (show SlAt w0 11 _ (.slice q6 N6 r6) e.alts from ⟨q6, r6, by rw [hN6], h4⟩)
  have HBN := names_of (show SlAt w0 8 _ (.slice q4 N4 r4) e.binds from ⟨q4, r4, by rw [hN4], h2⟩)
  have hbl : (e.binds.map (·.1)).length = N4 := by rw [List.length_map, hN4]
  obtain ⟨kd, hkd⟩ : ∃ k, e.kind = k := ⟨_, rfl⟩
  obtain ⟨nm, hnm⟩ : ∃ k, e.name = k := ⟨_, rfl⟩
  obtain ⟨nu, hnu⟩ : ∃ k, e.num = k := ⟨_, rfl⟩
  obtain ⟨pns, hpns⟩ : ∃ k, e.params = k := ⟨_, rfl⟩
  obtain ⟨bns, hbns⟩ : ∃ k, e.binds.map (·.1) = k := ⟨_, rfl⟩
  rw [hkd] at hcs hab
  rw [hnm] at hcs hz1
  rw [hnu] at hcs
  rw [hpns] at h1 hz2 hN3
  rw [hbns] at HBN hz3 hbl
  have hcl := fun j c hj W (hW : Below w0.heap.size w0 W) => (hW.cell (p := ⟨b, o + j, none⟩) hb).trans (hcs j c hj)
  have C0 := Lib.hid (show ∀ W, Below w0.heap.size w0 W → W.cell? ⟨b, o, none⟩ = _ from hcl 0 _ rfl)
  have C1 := Lib.hid (hcl 1 _ rfl)
  have C2 := Lib.hid (hcl 2 _ rfl)
  have C3 := Lib.hid (hcl 3 _ rfl)
  have C4 := Lib.hid (hcl 4 _ rfl)
  have C5 := Lib.hid (hcl 5 _ rfl)
  have C6 := Lib.hid (hcl 6 _ rfl)
  have KOn := Lib.hid (fun W (hW : Below w0.heap.size w0 W) => only_n b o kd nu nm q3 q4 q5 q6 N3 r3 N4 r4 N5 r5 N6 r6 W (Nat.lt_of_lt_of_le hb hW.size) (hcs.below hW hb))
  have KOi := Lib.hid (fun W (hW : Below w0.heap.size w0 W) => only_i b o kd nu nm q3 q4 q5 q6 N3 r3 N4 r4 N5 r5 N6 r6 W (Nat.lt_of_lt_of_le hb hW.size) (hcs.below hW hb))
  have KOna := Lib.hid (fun W (hW : Below w0.heap.size w0 W) => only_na b o kd nu nm q3 q4 q5 q6 N3 r3 N4 r4 N5 r5 N6 r6 W (Nat.lt_of_lt_of_le hb hW.size) (hcs.below hW hb))
  have KOpa := Lib.hid (fun W (hW : Below w0.heap.size w0 W) => only_pa b o kd nu nm q3 q4 q5 q6 N3 r3 N4 r4 N5 r5 N6 r6 W (Nat.lt_of_lt_of_le hb hW.size) (hcs.below hW hb))
  have KOa := Lib.hid (fun W (hW : Below w0.heap.size w0 W) => only_a b o kd nu nm q3 q4 q5 q6 N3 r3 N4 r4 N5 r5 N6 r6 W (Nat.lt_of_lt_of_le hb hW.size) (hcs.below hW hb))
  have KOba := Lib.hid (fun W (hW : Below w0.heap.size w0 W) => only_ba b o kd nu nm q3 q4 q5 q6 N3 r3 N4 r4 N5 r5 N6 r6 W (Nat.lt_of_lt_of_le hb hW.size) (hcs.below hW hb))
  have KOac := Lib.hid (fun W (hW : Below w0.heap.size w0 W) => only_ac b o kd nu nm q3 q4 q5 q6 N3 r3 N4 r4 N5 r5 N6 r6 W (Nat.lt_of_lt_of_le hb hW.size) (hcs.below hW hb))
  have KM := Lib.hid (fun W => named_any nm W hz1)
  have KAr := Lib.hid (fun W => arity_any nm W)
  have KNp := Lib.hid (fun W (hW : Below w0.heap.size w0 W) => coreNames_any (.slice q3 N3 r3) pns W (h1.below hW) (by omega) hz2)
  have KBi := Lib.hid (fun W (hW : Below w0.heap.size w0 W) => cbinds_any (.slice q4 N4 r4) bns W (HBN.below hW) (by omega))
  have HAl := Lib.hid HAlS
  have HZ4 := Lib.hid hz4
  have HRoom := Lib.hid hroom
  have H1 := Lib.hid h1
  have FrI := Lib.hid (fun W (hW : wi.grownBy W (some cb)) => FrAt.grown hW hbad fs (.pointer pv) hf)
  have HFN := Lib.hid hn
  have HZ3 := Lib.hid hz3
  have HN4 := Lib.hid hN4
  have HN5 := Lib.hid hN5
  have HN6 := Lib.hid hN6
  have HPL := Lib.hid hN3
  have HBL := Lib.hid hbl
  have H2 := Lib.hid (show ∀ k x, e.binds[k]? = some x → ∃ p o', q4 = some ⟨p, o', none⟩ ∧ p < w0.heap.size ∧ ExAt w0 d p (o' + k * 8 + 1) x.2 ∧ CapAt w0 d p (o' + k * 8 + 1) from fun k x hx => by
    have hk := (List.getElem?_eq_some_iff.1 hx).1
    obtain ⟨p, o', hq, hp, hat⟩ := h2 (Nat.lt_of_le_of_lt (Nat.zero_le _) hk)
    obtain ⟨p2, o2, hq2, -, hcp⟩ := k4 (by omega)
    rw [hq] at hq2
    simp only [Option.some.injEq, Addr.mk.injEq, and_true] at hq2
    obtain ⟨rfl, rfl⟩ := hq2
    exact ⟨p, o', hq, hp, (hat k x hx).2, hcp k (by omega)⟩)
  have H3 := Lib.hid (show ∀ k x, e.args[k]? = some x → ∃ p o', q5 = some ⟨p, o', none⟩ ∧ p < w0.heap.size ∧ ExAt w0 d p (o' + k * 7) x ∧ CapAt w0 d p (o' + k * 7) from fun k x hx => by
    have hk := (List.getElem?_eq_some_iff.1 hx).1
    obtain ⟨p, o', hq, hp, hat⟩ := h3 (Nat.lt_of_le_of_lt (Nat.zero_le _) hk)
    obtain ⟨p2, o2, hq2, -, hcp⟩ := k5 (by omega)
    rw [hq] at hq2
    simp only [Option.some.injEq, Addr.mk.injEq, and_true] at hq2
    obtain ⟨rfl, rfl⟩ := hq2
    exact ⟨p, o', hq, hp, hat k x hx, hcp k (by omega)⟩)
  have H4 := Lib.hid (show ∀ k x, e.alts[k]? = some x → ∃ p o' aw cw, q6 = some ⟨p, o', none⟩ ∧ p < w0.heap.size ∧ w0.cell? ⟨p, o' + k * 11 + 3, none⟩ = some (.slice aw x.vars.length cw) ∧ Txs w0 (.slice aw x.vars.length cw) x.vars ∧ ExAt w0 d p (o' + k * 11 + 4) x.e ∧ CapAt w0 d p (o' + k * 11 + 4) from fun k x hx => by
    have hk := (List.getElem?_eq_some_iff.1 hx).1
    obtain ⟨p, o', hq, hp, hat⟩ := h4 (Nat.lt_of_le_of_lt (Nat.zero_le _) hk)
    obtain ⟨p2, o2, hq2, -, hcp⟩ := k6 (by omega)
    rw [hq] at hq2
    simp only [Option.some.injEq, Addr.mk.injEq, and_true] at hq2
    obtain ⟨rfl, rfl⟩ := hq2
    obtain ⟨vs, hcv, htx, hex⟩ := hat k x hx
    obtain ⟨aw, cw, rfl, -⟩ := id htx
    exact ⟨p, o', aw, cw, hq, hp, hcv 3 _ rfl, htx, hex, hcp k (by omega)⟩)
  have HBD := Lib.hid hbd
  have HS := Lib.hid hs
  have HE := Lib.hid hexpr
  have HA := Lib.hid A
  clear hc hm hw hcb hcap hbad h1' h1 h2 h3 h4 hcs hcl hz1 hz2 hz3 hz4 HAlS HBN hroom k4 k5 k6 hf hn hN3 hN4 hN5 hN6 hbl hbd hs hexpr hb hkd hnm hnu hpns hbns A
  have x0 := C0.out _ HA.out.b
  go_enter Try.func36, Try.ntmps36
  go_upto_block 0 with fail
  clear x0
  go_cut [6, 7] (fun s6 s7 wx => ∃ (fs' : List (List ByteArray)) (q7 : Bool) (p6 : Option Addr), s6 = .pointer p6 ∧ s7 = .bool q7 ∧ Hid (FrAt wx (.pointer p6) fs') ∧ Hid (FrSm fs') ∧ Hid (XSt w0 wi wx cb bm))
  case first =>
    have A := HA
    clear HA
    by_cases h1 : kd = 1
    · as_aux_lemma =>
        subst h1
        clear C0 C2 C3 C4 C5 C6 KOi KOna KOpa KOa KOba KOac KAr KNp KBi HAl HZ4 HRoom H1 HZ3 HN4 HN5 HN6 HPL HBL H2 H3 H4 HBD HS HE m3 m4 m5 m6
        go_upto_region 4 with fail
        go_cut [7] (fun s7 wx => ∃ q7 : Bool, s7 = .bool q7 ∧ Hid (XSt w0 wi wx cb bm))
        case first =>
          as_aux_lemma =>
            have x1 := C1.out _ A.out.b
            go_wp2_with (first | (go_at_call 53; refine (KOn.out _ A.out.b).mono ?_; rintro r1 w1 ⟨b1, rfl, k1⟩; replace A := Lib.hid (A.out.below k1); clear k1; have x1 := C1.out _ A.out.b; rcases b1 with _ | _) | (go_at_call 54; refine (KM.out _).mono ?_; rintro r2 w2 ⟨b2, rfl, k2⟩; replace A := Lib.hid (A.out.below k2); clear k2;  rcases b2 with _ | _))
            all_goals
              go_meet
              exact ⟨_, rfl, A⟩
        case rest =>
          as_aux_lemma =>
            obtain ⟨q7, rfl, A⟩ := hcut
            have x1 := C1.out _ A.out.b
            cases q7 with
            | false =>
              go_wp2_with (first | (go_at_call 55; refine (A.out.noteC _ _).mono ?_; rintro r3 w3 ⟨rfl, k3⟩; replace A := Lib.hid k3; clear k3))
              all_goals
                go_meet
                exact ⟨fs, _, _, rfl, rfl, Lib.hid (FrI.out _ A.out.g), HFN, A⟩
            | true =>
              go_wp2_with (first | (go_at_call 56; refine (hasS _ fs nm _ (FrI.out _ A.out.g) HFN.out).mono ?_; rintro r4 w4 ⟨b4, rfl, k4⟩; replace A := Lib.hid (A.out.below k4); clear k4; rcases b4 with _ | _) | (go_at_call 55; refine (A.out.noteC _ _).mono ?_; rintro r3 w3 ⟨rfl, k3⟩; replace A := Lib.hid k3; clear k3))
              all_goals
                go_meet
                exact ⟨fs, _, _, rfl, rfl, Lib.hid (FrI.out _ A.out.g), HFN, A⟩
    have e1 : (kd == 1) = false := by simpa using h1
    by_cases h2 : kd = 2
    · as_aux_lemma =>
        subst h2
        clear C0 C1 C2 C3 C4 C5 C6 KOn KOna KOpa KOa KOba KOac KM KAr KNp KBi HAl HZ4 HRoom H1 HZ3 HN4 HN5 HN6 HPL HBL H2 H3 H4 HBD HS HE m3 m4 m5 m6
        as_aux_lemma =>
          go_wp2_with (first | (go_at_call 53; refine (KOi.out _ A.out.b).mono ?_; rintro r1 w1 ⟨b1, rfl, k1⟩; replace A := Lib.hid (A.out.below k1); clear k1;  rcases b1 with _ | _))
          all_goals
            go_meet
            exact ⟨fs, _, _, rfl, rfl, Lib.hid (FrI.out _ A.out.g), HFN, A⟩
    have e2 : (kd == 2) = false := by simpa using h2
    by_cases h3 : kd = 3
    · as_aux_lemma =>
        subst h3
        clear C0 C1 C3 C4 C5 C6 KOn KOna KOpa KOa KOba KOac KM KAr KNp KBi HAl HZ4 HRoom H1 HZ3 HN4 HN5 HN6 HPL HBL H2 H3 H4 HBD HS HE m3 m4 m5 m6
        have x2 := C2.out _ A.out.b
        by_cases c1 : 0 ≤ nu
        · have fc1 : decide (0 ≤ nu) = true := by simpa using c1
          by_cases c2 : nu ≤ 255
          · have fc2 : decide (nu ≤ 255) = true := by simpa using c2
            as_aux_lemma =>
              go_wp2_with (first | (go_at_call 53; refine (KOi.out _ A.out.b).mono ?_; rintro r1 w1 ⟨b1, rfl, k1⟩; replace A := Lib.hid (A.out.below k1); clear k1; have x2 := C2.out _ A.out.b; rcases b1 with _ | _))
              all_goals
                go_meet
                exact ⟨fs, _, _, rfl, rfl, Lib.hid (FrI.out _ A.out.g), HFN, A⟩
          · have fc2 : decide (nu ≤ 255) = false := by simpa using c2
            as_aux_lemma =>
              go_wp2_with (first | (go_at_call 53; refine (KOi.out _ A.out.b).mono ?_; rintro r1 w1 ⟨b1, rfl, k1⟩; replace A := Lib.hid (A.out.below k1); clear k1; have x2 := C2.out _ A.out.b; rcases b1 with _ | _))
              all_goals
                go_meet
                exact ⟨fs, _, _, rfl, rfl, Lib.hid (FrI.out _ A.out.g), HFN, A⟩
        · have fc1 : decide (0 ≤ nu) = false := by simpa using c1
          as_aux_lemma =>
            go_wp2_with (first | (go_at_call 53; refine (KOi.out _ A.out.b).mono ?_; rintro r1 w1 ⟨b1, rfl, k1⟩; replace A := Lib.hid (A.out.below k1); clear k1; have x2 := C2.out _ A.out.b; rcases b1 with _ | _))
            all_goals
              go_meet
              exact ⟨fs, _, _, rfl, rfl, Lib.hid (FrI.out _ A.out.g), HFN, A⟩
    have e3 : (kd == 3) = false := by simpa using h3
    by_cases h4 : kd = 4
    · as_aux_lemma =>
        subst h4
        clear C0 C2 C3 C4 C6 KOn KOi KOpa KOa KOba KOac KAr KNp KBi HAl HZ4 HRoom H1 HZ3 HN4 HN5 HN6 HPL HBL H2 H3 H4 HBD HS HE m3 m4 m5 m6
        go_upto_region 11 with fail
        go_cut [7] (fun s7 wx => ∃ q7 : Bool, s7 = .bool q7 ∧ Hid (XSt w0 wi wx cb bm))
        case first =>
          as_aux_lemma =>
            have x1 := C1.out _ A.out.b
            go_wp2_with (first | (go_at_call 53; refine (KOna.out _ A.out.b).mono ?_; rintro r1 w1 ⟨b1, rfl, k1⟩; replace A := Lib.hid (A.out.below k1); clear k1; have x1 := C1.out _ A.out.b; rcases b1 with _ | _) | (go_at_call 54; refine (KM.out _).mono ?_; rintro r2 w2 ⟨b2, rfl, k2⟩; replace A := Lib.hid (A.out.below k2); clear k2;  rcases b2 with _ | _))
            all_goals
              go_meet
              exact ⟨_, rfl, A⟩
        case rest =>
          as_aux_lemma =>
            obtain ⟨q7, rfl, A⟩ := hcut
            rename World => W4
            go_upto_region 12 with fail
            have B5 : Below W4.heap.size W4 ((W4.alloc (.cells #[.string ⟨#[]⟩, .int .i64 0, .string ⟨#[]⟩, .int .i64 0] 75)).drew) := ((Below.refl _ W4).alloc (Nat.le_refl _) _).drew
            have B4 : Below W4.heap.size W4 W4.drew := (Below.refl _ W4).drew
            obtain ⟨cs9, cn9, ct9, cg9, ok9, hlk⟩ := con_lookup_all A.out.m nm
            have hlkA := hlk _ (B4.block bm A.out.m.lt)
            have hlkB := hlk _ (B5.block bm A.out.m.lt)
            have f0 := (A.out.below B5).c0
            have g1 := C1.out _ (A.out.below B5).b
            have f0' := (A.out.below B4).c0
            have g1' := C1.out _ (A.out.below B4).b
            have B5 := Lib.hid B5
            clear hlk B4
            go_region
            all_goals
              have B6 : Below W4.heap.size W4 ((W4.alloc (.cells #[.string cs9, .int .i64 cn9, .string ct9, .int .i64 cg9] 75)).drew) := ((Below.refl _ W4).alloc (Nat.le_refl _) _).drew
              have C9 := Lib.hid ((Blk.new W4 #[.string cs9, .int .i64 cn9, .string ct9, .int .i64 cg9] 75).drew)
              clear B5 f0 g1 f0' g1' hlkA hlkB
              have hne : W4.heap.size ≠ cb := by obtain ⟨kk, hkk⟩ := A.out.c; have := hkk.lt; omega
              replace A := Lib.hid (A.out.below B6)
              clear B6
              generalize (W4.alloc (.cells #[.string cs9, .int .i64 cn9, .string ct9, .int .i64 cg9] 75)).drew = W5 at A C9 ⊢
              generalize W4.heap.size = rk at C9 hne ⊢
              have e1 : W5.drew.cell? ⟨rk, 1, none⟩ = some (.int .i64 cn9) := C9.out.drew.cell 1
              have e5 : W5.drew.cell? ⟨b, o + 5, none⟩ = _ := C5.out _ (A.out.below ((Below.refl _ W5).drew)).b
              replace A := Lib.hid (A.out.below ((Below.refl _ W5).drew))
              go_upto_region 13 with fail
              cases ok9 with
              | false =>
                have s0 : W5.drew.cell? ⟨rk, 1, none⟩ = some (.int .i64 cn9) ∧ W5.drew.cell? ⟨b, o + 5, none⟩ = some (.slice q5 N5 r5) ∧ XSt w0 wi W5.drew cb bm := ⟨e1, e5, A.out⟩
                clear A e1 e5
                refine wp_region_class (fun wx => wx.cell? ⟨rk, 1, none⟩ = some (.int .i64 cn9) ∧ wx.cell? ⟨b, o + 5, none⟩ = some (.slice q5 N5 r5) ∧ XSt w0 wi wx cb bm) (by kernel_rfl) (by kernel_rfl) (by assumption) ?_
                repeat (first | go_big_quiet_skip | (go_big_quiet_want; first | (go_big_quiet_op; go_big_quiet_on) | (apply Exists.intro; refine ⟨fun wx hC => ?_, ?_⟩; (focus (obtain ⟨g0, g1, g2⟩ := hC; unfold Oper.quietAt; go_simp; all_goals exact rfl)); go_simp; go_big_quiet_on) | (apply Exists.intro; refine ⟨fun wx hC => ?_, ?_⟩; (focus (unfold Oper.quietAt; go_simp; (refine (hC.2.2.noteG _ _).mono ?_; rintro e8 w8 ⟨rfl, k8, g8⟩; exact ⟨rfl, cell_grown g8 hC.1 hne (World.block_lt_of_cell? _ ⟨rk, 1, none⟩ hC.1), C5.out _ k8.b, k8⟩))); go_simp; go_big_quiet_on)))
                refine wpQuiet_nil ?_
                intro wz hCz
                go_wp2_with fail
                go_meet
                exact ⟨fs, _, _, rfl, rfl, Lib.hid (FrI.out _ hCz.2.2.g), HFN, Lib.hid hCz.2.2⟩
              | true =>
                have hS0 : W5.drew.cell? ⟨rk, 1, none⟩ = some (.int .i64 cn9) ∧ W5.drew.cell? ⟨b, o + 5, none⟩ = some (.slice q5 N5 r5) := ⟨e1, e5⟩
                go_region_held3 (fun wx => wx.cell? ⟨rk, 1, none⟩ = some (.int .i64 cn9) ∧ wx.cell? ⟨b, o + 5, none⟩ = some (.slice q5 N5 r5)) (assumption) ((go_at_call 55; refine (A.out.noteG _ _).mono ?_; rintro r3 w3 ⟨rfl, k3, g3⟩; replace A := Lib.hid k3; clear k3; have hS3 : w3.cell? ⟨rk, 1, none⟩ = some (.int .i64 cn9) ∧ w3.cell? ⟨b, o + 5, none⟩ = some (.slice q5 N5 r5) := ⟨((C9.out.drew).grown g3 hne).cell 1, C5.out _ A.out.b⟩))
                all_goals
                  go_wp2_with fail
                  go_meet
                  exact ⟨fs, _, _, rfl, rfl, Lib.hid (FrI.out _ A.out.g), HFN, A⟩
    have e4 : (kd == 4) = false := by simpa using h4
    by_cases h5 : kd = 5
    · as_aux_lemma =>
        subst h5
        clear C0 C1 C2 C4 C6 KOn KOi KOna KOa KOba KOac KM KAr KBi HAl HZ4 HRoom HZ3 HN4 HN5 HN6 HBL H2 H3 H4 HBD HS HE m4 m5 m6
        go_upto_region 15 with fail
        go_cut [7] (fun s7 wx => ∃ q7 : Bool, s7 = .bool q7 ∧ Hid (XSt w0 wi wx cb bm))
        case first =>
          as_aux_lemma =>
            have x3 := C3.out _ A.out.b
            have x5 := C5.out _ A.out.b
            by_cases c1 : 1 ≤ N3
            · have fc1 : decide ((1 : Int) ≤ (N3 : Int)) = true := by simp; omega
              have gc1 : decide (1 ≤ N3) = true := by simpa using c1
              by_cases c2 : N3 ≤ 32
              · have fc2 : decide ((N3 : Int) ≤ (32 : Int)) = true := by simp; omega
                have gc2 : decide (N3 ≤ 32) = true := by simpa using c2
                by_cases c3 : N5 = 1
                · have fc3 : ((N5 : Int) == 1) = true := by simp; omega
                  have gc3 : (N5 == 1) = true := by simpa using c3
                  as_aux_lemma =>
                    go_wp2_with (first | (go_at_call 53; refine (KOpa.out _ A.out.b).mono ?_; rintro r1 w1 ⟨b1, rfl, k1⟩; replace A := Lib.hid (A.out.below k1); clear k1; have x3 := C3.out _ A.out.b; have x5 := C5.out _ A.out.b; rcases b1 with _ | _) | (go_at_call 57; refine (KNp.out _ A.out.b).mono ?_; rintro r2 w2 ⟨b2, rfl, k2⟩; replace A := Lib.hid (A.out.below k2); clear k2; have x5 := C5.out _ A.out.b; rcases b2 with _ | _))
                    all_goals
                      go_meet
                      exact ⟨_, rfl, A⟩
                · have fc3 : ((N5 : Int) == 1) = false := by simp; omega
                  have gc3 : (N5 == 1) = false := by simpa using c3
                  as_aux_lemma =>
                    go_wp2_with (first | (go_at_call 53; refine (KOpa.out _ A.out.b).mono ?_; rintro r1 w1 ⟨b1, rfl, k1⟩; replace A := Lib.hid (A.out.below k1); clear k1; have x3 := C3.out _ A.out.b; have x5 := C5.out _ A.out.b; rcases b1 with _ | _) | (go_at_call 57; refine (KNp.out _ A.out.b).mono ?_; rintro r2 w2 ⟨b2, rfl, k2⟩; replace A := Lib.hid (A.out.below k2); clear k2; have x5 := C5.out _ A.out.b; rcases b2 with _ | _))
                    all_goals
                      go_meet
                      exact ⟨_, rfl, A⟩
              · have fc2 : decide ((N3 : Int) ≤ (32 : Int)) = false := by simp; omega
                have gc2 : decide (N3 ≤ 32) = false := by simpa using c2
                as_aux_lemma =>
                  go_wp2_with (first | (go_at_call 53; refine (KOpa.out _ A.out.b).mono ?_; rintro r1 w1 ⟨b1, rfl, k1⟩; replace A := Lib.hid (A.out.below k1); clear k1; have x3 := C3.out _ A.out.b; have x5 := C5.out _ A.out.b; rcases b1 with _ | _) | (go_at_call 57; refine (KNp.out _ A.out.b).mono ?_; rintro r2 w2 ⟨b2, rfl, k2⟩; replace A := Lib.hid (A.out.below k2); clear k2; have x5 := C5.out _ A.out.b; rcases b2 with _ | _))
                  all_goals
                    go_meet
                    exact ⟨_, rfl, A⟩
            · have fc1 : decide ((1 : Int) ≤ (N3 : Int)) = false := by simp; omega
              have gc1 : decide (1 ≤ N3) = false := by simpa using c1
              as_aux_lemma =>
                go_wp2_with (first | (go_at_call 53; refine (KOpa.out _ A.out.b).mono ?_; rintro r1 w1 ⟨b1, rfl, k1⟩; replace A := Lib.hid (A.out.below k1); clear k1; have x3 := C3.out _ A.out.b; have x5 := C5.out _ A.out.b; rcases b1 with _ | _) | (go_at_call 57; refine (KNp.out _ A.out.b).mono ?_; rintro r2 w2 ⟨b2, rfl, k2⟩; replace A := Lib.hid (A.out.below k2); clear k2; have x5 := C5.out _ A.out.b; rcases b2 with _ | _))
                all_goals
                  go_meet
                  exact ⟨_, rfl, A⟩
        case rest =>
          as_aux_lemma =>
            obtain ⟨q7, rfl, A⟩ := hcut
            rename World => W4
            have x3 := C3.out _ A.out.b
            have hF := FrAt.push (H1.out.below A.out.b) (FrI.out _ A.out.g) 70
            have B6 : Below W4.heap.size W4 (W4.alloc (.cells #[.slice q3 N3 r3, .pointer pv] 70)) := (Below.refl _ W4).alloc (Nat.le_refl _) _
            replace A := Lib.hid (A.out.below B6)
            have HF := Lib.hid hF
            clear hF B6
            go_wp2_with fail
            go_meet
            exact ⟨pns :: fs, _, _, rfl, rfl, HF, Lib.hid (FrSm.cons (by rw [HPL.out]; exact m3) HFN.out), A⟩
    have e5 : (kd == 5) = false := by simpa using h5
    by_cases h6 : kd = 6
    · exact absurd hab (by rw [h6]; decide)
    have e6 : (kd == 6) = false := by simpa using h6
    by_cases h7 : kd = 7
    · exact absurd hab (by rw [h7]; decide)
    have e7 : (kd == 7) = false := by simpa using h7
    by_cases h8 : kd = 8
    · exact absurd hab (by rw [h8]; decide)
    have e8 : (kd == 8) = false := by simpa using h8
    by_cases h9 : kd = 9
    · exact absurd hab (by rw [h9]; decide)
    have e9 : (kd == 9) = false := by simpa using h9
    as_aux_lemma =>
      go_wp2_with (first | fail)
      all_goals
        go_meet
        exact ⟨fs, _, _, rfl, rfl, Lib.hid (FrI.out _ A.out.g), HFN, A⟩
  case rest =>
    clear KOn KOi KOna KOpa KOa KOba KOac KM KAr KNp KBi HAl HZ4 HRoom H1 HZ3 HPL HBL C0 C1 C2 C3 HA m3
    obtain ⟨fs6, q7, p6, rfl, rfl, HF6, HFN6, A⟩ := hcut
    go_upto_region 29 with (go_at_call 55; refine (A.out.noteG _ _).mono ?_; rintro r1 w1 ⟨rfl, k1, g1⟩; have A1 := Lib.hid k1; have HF7 := Lib.hid (FrAt.grown g1 A.out.bad _ _ HF6.out); clear k1 g1)
    have c5 := C5.out _ A1.out.b
    clear A HF6
    go_upto_region 30 with fail
    clear c5
    go_loopw [11, 246] (fun _ i wr => ∃ k : Nat, i = .int .i64 k ∧ k ≤ N5 ∧ Hid (XSt w0 wi wr cb bm) ∧ Hid (FrAt wr (.pointer p6) fs6)) (fun _ i _ => N5 - (intOf i).toNat)
    case atStart => exact ⟨0, rfl, Nat.zero_le _, A1, HF7⟩
    case round =>
      clear A1 HF7
      obtain ⟨k, rfl, hk, HX, HF⟩ := hrel
      have cc := C5.out wr HX.out.b
      by_cases hlt : k < N5
      · as_aux_lemma =>
          have hlt2 : decide ((k : Int) < (N5 : Int)) = true := by simp; omega
          have hlt3 : decide (k < N5) = true := by simp; omega
          have hi0 : (0 : Int) ≤ (k : Int) := by omega
          obtain ⟨x, hx⟩ : ∃ x, e.args[k]? = some x := ⟨_, List.getElem?_eq_getElem (by rw [HN5.out]; exact hlt)⟩
          obtain ⟨p, o', hq, hp, hex, hcp⟩ := H3.out k x hx
          subst hq
          have HXA := HX
          have HFA := HF
          have KO := Lib.hid (HE.out x p (o' + k * 7) wr fs6 _ hp hex hcp (HBD.out.2.2.2.1.2 x (List.mem_of_getElem? hx)) (HS.out.2.2.1.2 x (List.mem_of_getElem? hx)) HX.out.b HX.out.n0 HF.out HFN6.out HX.out.c HX.out.m)
          clear hex hcp hx H2 H3 H4 HBD HS HE FrI HFN HFN6 HN4 HN5 HN6
          go_wp2_with (go_at_call 36; refine KO.out.mono ?_; rintro r1 w1 ⟨k1, rfl, hk1, g1⟩; have X1 := Lib.hid (HXA.out.note hk1 g1); have F1 := Lib.hid (FrAt.grown g1 HXA.out.bad _ _ HFA.out); clear hk1 g1)
          go_roundw
          case measure => simp [intOf]; omega
          case rel => exact ⟨k + 1, by go_num, by omega, X1, F1⟩
      · as_aux_lemma =>
          have hlt2 : decide ((k : Int) < (N5 : Int)) = false := by simp; omega
          have hlt3 : decide (k < N5) = false := by simp; omega
          obtain rfl : N5 = k := by omega
          have A1 := HX
          have HF7 := HF
          clear HX HF hlt hlt2 hlt3 hk
          have cn := C4.out wr A1.out.b
          go_upto_region 35 with fail
          clear cc cn
          go_loopw [12, 264] (fun _ i wr => ∃ k : Nat, i = .int .i64 k ∧ k ≤ N4 ∧ Hid (XSt w0 wi wr cb bm) ∧ Hid (FrAt wr (.pointer p6) fs6)) (fun _ i _ => N4 - (intOf i).toNat)
          case atStart => exact ⟨0, rfl, Nat.zero_le _, A1, HF7⟩
          case round =>
            clear A1 HF7
            obtain ⟨k, rfl, hk, HX, HF⟩ := hrel
            have cc := C4.out wr HX.out.b
            by_cases hlt : k < N4
            · as_aux_lemma =>
                have hlt2 : decide ((k : Int) < (N4 : Int)) = true := by simp; omega
                have hlt3 : decide (k < N4) = true := by simp; omega
                have hi0 : (0 : Int) ≤ (k : Int) := by omega
                obtain ⟨x, hx⟩ : ∃ x, e.binds[k]? = some x := ⟨_, List.getElem?_eq_getElem (by rw [HN4.out]; exact hlt)⟩
                obtain ⟨p, o', hq, hp, hex, hcp⟩ := H2.out k x hx
                subst hq
                have HXA := HX
                have HFA := HF
                have KO := Lib.hid (HE.out x.2 p (o' + k * 8 + 1) wr fs6 _ hp hex hcp ((HBD.out.2.2.1.2 x (List.mem_of_getElem? hx)).2) (HS.out.2.1.2 x (List.mem_of_getElem? hx)) HX.out.b HX.out.n0 HF.out HFN6.out HX.out.c HX.out.m)
                clear hex hcp hx H2 H3 H4 HBD HS HE FrI HFN HFN6 HN4 HN5 HN6
                go_wp2_with (go_at_call 36; refine KO.out.mono ?_; rintro r1 w1 ⟨k1, rfl, hk1, g1⟩; have X1 := Lib.hid (HXA.out.note hk1 g1); have F1 := Lib.hid (FrAt.grown g1 HXA.out.bad _ _ HFA.out); clear hk1 g1)
                go_roundw
                case measure => simp [intOf]; omega
                case rel => exact ⟨k + 1, by go_num, by omega, X1, F1⟩
            · as_aux_lemma =>
                have hlt2 : decide ((k : Int) < (N4 : Int)) = false := by simp; omega
                have hlt3 : decide (k < N4) = false := by simp; omega
                obtain rfl : N4 = k := by omega
                have A1 := HX
                have HF7 := HF
                clear HX HF hlt hlt2 hlt3 hk
                have cn := C6.out wr A1.out.b
                go_upto_region 40 with fail
                clear cc cn
                go_loopw [13, 283] (fun _ i wr => ∃ k : Nat, i = .int .i64 k ∧ k ≤ N6 ∧ Hid (XSt w0 wi wr cb bm) ∧ Hid (FrAt wr (.pointer p6) fs6)) (fun _ i _ => N6 - (intOf i).toNat)
                case atStart => exact ⟨0, rfl, Nat.zero_le _, A1, HF7⟩
                case round =>
                  clear A1 HF7
                  obtain ⟨k, rfl, hk, HX, HF⟩ := hrel
                  have cc := C6.out wr HX.out.b
                  by_cases hlt : k < N6
                  · as_aux_lemma =>
                      have hlt2 : decide ((k : Int) < (N6 : Int)) = true := by simp; omega
                      have hlt3 : decide (k < N6) = true := by simp; omega
                      have hi0 : (0 : Int) ≤ (k : Int) := by omega
                      obtain ⟨x, hx⟩ : ∃ x, e.alts[k]? = some x := ⟨_, List.getElem?_eq_getElem (by rw [HN6.out]; exact hlt)⟩
                      obtain ⟨p, o', aw, cw, hq, hp, hcv, htx, hex, hcp⟩ := H4.out k x hx
                      subst hq
                      have HXA := HX
                      have hlv := (HS.out.2.2.2.2 x (List.mem_of_getElem? hx)).1
                      have hbx := (HBD.out.2.2.2.2.2 x (List.mem_of_getElem? hx)).2.2
                      have hsx := (HS.out.2.2.2.2 x (List.mem_of_getElem? hx)).2
                      obtain ⟨xe, hxe⟩ : ∃ q, x.e = q := ⟨_, rfl⟩
                      rw [hxe] at hex hbx hsx
                      obtain ⟨vs, hvs⟩ : ∃ q, x.vars = q := ⟨_, rfl⟩
                      rw [hvs] at hcv htx hlv
                      obtain ⟨nv, hnv⟩ : ∃ q, vs.length = q := ⟨_, rfl⟩
                      rw [hnv] at hcv htx
                      have HC6 := Lib.hid (fun W (hW : Below w0.heap.size w0 W) => (⟨C6.out W hW, (hW.cell (p := ⟨p, o' + k * 11 + 3, none⟩) hp).trans hcv⟩ : W.cell? ⟨b, o + 6, none⟩ = some (.slice (some ⟨p, o', none⟩) N6 r6) ∧ W.cell? ⟨p, o' + k * 11 + 3, none⟩ = some (.slice aw nv cw)))
                      have Xd := HX.out.below ((Below.refl _ wr).drew)
                      have Xa := Xd.below ((Below.refl _ wr.drew).alloc (Nat.le_refl _) (.cells #[.slice aw nv cw, .pointer pv] 70))
                      have hfp := FrAt.push (W := wr.drew) (htx.below Xd.b) (FrI.out _ Xd.g) 70
                      have KO := Lib.hid (HE.out xe p (o' + k * 11 + 4) _ (vs :: fs) _ hp hex hcp hbx hsx Xa.b Xa.n0 hfp (FrSm.cons hlv HFN.out) Xa.c Xa.m)
                      have HXA := Lib.hid Xa
                      have HFA := Lib.hid (FrAt.below (((Below.refl _ wr).drew).alloc (Nat.le_refl _) (.cells #[.slice aw nv cw, .pointer pv] 70)) fs6 _ HF.out)
                      have hS0 := HC6.out _ Xd.b
                      have hS1 := HC6.out _ Xa.b
                      clear hcv htx hex hcp hx hlv hbx hsx hfp Xd Xa cc H2 H3 H4 HBD HS HE FrI HFN HFN6 HN4 HN5 HN6 hnv
                      go_upto_region 42 with fail
                      go_wp2_with (fail)
                      go_region_held3 (fun wx => wx.cell? ⟨b, o + 6, none⟩ = some (.slice (some ⟨p, o', none⟩) N6 r6) ∧ wx.cell? ⟨p, o' + k * 11 + 3, none⟩ = some (.slice aw nv cw)) (assumption) ((go_at_call 36; refine KO.out.mono ?_; rintro r1 w1 ⟨k1, rfl, hk1, g1⟩; have X1 := Lib.hid (HXA.out.note hk1 g1); have F1 := Lib.hid (FrAt.grown g1 HXA.out.bad _ _ HFA.out); clear hk1 g1; have hS2 := HC6.out w1 X1.out.b))
                      all_goals
                        go_wp2
                        go_roundw
                        case measure => simp [intOf]; omega
                        case rel => exact ⟨k + 1, by go_num, by omega, X1, F1⟩
                  · as_aux_lemma =>
                      have hlt2 : decide ((k : Int) < (N6 : Int)) = false := by simp; omega
                      have hlt3 : decide (k < N6) = false := by simp; omega
                      obtain rfl : N6 = k := by omega
                      have A1 := HX
                      have HF7 := HF
                      clear HX HF hlt hlt2 hlt3 hk
                      go_wp2
                      go_end0
                      exact A1.out.post rfl
end Go.Proofs.Ytkcgchpflppmnaa
