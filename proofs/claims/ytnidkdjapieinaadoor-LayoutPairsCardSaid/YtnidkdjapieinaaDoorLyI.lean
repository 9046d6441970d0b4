/- Layout: next. -/
import Derived.Test.YtnidkdjapieinaaDoorLyH
namespace Go.Proofs.YtnidkdjapieinaaDoor
open Go.RowKit Go.Shelf
set_option linter.unusedSimpArgs false
set_option linter.unusedVariables false

theorem Blk.offB {W W' : World} {b tb : Nat} {c : Array Value} (h : Blk W b c) (ho : OffB tb W W') (hn : b ≠ tb) : Blk W' b c := h.of_same (ho.block b h.lt hn) ho.size
def ansV : Ans → Value
  | .tell x => .iface 99 (.agg (tokC x.t ++ [Value.bool x.imp]).toArray)
  | .over => .iface 102 (.agg #[])
  | .wrong => .iface 103 (.agg #[])

set_option maxRecDepth 100000 in
set_option maxHeartbeats 8000000 in
theorem next_any {W : World} {S : Nat → Prop} {tb e : Nat} {q : List It} {bs : List Nat} (h : St W S tb e q bs) (hl : weightK q bs ≤ 1000000) :
    Calls Tryd.prog 48 #[.pointer (some ⟨tb, 0, none⟩)] W fun ex w' => ex = .returned (ansV (nextK e q bs).1) ∧ St w' S tb e (nextK e q bs).2.1 (nextK e q bs).2.2 ∧ OffB tb W w' := by
  obtain ⟨R, hR⟩ : ∃ R, nextK e q bs = R := ⟨_, rfl⟩
  rw [hR]
  have hbl : bs.length ≤ 1000000 := by have := (weigh_len q bs).2; omega
  go_enter Tryd.func48, Tryd.ntmps48
  go_wp2
  go_loopw [] (fun wr => ∃ q', St wr S tb e q' bs ∧ OffB tb W wr ∧ Hid (nextK e q' bs = R) ∧ weightK q' bs ≤ 1000000) (fun wr => qlen wr tb)
  case atStart => exact ⟨q, h, OffB.refl _ _, Lib.hid hR, hl⟩
  case round =>
    obtain ⟨q', hS, hO, HR, hw⟩ := hrel
    clear h hl hR
    obtain ⟨tp, htp⟩ : ∃ tp, topI bs = tp := ⟨_, rfl⟩
    have Ktop : ∀ (w : World) (q : List It), St w S tb e q bs → Calls Tryd.prog 68 #[.pointer (some ⟨tb, 0, none⟩)] w fun ex w' => ex = .returned (.int .i64 tp) ∧ Below w.heap.size w w' := fun w q hs => by rw [← htp]; exact top_any hs (by omega)
    cases q' with
    | nil =>
      cases bs with
      | nil =>
        subst htp
        have HE := Lib.hid HR.out.symm
        simp only [nextK] at HE
        as_aux_lemma =>
          go_wp2_with (first | (go_at_call 67; refine (take_end hS).mono ?_; rintro ex w1 ⟨rfl, b1⟩; have T1 := hS.below_ b1; have S1 := T1.alloc_ (.cells #[.int .i64 0, .int .i64 0, .int .i64 0, .string ⟨#[]⟩, .int .i64 0, .int .i64 0, .int .i64 0, .int .i64 0, .bool false] 68); have O1 := (hO.trans (OffB.of_below b1)).alloc (.cells #[.int .i64 0, .int .i64 0, .int .i64 0, .string ⟨#[]⟩, .int .i64 0, .int .i64 0, .int .i64 0, .int .i64 0, .bool false] 68); have hne : w1.heap.size ≠ tb := (by have := T1.lt; omega)) | (go_at_call 68; refine (Ktop _ _ S1).mono ?_; rintro ex w2 ⟨rfl, b2⟩; have BX := (Blk.new w1 #[.int .i64 0, .int .i64 0, .int .i64 0, .string ⟨#[]⟩, .int .i64 0, .int .i64 0, .int .i64 0, .int .i64 0, .bool false] 68).below b2 (by simp); have S2 := S1.below_ b2; have O2 := O1.trans (OffB.of_below b2); have x0 := BX.cell 0; have x1 := BX.cell 1; have x2 := BX.cell 2; have x3 := BX.cell 3; have x4 := BX.cell 4; have x5 := BX.cell 5; have x6 := BX.cell 6; have x7 := BX.cell 7; have x8 := BX.cell 8; simp only [List.getElem?_toArray, List.getElem?_cons_zero, List.getElem?_cons_succ] at x0 x1 x2 x3 x4 x5 x6 x7 x8))
          (go_ret; rw [HE.out]; exact ⟨rfl, S2, O2⟩)
      | cons m bs =>
        by_cases hm : 0 < m
        · have z0 : decide ((0 : Int) < tp) = true := decide_eq_true (by rw [← htp]; simpa [topI] using hm)
          have HE := Lib.hid (HR.out.symm.trans (show nextK e [] (m :: bs) = (.tell (impK 125 e), [], bs) by simp [nextK, hm]))
          simp only [List.length_cons] at hbl
          replace hbl : bs.length ≤ 1000000000 := by omega
          clear hm htp
          as_aux_lemma =>
            go_wp2_with (first | (go_at_call 67; refine (take_end hS).mono ?_; rintro ex w1 ⟨rfl, b1⟩; have T1 := hS.below_ b1; have S1 := T1.alloc_ (.cells #[.int .i64 0, .int .i64 0, .int .i64 0, .string ⟨#[]⟩, .int .i64 0, .int .i64 0, .int .i64 0, .int .i64 0, .bool false] 68); have O1 := (hO.trans (OffB.of_below b1)).alloc (.cells #[.int .i64 0, .int .i64 0, .int .i64 0, .string ⟨#[]⟩, .int .i64 0, .int .i64 0, .int .i64 0, .int .i64 0, .bool false] 68); have hne : w1.heap.size ≠ tb := (by have := T1.lt; omega)) | (go_at_call 68; refine (Ktop _ _ S1).mono ?_; rintro ex w2 ⟨rfl, b2⟩; have BX := (Blk.new w1 #[.int .i64 0, .int .i64 0, .int .i64 0, .string ⟨#[]⟩, .int .i64 0, .int .i64 0, .int .i64 0, .int .i64 0, .bool false] 68).below b2 (by simp); have S2 := S1.below_ b2; have O2 := O1.trans (OffB.of_below b2); have x0 := BX.cell 0; have x1 := BX.cell 1; have x2 := BX.cell 2; have x3 := BX.cell 3; have x4 := BX.cell 4; have x5 := BX.cell 5; have x6 := BX.cell 6; have x7 := BX.cell 7; have x8 := BX.cell 8; simp only [List.getElem?_toArray, List.getElem?_cons_zero, List.getElem?_cons_succ] at x0 x1 x2 x3 x4 x5 x6 x7 x8) | (go_at_call 69; refine (pop_any S2 hbl).mono ?_; rintro ex w4 ⟨rfl, S2, o4⟩; have O2 := O2.trans o4; have BX := BX.offB o4 hne; have x0 := BX.cell 0; have x1 := BX.cell 1; have x2 := BX.cell 2; have x3 := BX.cell 3; have x4 := BX.cell 4; have x5 := BX.cell 5; have x6 := BX.cell 6; have x7 := BX.cell 7; have x8 := BX.cell 8; simp only [List.getElem?_toArray, List.getElem?_cons_zero, List.getElem?_cons_succ] at x0 x1 x2 x3 x4 x5 x6 x7 x8) | (go_at_call 70; with_reducible refine (implied_any S2 125).mono ?_; rintro ex w3 ⟨rfl, b3⟩; have O2 := O2.trans (OffB.of_below b3); have S2 := S2.below_ b3))
            (go_ret; rw [HE.out]; exact ⟨rfl, S2, O2⟩)
        · have z0 : decide ((0 : Int) < tp) = false := decide_eq_false (by rw [← htp]; simpa [topI] using hm)
          have z1 : decide (tp < 0) = false := decide_eq_false (by rw [← htp]; simp only [topI]; omega)
          have HE := Lib.hid (HR.out.symm.trans (show nextK e [] (m :: bs) = (.wrong, [], m :: bs) by simp [nextK, hm]))
          clear hm htp
          as_aux_lemma =>
            go_wp2_with (first | (go_at_call 67; refine (take_end hS).mono ?_; rintro ex w1 ⟨rfl, b1⟩; have T1 := hS.below_ b1; have S1 := T1.alloc_ (.cells #[.int .i64 0, .int .i64 0, .int .i64 0, .string ⟨#[]⟩, .int .i64 0, .int .i64 0, .int .i64 0, .int .i64 0, .bool false] 68); have O1 := (hO.trans (OffB.of_below b1)).alloc (.cells #[.int .i64 0, .int .i64 0, .int .i64 0, .string ⟨#[]⟩, .int .i64 0, .int .i64 0, .int .i64 0, .int .i64 0, .bool false] 68); have hne : w1.heap.size ≠ tb := (by have := T1.lt; omega)) | (go_at_call 68; refine (Ktop _ _ S1).mono ?_; rintro ex w2 ⟨rfl, b2⟩; have BX := (Blk.new w1 #[.int .i64 0, .int .i64 0, .int .i64 0, .string ⟨#[]⟩, .int .i64 0, .int .i64 0, .int .i64 0, .int .i64 0, .bool false] 68).below b2 (by simp); have S2 := S1.below_ b2; have O2 := O1.trans (OffB.of_below b2); have x0 := BX.cell 0; have x1 := BX.cell 1; have x2 := BX.cell 2; have x3 := BX.cell 3; have x4 := BX.cell 4; have x5 := BX.cell 5; have x6 := BX.cell 6; have x7 := BX.cell 7; have x8 := BX.cell 8; simp only [List.getElem?_toArray, List.getElem?_cons_zero, List.getElem?_cons_succ] at x0 x1 x2 x3 x4 x5 x6 x7 x8))
            (go_ret; rw [HE.out]; exact ⟨rfl, S2, O2⟩)
    | cons x q1 =>
      cases x with
      | cls =>
        have HE := Lib.hid (HR.out.symm.trans (show nextK e (.cls :: q1) bs = (.tell (impK 125 (placeK e q1)), q1, bs) from rfl))
        clear htp
        as_aux_lemma =>
          go_wp2_with (first | (go_at_call 67; refine (take_cls hS hw).mono ?_; rintro ex w1 ⟨rfl, T1, o1⟩; have S1 := T1.alloc_ (.cells #[.int .i64 3, .int .i64 0, .int .i64 0, .string ⟨#[]⟩, .int .i64 0, .int .i64 0, .int .i64 0, .int .i64 0, .bool false] 68); have O1 := (hO.trans o1).alloc (.cells #[.int .i64 3, .int .i64 0, .int .i64 0, .string ⟨#[]⟩, .int .i64 0, .int .i64 0, .int .i64 0, .int .i64 0, .bool false] 68); have hne : w1.heap.size ≠ tb := (by have := T1.lt; omega)) | (go_at_call 68; refine (Ktop _ _ S1).mono ?_; rintro ex w2 ⟨rfl, b2⟩; have BX := (Blk.new w1 #[.int .i64 3, .int .i64 0, .int .i64 0, .string ⟨#[]⟩, .int .i64 0, .int .i64 0, .int .i64 0, .int .i64 0, .bool false] 68).below b2 (by simp); have S2 := S1.below_ b2; have O2 := O1.trans (OffB.of_below b2); have x0 := BX.cell 0; have x1 := BX.cell 1; have x2 := BX.cell 2; have x3 := BX.cell 3; have x4 := BX.cell 4; have x5 := BX.cell 5; have x6 := BX.cell 6; have x7 := BX.cell 7; have x8 := BX.cell 8; simp only [List.getElem?_toArray, List.getElem?_cons_zero, List.getElem?_cons_succ] at x0 x1 x2 x3 x4 x5 x6 x7 x8) | (go_at_call 70; with_reducible refine (implied_any S2 125).mono ?_; rintro ex w3 ⟨rfl, b3⟩; have O2 := O2.trans (OffB.of_below b3); have S2 := S2.below_ b3))
          (go_ret; rw [HE.out]; exact ⟨rfl, S2, O2⟩)
      | line n =>
        by_cases h1 : 0 < bs.headD 0 ∧ bs.headD 0 = n
        · have ht : tp = (n : Int) := by
            rw [← htp]
            cases bs with
            | nil => simp at h1
            | cons m bs => simp at h1; simp [topI]; omega
          have hn0 : 0 < n := by omega
          subst ht
          have z0 : decide ((0 : Int) < (n : Int)) = true := decide_eq_true (by omega)
          have z0' : decide (0 < n) = true := decide_eq_true hn0
          have HE := Lib.hid (HR.out.symm.trans (show nextK e (.line n :: q1) bs = (.tell (impK 59 (placeK e q1)), q1, bs) by simp only [nextK, stepK]; rw [if_pos h1]))
          clear h1 htp hn0
          as_aux_lemma =>
            go_wp2_with (first | (go_at_call 67; refine (take_line hS hw).mono ?_; rintro ex w1 ⟨rfl, T1, o1⟩; have S1 := T1.alloc_ (.cells #[.int .i64 1, .int .i64 n, .int .i64 0, .string ⟨#[]⟩, .int .i64 0, .int .i64 0, .int .i64 0, .int .i64 0, .bool false] 68); have O1 := (hO.trans o1).alloc (.cells #[.int .i64 1, .int .i64 n, .int .i64 0, .string ⟨#[]⟩, .int .i64 0, .int .i64 0, .int .i64 0, .int .i64 0, .bool false] 68); have hne : w1.heap.size ≠ tb := (by have := T1.lt; omega)) | (go_at_call 68; refine (Ktop _ _ S1).mono ?_; rintro ex w2 ⟨rfl, b2⟩; have BX := (Blk.new w1 #[.int .i64 1, .int .i64 n, .int .i64 0, .string ⟨#[]⟩, .int .i64 0, .int .i64 0, .int .i64 0, .int .i64 0, .bool false] 68).below b2 (by simp); have S2 := S1.below_ b2; have O2 := O1.trans (OffB.of_below b2); have x0 := BX.cell 0; have x1 := BX.cell 1; have x2 := BX.cell 2; have x3 := BX.cell 3; have x4 := BX.cell 4; have x5 := BX.cell 5; have x6 := BX.cell 6; have x7 := BX.cell 7; have x8 := BX.cell 8; simp only [List.getElem?_toArray, List.getElem?_cons_zero, List.getElem?_cons_succ] at x0 x1 x2 x3 x4 x5 x6 x7 x8) | (go_at_call 70; with_reducible refine (implied_any S2 59).mono ?_; rintro ex w3 ⟨rfl, b3⟩; have O2 := O2.trans (OffB.of_below b3); have S2 := S2.below_ b3))
            (go_ret; rw [HE.out]; exact ⟨rfl, S2, O2⟩)
        · by_cases h2 : n < bs.headD 0
          · cases bs with
            | nil => simp at h2
            | cons m bs =>
              simp only [List.headD_cons] at h1 h2
              have ht : tp = (m : Int) := htp.symm
              subst ht
              have z0 : decide ((0 : Int) < (m : Int)) = true := decide_eq_true (by omega)
              have z0' : decide (0 < m) = true := decide_eq_true (by omega)
              have z1 : ((m : Int) == (n : Int)) = false := by rw [beq_eq_false_iff_ne]; omega
              have z1' : (m == n) = false := by rw [beq_eq_false_iff_ne]; omega
              have z2 : decide ((n : Int) < (m : Int)) = true := decide_eq_true (by omega)
              have z2' : decide (n < m) = true := decide_eq_true h2
              have HE := Lib.hid (HR.out.symm.trans (show nextK e (.line n :: q1) (m :: bs) = (.tell (impK 125 (placeK e q1)), .line n :: q1, bs) by unfold nextK; have hs : stepK (placeK e q1) (.line n) q1 (m :: bs) = some (.tell (impK 125 (placeK e q1)), .line n :: q1, bs) := (by have e1 : (if 0 < (m :: bs).headD 0 ∧ (m :: bs).headD 0 = n then some (Ans.tell (impK 59 (placeK e q1)), q1, m :: bs) else if n < (m :: bs).headD 0 then some (Ans.tell (impK 125 (placeK e q1)), It.line n :: q1, (m :: bs).tail) else none) = some (.tell (impK 125 (placeK e q1)), .line n :: q1, bs) := (by rw [if_neg (show ¬ (0 < (m :: bs).headD 0 ∧ (m :: bs).headD 0 = n) from h1), if_pos (show n < (m :: bs).headD 0 from h2)]; rfl); exact e1); rw [hs]))
              simp only [List.length_cons] at hbl
              replace hbl : bs.length ≤ 1000000000 := by omega
              have hq1 : q1.length ≤ 1000000 := by have := (weigh_len (.line n :: q1) (m :: bs)).1; simp at this; omega
              clear h1 h2 htp
              as_aux_lemma =>
                go_wp2_with (first | (go_at_call 67; refine (take_line hS hw).mono ?_; rintro ex w1 ⟨rfl, T1, o1⟩; have S1 := T1.alloc_ (.cells #[.int .i64 1, .int .i64 n, .int .i64 0, .string ⟨#[]⟩, .int .i64 0, .int .i64 0, .int .i64 0, .int .i64 0, .bool false] 68); have O1 := (hO.trans o1).alloc (.cells #[.int .i64 1, .int .i64 n, .int .i64 0, .string ⟨#[]⟩, .int .i64 0, .int .i64 0, .int .i64 0, .int .i64 0, .bool false] 68); have hne : w1.heap.size ≠ tb := (by have := T1.lt; omega)) | (go_at_call 68; refine (Ktop _ _ S1).mono ?_; rintro ex w2 ⟨rfl, b2⟩; have BX := (Blk.new w1 #[.int .i64 1, .int .i64 n, .int .i64 0, .string ⟨#[]⟩, .int .i64 0, .int .i64 0, .int .i64 0, .int .i64 0, .bool false] 68).below b2 (by simp); have S2 := S1.below_ b2; have O2 := O1.trans (OffB.of_below b2); have x0 := BX.cell 0; have x1 := BX.cell 1; have x2 := BX.cell 2; have x3 := BX.cell 3; have x4 := BX.cell 4; have x5 := BX.cell 5; have x6 := BX.cell 6; have x7 := BX.cell 7; have x8 := BX.cell 8; simp only [List.getElem?_toArray, List.getElem?_cons_zero, List.getElem?_cons_succ] at x0 x1 x2 x3 x4 x5 x6 x7 x8) | (go_at_call 71; with_reducible refine (put_any S2 (by have := (weigh_len q1 bs).1; simp; omega) (.line n) 1 n rfl rfl).mono ?_; rintro ex w6 ⟨rfl, S2, o6⟩; have O2 := O2.trans o6; have BX := BX.offB o6 hne; have x0 := BX.cell 0; have x1 := BX.cell 1; have x2 := BX.cell 2; have x3 := BX.cell 3; have x4 := BX.cell 4; have x5 := BX.cell 5; have x6 := BX.cell 6; have x7 := BX.cell 7; have x8 := BX.cell 8; simp only [List.getElem?_toArray, List.getElem?_cons_zero, List.getElem?_cons_succ] at x0 x1 x2 x3 x4 x5 x6 x7 x8) | (go_at_call 69; refine (pop_any S2 hbl).mono ?_; rintro ex w4 ⟨rfl, S2, o4⟩; have O2 := O2.trans o4; have BX := BX.offB o4 hne; have x0 := BX.cell 0; have x1 := BX.cell 1; have x2 := BX.cell 2; have x3 := BX.cell 3; have x4 := BX.cell 4; have x5 := BX.cell 5; have x6 := BX.cell 6; have x7 := BX.cell 7; have x8 := BX.cell 8; simp only [List.getElem?_toArray, List.getElem?_cons_zero, List.getElem?_cons_succ] at x0 x1 x2 x3 x4 x5 x6 x7 x8) | (go_at_call 70; with_reducible refine (implied_any S2 125).mono ?_; rintro ex w3 ⟨rfl, b3⟩; have O2 := O2.trans (OffB.of_below b3); have S2 := S2.below_ b3))
                (go_ret; rw [HE.out]; exact ⟨rfl, S2, O2⟩)
          · have HE : Hid (nextK e q1 bs = R) := Lib.hid (HR.out ▸ (show nextK e q1 bs = nextK e (.line n :: q1) bs by simp only [nextK, stepK]; rw [if_neg h1, if_neg h2]))
            have hw2 : weightK q1 bs ≤ 1000000 := by simp only [weightK, List.map_cons, List.sum_cons] at hw ⊢; omega
            have hlen : qlen wr tb = q1.length + 1 := by rw [hS.qlen]; rfl
            have hcs : (decide ((0 : Int) < tp) = false) ∨ (decide ((0 : Int) < tp) = true ∧ (tp == (n : Int)) = false ∧ decide ((n : Int) < tp) = false) := by
              cases bs with
              | nil => left; rw [← htp]; rfl
              | cons m bs =>
                simp only [List.headD_cons] at h1 h2
                rw [← htp]
                simp only [topI]
                by_cases hm : 0 < m
                · exact .inr ⟨decide_eq_true (by omega), by rw [beq_eq_false_iff_ne]; omega, decide_eq_false (by omega)⟩
                · exact .inl (decide_eq_false (by omega))
            have Hlen := Lib.hid hlen
            clear h1 h2 htp hlen
            rcases hcs with z0 | ⟨z0, z1, z2⟩
            · go_wp2_with (first | (go_at_call 67; refine (take_line hS hw).mono ?_; rintro ex w1 ⟨rfl, T1, o1⟩; have S1 := T1.alloc_ (.cells #[.int .i64 1, .int .i64 n, .int .i64 0, .string ⟨#[]⟩, .int .i64 0, .int .i64 0, .int .i64 0, .int .i64 0, .bool false] 68); have O1 := (hO.trans o1).alloc (.cells #[.int .i64 1, .int .i64 n, .int .i64 0, .string ⟨#[]⟩, .int .i64 0, .int .i64 0, .int .i64 0, .int .i64 0, .bool false] 68); have hne : w1.heap.size ≠ tb := (by have := T1.lt; omega)) | (go_at_call 68; refine (Ktop _ _ S1).mono ?_; rintro ex w2 ⟨rfl, b2⟩; have BX := (Blk.new w1 #[.int .i64 1, .int .i64 n, .int .i64 0, .string ⟨#[]⟩, .int .i64 0, .int .i64 0, .int .i64 0, .int .i64 0, .bool false] 68).below b2 (by simp); have S2 := S1.below_ b2; have O2 := O1.trans (OffB.of_below b2); have x0 := BX.cell 0; have x1 := BX.cell 1; have x2 := BX.cell 2; have x3 := BX.cell 3; have x4 := BX.cell 4; have x5 := BX.cell 5; have x6 := BX.cell 6; have x7 := BX.cell 7; have x8 := BX.cell 8; simp only [List.getElem?_toArray, List.getElem?_cons_zero, List.getElem?_cons_succ] at x0 x1 x2 x3 x4 x5 x6 x7 x8))
              go_roundw
              case rel => exact ⟨q1, S2, O2, HE, hw2⟩
              case measure => rw [Hlen.out, S2.qlen]; omega
            · go_wp2_with (first | (go_at_call 67; refine (take_line hS hw).mono ?_; rintro ex w1 ⟨rfl, T1, o1⟩; have S1 := T1.alloc_ (.cells #[.int .i64 1, .int .i64 n, .int .i64 0, .string ⟨#[]⟩, .int .i64 0, .int .i64 0, .int .i64 0, .int .i64 0, .bool false] 68); have O1 := (hO.trans o1).alloc (.cells #[.int .i64 1, .int .i64 n, .int .i64 0, .string ⟨#[]⟩, .int .i64 0, .int .i64 0, .int .i64 0, .int .i64 0, .bool false] 68); have hne : w1.heap.size ≠ tb := (by have := T1.lt; omega)) | (go_at_call 68; refine (Ktop _ _ S1).mono ?_; rintro ex w2 ⟨rfl, b2⟩; have BX := (Blk.new w1 #[.int .i64 1, .int .i64 n, .int .i64 0, .string ⟨#[]⟩, .int .i64 0, .int .i64 0, .int .i64 0, .int .i64 0, .bool false] 68).below b2 (by simp); have S2 := S1.below_ b2; have O2 := O1.trans (OffB.of_below b2); have x0 := BX.cell 0; have x1 := BX.cell 1; have x2 := BX.cell 2; have x3 := BX.cell 3; have x4 := BX.cell 4; have x5 := BX.cell 5; have x6 := BX.cell 6; have x7 := BX.cell 7; have x8 := BX.cell 8; simp only [List.getElem?_toArray, List.getElem?_cons_zero, List.getElem?_cons_succ] at x0 x1 x2 x3 x4 x5 x6 x7 x8))
              go_roundw
              case rel => exact ⟨q1, S2, O2, HE, hw2⟩
              case measure => rw [Hlen.out, S2.qlen]; omega
      | opn n =>
        have hmx : max tp 0 = ((bs.headD 0 : Nat) : Int) := by
          rw [← htp]
          cases bs with
          | nil => rfl
          | cons m bs => simp only [topI, List.headD_cons]; omega
        obtain ⟨mx, hmx2⟩ : ∃ mx, bs.headD 0 = mx := ⟨_, rfl⟩
        rw [hmx2] at hmx
        by_cases h1 : mx < n
        · have z0 : decide ((mx : Int) < (n : Int)) = true := decide_eq_true (by omega)
          have z0' : decide (mx < n) = true := decide_eq_true h1
          have HE := Lib.hid (HR.out.symm.trans (show nextK e (.opn n :: q1) bs = (.tell (impK 123 (placeK e q1)), q1, n :: bs) by simp only [nextK, stepK]; rw [if_pos (by omega)]))
          clear h1 htp hmx2
          as_aux_lemma =>
            go_wp2_with (first | (go_at_call 67; refine (take_opn hS hw).mono ?_; rintro ex w1 ⟨rfl, T1, o1⟩; have S1 := T1.alloc_ (.cells #[.int .i64 2, .int .i64 n, .int .i64 0, .string ⟨#[]⟩, .int .i64 0, .int .i64 0, .int .i64 0, .int .i64 0, .bool false] 68); have O1 := (hO.trans o1).alloc (.cells #[.int .i64 2, .int .i64 n, .int .i64 0, .string ⟨#[]⟩, .int .i64 0, .int .i64 0, .int .i64 0, .int .i64 0, .bool false] 68); have hne : w1.heap.size ≠ tb := (by have := T1.lt; omega)) | (go_at_call 68; refine (Ktop _ _ S1).mono ?_; rintro ex w2 ⟨rfl, b2⟩; have BX := (Blk.new w1 #[.int .i64 2, .int .i64 n, .int .i64 0, .string ⟨#[]⟩, .int .i64 0, .int .i64 0, .int .i64 0, .int .i64 0, .bool false] 68).below b2 (by simp); have S2 := S1.below_ b2; have O2 := O1.trans (OffB.of_below b2); have x0 := BX.cell 0; have x1 := BX.cell 1; have x2 := BX.cell 2; have x3 := BX.cell 3; have x4 := BX.cell 4; have x5 := BX.cell 5; have x6 := BX.cell 6; have x7 := BX.cell 7; have x8 := BX.cell 8; simp only [List.getElem?_toArray, List.getElem?_cons_zero, List.getElem?_cons_succ] at x0 x1 x2 x3 x4 x5 x6 x7 x8) | (go_at_call 72; refine (push_any S2 (by omega) n).mono ?_; rintro ex w5 ⟨rfl, S2, o5⟩; have O2 := O2.trans o5; have BX := BX.offB o5 hne; have x0 := BX.cell 0; have x1 := BX.cell 1; have x2 := BX.cell 2; have x3 := BX.cell 3; have x4 := BX.cell 4; have x5 := BX.cell 5; have x6 := BX.cell 6; have x7 := BX.cell 7; have x8 := BX.cell 8; simp only [List.getElem?_toArray, List.getElem?_cons_zero, List.getElem?_cons_succ] at x0 x1 x2 x3 x4 x5 x6 x7 x8) | (go_at_call 70; with_reducible refine (implied_any S2 123).mono ?_; rintro ex w3 ⟨rfl, b3⟩; have O2 := O2.trans (OffB.of_below b3); have S2 := S2.below_ b3))
            (go_ret; rw [HE.out]; exact ⟨rfl, S2, O2⟩)
        · have z0 : decide ((mx : Int) < (n : Int)) = false := decide_eq_false (by omega)
          have z0' : decide (mx < n) = false := decide_eq_false h1
          have HE := Lib.hid (HR.out.symm.trans (show nextK e (.opn n :: q1) bs = (.tell (impK 123 (placeK e q1)), .cls :: .line n :: q1, bs) by simp only [nextK, stepK]; rw [if_neg (by omega)]))
          have hq1 : q1.length + 2 ≤ 1000000 := by have := (weigh_len q1 bs).1; simp only [weightK, List.map_cons, List.sum_cons, It.weigh] at hw this ⊢; omega
          clear h1 htp hmx2
          as_aux_lemma =>
            go_wp2_with (first | (go_at_call 67; refine (take_opn hS hw).mono ?_; rintro ex w1 ⟨rfl, T1, o1⟩; have S1 := T1.alloc_ (.cells #[.int .i64 2, .int .i64 n, .int .i64 0, .string ⟨#[]⟩, .int .i64 0, .int .i64 0, .int .i64 0, .int .i64 0, .bool false] 68); have O1 := (hO.trans o1).alloc (.cells #[.int .i64 2, .int .i64 n, .int .i64 0, .string ⟨#[]⟩, .int .i64 0, .int .i64 0, .int .i64 0, .int .i64 0, .bool false] 68); have hne : w1.heap.size ≠ tb := (by have := T1.lt; omega)) | (go_at_call 68; refine (Ktop _ _ S1).mono ?_; rintro ex w2 ⟨rfl, b2⟩; have BX := (Blk.new w1 #[.int .i64 2, .int .i64 n, .int .i64 0, .string ⟨#[]⟩, .int .i64 0, .int .i64 0, .int .i64 0, .int .i64 0, .bool false] 68).below b2 (by simp); have S2 := S1.below_ b2; have O2 := O1.trans (OffB.of_below b2); have x0 := BX.cell 0; have x1 := BX.cell 1; have x2 := BX.cell 2; have x3 := BX.cell 3; have x4 := BX.cell 4; have x5 := BX.cell 5; have x6 := BX.cell 6; have x7 := BX.cell 7; have x8 := BX.cell 8; simp only [List.getElem?_toArray, List.getElem?_cons_zero, List.getElem?_cons_succ] at x0 x1 x2 x3 x4 x5 x6 x7 x8) | (go_at_call 71; with_reducible refine (put_any S2 (by have := (weigh_len q1 bs).1; simp; omega) (.line n) 1 n rfl rfl).mono ?_; rintro ex w6 ⟨rfl, S2, o6⟩; have O2 := O2.trans o6; have BX := BX.offB o6 hne; have x0 := BX.cell 0; have x1 := BX.cell 1; have x2 := BX.cell 2; have x3 := BX.cell 3; have x4 := BX.cell 4; have x5 := BX.cell 5; have x6 := BX.cell 6; have x7 := BX.cell 7; have x8 := BX.cell 8; simp only [List.getElem?_toArray, List.getElem?_cons_zero, List.getElem?_cons_succ] at x0 x1 x2 x3 x4 x5 x6 x7 x8) | (go_at_call 71; with_reducible refine (put_any S2 (by have := (weigh_len q1 bs).1; simp; omega) .cls 3 0 rfl rfl).mono ?_; rintro ex w6 ⟨rfl, S2, o6⟩; have O2 := O2.trans o6; have BX := BX.offB o6 hne; have x0 := BX.cell 0; have x1 := BX.cell 1; have x2 := BX.cell 2; have x3 := BX.cell 3; have x4 := BX.cell 4; have x5 := BX.cell 5; have x6 := BX.cell 6; have x7 := BX.cell 7; have x8 := BX.cell 8; simp only [List.getElem?_toArray, List.getElem?_cons_zero, List.getElem?_cons_succ] at x0 x1 x2 x3 x4 x5 x6 x7 x8) | (go_at_call 70; with_reducible refine (implied_any S2 123).mono ?_; rintro ex w3 ⟨rfl, b3⟩; have O2 := O2.trans (OffB.of_below b3); have S2 := S2.below_ b3))
            (go_ret; rw [HE.out]; exact ⟨rfl, S2, O2⟩)
      | tok t =>
        have HV : Hid (ansV (Ans.tell ⟨t, false⟩) = .iface 99 (.agg #[.int .i64 t.t.kind, .string ⟨t.t.text.toArray⟩, .int .i64 t.t.num, .int .i64 t.at_, .int .i64 t.line, .int .i64 t.col, .bool t.first, .bool false])) := Lib.hid rfl
        by_cases h1 : isMk 125 t = true
        · have k125 := h1
          have K125 : ∀ w, Calls Tryd.prog 25 #[.agg #[.int .i64 t.t.kind, .string ⟨t.t.text.toArray⟩, .int .i64 t.t.num, .int .i64 t.at_, .int .i64 t.line, .int .i64 t.col, .bool t.first], .string ⟨#[125]⟩] w fun e w' => e = .returned (.bool true) ∧ Below w.heap.size w w' := fun w => by have := isMark_any t 125 w; rw [k125] at this; exact this
          by_cases h2 : bs.head? = some 0
          · cases bs with
            | nil => cases h2
            | cons m bs =>
              simp only [List.head?_cons, Option.some.injEq] at h2
              subst h2
              have ht : tp = 0 := htp.symm
              subst ht
              have HE := Lib.hid (HR.out.symm.trans (show nextK e (.tok t :: q1) (0 :: bs) = (.tell ⟨t, false⟩, q1, bs) by simp only [nextK, stepK]; rw [if_pos h1]; rfl))
              simp only [List.length_cons] at hbl
              replace hbl : bs.length ≤ 1000000000 := by omega
              clear h1 htp k125
              go_wp2_with (first | (go_at_call 67; refine (take_tok hS hw).mono ?_; rintro ex w1 ⟨rfl, T1, o1⟩; have S1 := T1.alloc_ (.cells #[.int .i64 0, .int .i64 0, .int .i64 t.t.kind, .string ⟨t.t.text.toArray⟩, .int .i64 t.t.num, .int .i64 t.at_, .int .i64 t.line, .int .i64 t.col, .bool t.first] 68); have O1 := (hO.trans o1).alloc (.cells #[.int .i64 0, .int .i64 0, .int .i64 t.t.kind, .string ⟨t.t.text.toArray⟩, .int .i64 t.t.num, .int .i64 t.at_, .int .i64 t.line, .int .i64 t.col, .bool t.first] 68); have hne : w1.heap.size ≠ tb := (by have := T1.lt; omega)) | (go_at_call 68; refine (Ktop _ _ S1).mono ?_; rintro ex w2 ⟨rfl, b2⟩; have BX := (Blk.new w1 #[.int .i64 0, .int .i64 0, .int .i64 t.t.kind, .string ⟨t.t.text.toArray⟩, .int .i64 t.t.num, .int .i64 t.at_, .int .i64 t.line, .int .i64 t.col, .bool t.first] 68).below b2 (by simp); have S2 := S1.below_ b2; have O2 := O1.trans (OffB.of_below b2); have x0 := BX.cell 0; have x1 := BX.cell 1; have x2 := BX.cell 2; have x3 := BX.cell 3; have x4 := BX.cell 4; have x5 := BX.cell 5; have x6 := BX.cell 6; have x7 := BX.cell 7; have x8 := BX.cell 8; simp only [List.getElem?_toArray, List.getElem?_cons_zero, List.getElem?_cons_succ] at x0 x1 x2 x3 x4 x5 x6 x7 x8) | (go_at_call 25; with_reducible refine (K125 _).mono ?_; rintro ex w7 ⟨rfl, b7⟩; have O2 := O2.trans (OffB.of_below b7); have S2 := S2.below_ b7; have BX := BX.below b7 BX.lt; have x0 := BX.cell 0; have x1 := BX.cell 1; have x2 := BX.cell 2; have x3 := BX.cell 3; have x4 := BX.cell 4; have x5 := BX.cell 5; have x6 := BX.cell 6; have x7 := BX.cell 7; have x8 := BX.cell 8; simp only [List.getElem?_toArray, List.getElem?_cons_zero, List.getElem?_cons_succ] at x0 x1 x2 x3 x4 x5 x6 x7 x8) | (go_at_call 69; refine (pop_any S2 hbl).mono ?_; rintro ex w4 ⟨rfl, S2, o4⟩; have O2 := O2.trans o4; have BX := BX.offB o4 hne; have x0 := BX.cell 0; have x1 := BX.cell 1; have x2 := BX.cell 2; have x3 := BX.cell 3; have x4 := BX.cell 4; have x5 := BX.cell 5; have x6 := BX.cell 6; have x7 := BX.cell 7; have x8 := BX.cell 8; simp only [List.getElem?_toArray, List.getElem?_cons_zero, List.getElem?_cons_succ] at x0 x1 x2 x3 x4 x5 x6 x7 x8))
              (go_ret; rw [HE.out]; refine ⟨?_, S2, O2⟩; exact congrArg Ending.returned HV.out.symm)
          · have z0 : (tp != 0) = true := by
              rw [bne_iff_ne, ← htp]
              cases bs with
              | nil => decide
              | cons m bs => simp only [List.head?_cons, Option.some.injEq] at h2; simp only [topI]; omega
            have HE := Lib.hid (HR.out.symm.trans (show nextK e (.tok t :: q1) bs = (.wrong, q1, bs) by simp only [nextK, stepK]; rw [if_pos h1, if_neg h2]))
            have z1 : (tp == 0) = false := by have h := z0; rw [bne_iff_ne] at h; rw [beq_eq_false_iff_ne]; exact h
            clear h1 h2 htp k125
            go_wp2_with (first | (go_at_call 67; refine (take_tok hS hw).mono ?_; rintro ex w1 ⟨rfl, T1, o1⟩; have S1 := T1.alloc_ (.cells #[.int .i64 0, .int .i64 0, .int .i64 t.t.kind, .string ⟨t.t.text.toArray⟩, .int .i64 t.t.num, .int .i64 t.at_, .int .i64 t.line, .int .i64 t.col, .bool t.first] 68); have O1 := (hO.trans o1).alloc (.cells #[.int .i64 0, .int .i64 0, .int .i64 t.t.kind, .string ⟨t.t.text.toArray⟩, .int .i64 t.t.num, .int .i64 t.at_, .int .i64 t.line, .int .i64 t.col, .bool t.first] 68); have hne : w1.heap.size ≠ tb := (by have := T1.lt; omega)) | (go_at_call 68; refine (Ktop _ _ S1).mono ?_; rintro ex w2 ⟨rfl, b2⟩; have BX := (Blk.new w1 #[.int .i64 0, .int .i64 0, .int .i64 t.t.kind, .string ⟨t.t.text.toArray⟩, .int .i64 t.t.num, .int .i64 t.at_, .int .i64 t.line, .int .i64 t.col, .bool t.first] 68).below b2 (by simp); have S2 := S1.below_ b2; have O2 := O1.trans (OffB.of_below b2); have x0 := BX.cell 0; have x1 := BX.cell 1; have x2 := BX.cell 2; have x3 := BX.cell 3; have x4 := BX.cell 4; have x5 := BX.cell 5; have x6 := BX.cell 6; have x7 := BX.cell 7; have x8 := BX.cell 8; simp only [List.getElem?_toArray, List.getElem?_cons_zero, List.getElem?_cons_succ] at x0 x1 x2 x3 x4 x5 x6 x7 x8) | (go_at_call 25; with_reducible refine (K125 _).mono ?_; rintro ex w7 ⟨rfl, b7⟩; have O2 := O2.trans (OffB.of_below b7); have S2 := S2.below_ b7; have BX := BX.below b7 BX.lt; have x0 := BX.cell 0; have x1 := BX.cell 1; have x2 := BX.cell 2; have x3 := BX.cell 3; have x4 := BX.cell 4; have x5 := BX.cell 5; have x6 := BX.cell 6; have x7 := BX.cell 7; have x8 := BX.cell 8; simp only [List.getElem?_toArray, List.getElem?_cons_zero, List.getElem?_cons_succ] at x0 x1 x2 x3 x4 x5 x6 x7 x8))
            (go_ret; rw [HE.out]; exact ⟨rfl, S2, O2⟩)
        · have k125 : isMk 125 t = false := by simpa using h1
          have K125 : ∀ w, Calls Tryd.prog 25 #[.agg #[.int .i64 t.t.kind, .string ⟨t.t.text.toArray⟩, .int .i64 t.t.num, .int .i64 t.at_, .int .i64 t.line, .int .i64 t.col, .bool t.first], .string ⟨#[125]⟩] w fun e w' => e = .returned (.bool false) ∧ Below w.heap.size w w' := fun w => by have := isMark_any t 125 w; rw [k125] at this; exact this
          by_cases h2 : isMk 123 t = true
          · have k123 := h2
            have K123 : ∀ w, Calls Tryd.prog 25 #[.agg #[.int .i64 t.t.kind, .string ⟨t.t.text.toArray⟩, .int .i64 t.t.num, .int .i64 t.at_, .int .i64 t.line, .int .i64 t.col, .bool t.first], .string ⟨#[123]⟩] w fun e w' => e = .returned (.bool true) ∧ Below w.heap.size w w' := fun w => by have := isMark_any t 123 w; rw [k123] at this; exact this
            have HE := Lib.hid (HR.out.symm.trans (show nextK e (.tok t :: q1) bs = (.tell ⟨t, false⟩, q1, 0 :: bs) by simp only [nextK, stepK]; rw [if_neg h1, if_pos h2]))
            clear h1 h2 htp k125 k123
            go_wp2_with (first | (go_at_call 67; refine (take_tok hS hw).mono ?_; rintro ex w1 ⟨rfl, T1, o1⟩; have S1 := T1.alloc_ (.cells #[.int .i64 0, .int .i64 0, .int .i64 t.t.kind, .string ⟨t.t.text.toArray⟩, .int .i64 t.t.num, .int .i64 t.at_, .int .i64 t.line, .int .i64 t.col, .bool t.first] 68); have O1 := (hO.trans o1).alloc (.cells #[.int .i64 0, .int .i64 0, .int .i64 t.t.kind, .string ⟨t.t.text.toArray⟩, .int .i64 t.t.num, .int .i64 t.at_, .int .i64 t.line, .int .i64 t.col, .bool t.first] 68); have hne : w1.heap.size ≠ tb := (by have := T1.lt; omega)) | (go_at_call 68; refine (Ktop _ _ S1).mono ?_; rintro ex w2 ⟨rfl, b2⟩; have BX := (Blk.new w1 #[.int .i64 0, .int .i64 0, .int .i64 t.t.kind, .string ⟨t.t.text.toArray⟩, .int .i64 t.t.num, .int .i64 t.at_, .int .i64 t.line, .int .i64 t.col, .bool t.first] 68).below b2 (by simp); have S2 := S1.below_ b2; have O2 := O1.trans (OffB.of_below b2); have x0 := BX.cell 0; have x1 := BX.cell 1; have x2 := BX.cell 2; have x3 := BX.cell 3; have x4 := BX.cell 4; have x5 := BX.cell 5; have x6 := BX.cell 6; have x7 := BX.cell 7; have x8 := BX.cell 8; simp only [List.getElem?_toArray, List.getElem?_cons_zero, List.getElem?_cons_succ] at x0 x1 x2 x3 x4 x5 x6 x7 x8) | (go_at_call 25; with_reducible refine (K125 _).mono ?_; rintro ex w7 ⟨rfl, b7⟩; have O2 := O2.trans (OffB.of_below b7); have S2 := S2.below_ b7; have BX := BX.below b7 BX.lt; have x0 := BX.cell 0; have x1 := BX.cell 1; have x2 := BX.cell 2; have x3 := BX.cell 3; have x4 := BX.cell 4; have x5 := BX.cell 5; have x6 := BX.cell 6; have x7 := BX.cell 7; have x8 := BX.cell 8; simp only [List.getElem?_toArray, List.getElem?_cons_zero, List.getElem?_cons_succ] at x0 x1 x2 x3 x4 x5 x6 x7 x8) | (go_at_call 25; with_reducible refine (K123 _).mono ?_; rintro ex w7 ⟨rfl, b7⟩; have O2 := O2.trans (OffB.of_below b7); have S2 := S2.below_ b7; have BX := BX.below b7 BX.lt; have x0 := BX.cell 0; have x1 := BX.cell 1; have x2 := BX.cell 2; have x3 := BX.cell 3; have x4 := BX.cell 4; have x5 := BX.cell 5; have x6 := BX.cell 6; have x7 := BX.cell 7; have x8 := BX.cell 8; simp only [List.getElem?_toArray, List.getElem?_cons_zero, List.getElem?_cons_succ] at x0 x1 x2 x3 x4 x5 x6 x7 x8) | (go_at_call 72; refine (push_any S2 (by omega) 0).mono ?_; rintro ex w5 ⟨rfl, S2, o5⟩; have O2 := O2.trans o5; have BX := BX.offB o5 hne; have x0 := BX.cell 0; have x1 := BX.cell 1; have x2 := BX.cell 2; have x3 := BX.cell 3; have x4 := BX.cell 4; have x5 := BX.cell 5; have x6 := BX.cell 6; have x7 := BX.cell 7; have x8 := BX.cell 8; simp only [List.getElem?_toArray, List.getElem?_cons_zero, List.getElem?_cons_succ] at x0 x1 x2 x3 x4 x5 x6 x7 x8))
            (go_ret; rw [HE.out]; refine ⟨?_, S2, O2⟩; exact congrArg Ending.returned HV.out.symm)
          · have k123 : isMk 123 t = false := by simpa using h2
            have K123 : ∀ w, Calls Tryd.prog 25 #[.agg #[.int .i64 t.t.kind, .string ⟨t.t.text.toArray⟩, .int .i64 t.t.num, .int .i64 t.at_, .int .i64 t.line, .int .i64 t.col, .bool t.first], .string ⟨#[123]⟩] w fun e w' => e = .returned (.bool false) ∧ Below w.heap.size w w' := fun w => by have := isMark_any t 123 w; rw [k123] at this; exact this
            have HE := Lib.hid (HR.out.symm.trans (show nextK e (.tok t :: q1) bs = (.tell ⟨t, false⟩, q1, bs) by simp only [nextK, stepK]; rw [if_neg h1, if_neg h2]))
            clear h1 h2 htp k125 k123
            go_wp2_with (first | (go_at_call 67; refine (take_tok hS hw).mono ?_; rintro ex w1 ⟨rfl, T1, o1⟩; have S1 := T1.alloc_ (.cells #[.int .i64 0, .int .i64 0, .int .i64 t.t.kind, .string ⟨t.t.text.toArray⟩, .int .i64 t.t.num, .int .i64 t.at_, .int .i64 t.line, .int .i64 t.col, .bool t.first] 68); have O1 := (hO.trans o1).alloc (.cells #[.int .i64 0, .int .i64 0, .int .i64 t.t.kind, .string ⟨t.t.text.toArray⟩, .int .i64 t.t.num, .int .i64 t.at_, .int .i64 t.line, .int .i64 t.col, .bool t.first] 68); have hne : w1.heap.size ≠ tb := (by have := T1.lt; omega)) | (go_at_call 68; refine (Ktop _ _ S1).mono ?_; rintro ex w2 ⟨rfl, b2⟩; have BX := (Blk.new w1 #[.int .i64 0, .int .i64 0, .int .i64 t.t.kind, .string ⟨t.t.text.toArray⟩, .int .i64 t.t.num, .int .i64 t.at_, .int .i64 t.line, .int .i64 t.col, .bool t.first] 68).below b2 (by simp); have S2 := S1.below_ b2; have O2 := O1.trans (OffB.of_below b2); have x0 := BX.cell 0; have x1 := BX.cell 1; have x2 := BX.cell 2; have x3 := BX.cell 3; have x4 := BX.cell 4; have x5 := BX.cell 5; have x6 := BX.cell 6; have x7 := BX.cell 7; have x8 := BX.cell 8; simp only [List.getElem?_toArray, List.getElem?_cons_zero, List.getElem?_cons_succ] at x0 x1 x2 x3 x4 x5 x6 x7 x8) | (go_at_call 25; with_reducible refine (K125 _).mono ?_; rintro ex w7 ⟨rfl, b7⟩; have O2 := O2.trans (OffB.of_below b7); have S2 := S2.below_ b7; have BX := BX.below b7 BX.lt; have x0 := BX.cell 0; have x1 := BX.cell 1; have x2 := BX.cell 2; have x3 := BX.cell 3; have x4 := BX.cell 4; have x5 := BX.cell 5; have x6 := BX.cell 6; have x7 := BX.cell 7; have x8 := BX.cell 8; simp only [List.getElem?_toArray, List.getElem?_cons_zero, List.getElem?_cons_succ] at x0 x1 x2 x3 x4 x5 x6 x7 x8) | (go_at_call 25; with_reducible refine (K123 _).mono ?_; rintro ex w7 ⟨rfl, b7⟩; have O2 := O2.trans (OffB.of_below b7); have S2 := S2.below_ b7; have BX := BX.below b7 BX.lt; have x0 := BX.cell 0; have x1 := BX.cell 1; have x2 := BX.cell 2; have x3 := BX.cell 3; have x4 := BX.cell 4; have x5 := BX.cell 5; have x6 := BX.cell 6; have x7 := BX.cell 7; have x8 := BX.cell 8; simp only [List.getElem?_toArray, List.getElem?_cons_zero, List.getElem?_cons_succ] at x0 x1 x2 x3 x4 x5 x6 x7 x8))
            (go_ret; rw [HE.out]; refine ⟨?_, S2, O2⟩; exact congrArg Ending.returned HV.out.symm)
end Go.Proofs.YtnidkdjapieinaaDoor
