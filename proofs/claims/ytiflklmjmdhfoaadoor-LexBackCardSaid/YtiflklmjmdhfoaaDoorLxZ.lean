/- The walk of LexBack. -/
import Derived.Test.YtiflklmjmdhfoaaDoorLxY
import Derived.Test.YtiflklmjmdhfoaaDoorLxW
namespace Go.Proofs.YtiflklmjmdhfoaaDoor
open Go.RowKit Go.Shelf
set_option linter.unusedSimpArgs false

theorem textGo_len : ∀ (f : Nat) (l b : List UInt8) (i : Nat) (t : Tk) (n : Nat), textGo f l b i = .tok t n → b.length ≤ i → t.text.length ≤ n
  | 0, _, _, _, _, _, h, _ => by cases h
  | f + 1, [], _, _, _, _, h, _ => by cases h
  | f + 1, a :: r, b, i, t, n, h, hb => by
    simp only [textGo] at h
    split at h
    · cases h; simp only; omega
    · split at h
      · exact textGo_len f _ _ _ _ _ h (by omega)
      · split at h
        · cases h
        · rename_i c m hc
          have := (char_take _ _ _ _ hc).1
          exact textGo_len f _ _ _ _ _ h (by simp; omega)
theorem tok_len (l : List UInt8) (t : Tk) (n : Nat) (h : oneK l = .tok t n) : t.text.length ≤ l.length := by
  cases l with
  | nil => cases h
  | cons a r =>
    have tk : ∀ k, ((a :: r).take k).length ≤ (a :: r).length := fun k => by rw [List.length_take]; omega
    simp only [oneK] at h
    cases e1 : nameK (a :: r) with
    | bad => rw [e1] at h; cases h
    | tok t' n' =>
      rw [e1] at h; cases h
      simp only [nameK] at e1
      split at e1
      · cases e1; exact tk _
      · cases e1
    | no =>
    rw [e1] at h
    simp only [Fd.or] at h
    cases e2 : conK (a :: r) with
    | bad => rw [e2] at h; cases h
    | tok t' n' =>
      rw [e2] at h; cases h
      simp only [conK] at e2
      split at e2
      · cases e2; exact tk _
      · cases e2
    | no =>
    rw [e2] at h
    simp only [Fd.or] at h
    cases e3 : symbolK (a :: r) with
    | bad => rw [e3] at h; cases h
    | tok t' n' =>
      rw [e3] at h; cases h
      simp only [symbolK] at e3
      split at e3
      · cases e3
      · cases e3; exact tk _
    | no =>
    rw [e3] at h
    simp only [Fd.or] at h
    cases e4 : numberK (a :: r) with
    | bad => rw [e4] at h; cases h
    | tok t' n' =>
      rw [e4] at h; cases h
      simp only [numberK] at e4
      split at e4
      · split at e4
        · obtain ⟨rfl, x, hx, rfl⟩ := fdNum_tok e4; simp
        · obtain ⟨rfl, x, hx, rfl⟩ := fdNum_tok e4; simp
      · cases e4
    | no =>
    rw [e4] at h
    simp only [Fd.or] at h
    cases e5 : charTK (a :: r) with
    | bad => rw [e5] at h; cases h
    | tok t' n' =>
      rw [e5] at h; cases h
      simp only [charTK] at e5
      split at e5
      · split at e5
        · cases e5
        · split at e5
          · cases e5
          · split at e5
            · cases e5; simp
            · cases e5
      · cases e5
    | no =>
    rw [e5] at h
    simp only [Fd.or] at h
    cases e6 : textK (a :: r) with
    | bad => rw [e6] at h; cases h
    | tok t' n' =>
      rw [e6] at h; cases h
      have hs := ((stab_text (a :: r) 1 (Nat.le_refl _)).2 t n e6).1.2
      simp only [textK] at e6
      split at e6
      · have := textGo_len _ _ _ _ _ _ e6 (by simp); omega
      · cases e6
    | no =>
    rw [e6] at h
    simp only [Fd.or, markK] at h
    split at h
    · cases h; simp
    · cases h
theorem lexes_len {l : List UInt8} {ss : List (Option Tk × Nat)} (h : Lexes l ss) : ∀ t ∈ toks ss, t.text.length ≤ l.length := by
  induction h with
  | nil => simp [toks]
  | @skip l n ss hs _ ih => intro t ht; have := ih t ht; rw [List.length_drop] at this; omega
  | @tok l t n ss hs _ ih =>
    intro x hx
    rcases List.mem_cons.1 hx with rfl | hx
    · unfold step1 at hs
      split at hs
      · cases hs
      · split at hs
        · cases hs
        · split at hs
          · cases hs
          · cases ho : oneK l with
            | no => rw [ho] at hs; cases hs
            | bad => rw [ho] at hs; cases hs
            | tok t' n' => rw [ho] at hs; cases hs; exact tok_len l _ _ ho
    · have := ih x hx; rw [List.length_drop] at this; omega
theorem wf_num {t : Tk} (h : Wf t) : t.num ≤ 9223372036854775807 := by
  rcases h with ⟨_, h, _⟩ | ⟨_, h, _⟩ | ⟨_, h, _⟩ | ⟨h, _⟩ | ⟨_, _, h⟩ | ⟨_, _, h⟩ | ⟨_, h⟩ | ⟨_, h, _⟩ <;> omega
theorem shownK_len (q : Nat) (c : UInt8) : (shownK q c).length ≤ 24 := by
  have h := digs_len 20 c.toNat
  unfold shownK
  split
  · simp
  · split
    · simp
    · have : (digsK c.toNat).length ≤ 21 := h
      split <;> simp <;> omega
theorem shownL_len (q : Nat) : ∀ l : List UInt8, (shownL q l).length ≤ 24 * l.length
  | [] => by simp [shownL]
  | c :: l => by
    have h1 := shownK_len q c
    have h2 := shownL_len q l
    simp only [shownL, List.length_append, List.length_cons]; omega
theorem txtK_len (t : Tk) : (txtK t).length ≤ 24 * t.text.length + 26 := by
  unfold txtK
  split
  · have : (digsK t.num).length ≤ 21 := digs_len 20 _; omega
  · split
    · have := shownK_len 39 (UInt8.ofNat (min 255 t.num)); simp; omega
    · split
      · have := shownL_len 34 t.text; simp; omega
      · split
        · omega
        · simp
theorem sum_le (B : Nat) : ∀ l : List (List UInt8), (∀ x ∈ l, x.length ≤ B) → (l.map fun x => x.length + 1).sum ≤ l.length * (B + 1)
  | [], _ => by simp
  | x :: l, h => by
    have h1 := h x (by simp)
    have h2 := sum_le B l fun y hy => h y (List.mem_cons_of_mem _ hy)
    rw [List.map_cons, List.sum_cons, List.length_cons, Nat.add_mul]; omega

set_option maxRecDepth 100000 in
set_option maxHeartbeats 8000000 in
theorem back_walk (s : ByteArray) (hs : s.size ≤ 9223372036854775807) (w : World) (ht : Tab w) :
    Calls Tryd.prog 8 #[.string s] w fun e w' => e = .returned (.bool true) ∧ Below w.heap.size w w' := by
  have hsl : s.data.toList.length = s.size := rfl
  by_cases hbig : 4000 < s.size
  · have d0 : decide ((4000 : Int) < (s.size : Int)) = true := by simp; omega
    go_enter Tryd.func8, Tryd.ntmps8
    go_wp2_with (go_at_call 9; refine (lives_true _).mono ?_; rintro e w0 ⟨rfl, b0⟩)
    go_ret
    exact ⟨rfl, b0⟩
  · have d0 : decide ((4000 : Int) < (s.size : Int)) = false := by simp; omega
    rcases allF_sort s.data.toList with ⟨h1, h2, h3⟩ | ⟨h1, h2⟩
    · obtain ⟨ts, hts⟩ : ∃ ts, (allF s.data.toList).2 = ts := ⟨_, rfl⟩
      rw [hts] at h2
      obtain ⟨ss, hlex, hpl⟩ := allK_ok _ _ h2
      have htk : ts.map Tp.t = toks ss := by rw [hpl, placed_toks]
      have hwf : ∀ x ∈ ts, Wf x.t ∧ x.t.text.length ≤ 4000 := fun x hx => by
        have hm : x.t ∈ toks ss := by rw [← htk]; exact List.mem_map_of_mem hx
        exact ⟨lexes_wf hlex _ hm, by have := lexes_len hlex _ hm; omega⟩
      have hNb : ts.length ≤ 4000 := by rw [hpl]; exact Nat.le_trans (placed_len hlex _ _ _) (by omega)
      have hmap : (ts.map fun x => txtI x.t.kind x.t.num x.t.text) = (ts.map Tp.t).map txtK := by
        rw [List.map_map]
        exact List.map_congr_left fun x hx => txt_same x.t (wf_num (hwf x hx).1)
      obtain ⟨r, hr⟩ : ∃ r : ByteArray, joinL (ts.map fun x => txtI x.t.kind x.t.num x.t.text) = r.data.toList := ⟨⟨(joinL (ts.map fun x => txtI x.t.kind x.t.num x.t.text)).toArray⟩, by simp⟩
      have hz : (joinL (ts.map fun x => txtI x.t.kind x.t.num x.t.text)).length ≤ 1000000000000 := by
        have g1 := joinL_len (ts.map fun x => txtI x.t.kind x.t.num x.t.text)
        have g2 := sum_le 96026 (ts.map fun x => txtI x.t.kind x.t.num x.t.text) (fun y hy => by
          rw [hmap, List.map_map] at hy
          obtain ⟨x, hx, rfl⟩ := List.mem_map.1 hy
          have := txtK_len x.t
          have := (hwf x hx).2
          show (txtK x.t).length ≤ _
          omega)
        rw [List.length_map] at g2
        have g3 : ts.length * (96026 + 1) ≤ 4000 * 96027 := Nat.mul_le_mul_right _ hNb
        omega
      have hrz : r.size ≤ 1000000000000 := by show r.data.toList.length ≤ _; rw [← hr]; exact hz
      have hrk : r.data.toList = joinK (ts.map Tp.t) := by rw [← hr, hmap, join_txt]
      obtain ⟨res, hres, hrt⟩ := back_all _ _ h2
      rw [← hrk] at hres
      have hprint := all_print _ _ h2
      rw [← hrk] at hprint
      have K := Lib.hid (fun w => all_known s hs (0, 0) ts h1 hts w)
      have J := Lib.hid (fun v w (h : TRd w v ts) ht => join_any v ts w h (by omega) (fun x hx => ⟨by have := (hwf x hx).2; omega, wf_num (hwf x hx).1⟩) hz ht)
      rw [show (⟨(joinL (ts.map fun x => txtI x.t.kind x.t.num x.t.text)).toArray⟩ : ByteArray) = r by rw [hr]] at J
      have K2 : r.size ≤ 65536 → ∀ w, Calls Tryd.prog 10 #[.string r] w fun e w' => ∃ v, e = .returned (.tuple #[v, .agg #[.int .i64 0, .int .i64 0]]) ∧ TRd w' v res ∧ Below w.heap.size w w' := fun hr6 w => by
        have hc : checkF r.data.toList = (0, 0) := by
          rw [checkF_iff]
          refine ⟨hr6, fun c hc => ?_⟩
          have := hprint c hc
          unfold badB
          simp; omega
        have hF := allF_of _ res hc hres
        exact all_known r (by omega) (0, 0) res (by rw [hF]) (by rw [hF]) w
      have K2 := Lib.hid K2
      have hlr : res.length = ts.length := by rw [← List.length_map (f := Tp.t), hrt, List.length_map]
      have Hrt := Lib.hid hrt
      have Htb := Lib.hid ht
      clear h1 h2 h3 hts hlex hpl htk hwf hmap hz hr hrk hres hrt hprint ht
      by_cases hr6 : 65536 < r.size
      · have d1 : decide ((65536 : Int) < (r.size : Int)) = true := by simp; omega
        clear K2 hlr
        go_enter Tryd.func8, Tryd.ntmps8
        go_wp2_with (first | (go_at_call 9; refine (lives_true _).mono ?_; rintro e w0 ⟨rfl, b0⟩) | (go_at_call 10; refine (K.out _).mono ?_; rintro e w1 ⟨v, rfl, hrd, b1⟩; have B1 := (chain b0 b1).alloc (chain b0 b1).size (.cells #[.int .i64 0, .int .i64 0] 26); have R1 := hrd.below ((Below.refl _ w1).alloc (Nat.le_refl _) (.cells #[.int .i64 0, .int .i64 0] 26))) | (go_at_call 19; refine (J.out _ _ R1 (Tab.on Htb.out B1)).mono ?_; rintro e w2 ⟨rfl, b2⟩))
        go_ret
        exact ⟨rfl, chain B1 b2⟩
      · have d1 : decide ((65536 : Int) < (r.size : Int)) = false := by simp; omega
        have K3 := Lib.hid (K2.out (by omega))
        clear K2
        go_enter Tryd.func8, Tryd.ntmps8
        go_wp2_with (first | (go_at_call 9; refine (lives_true _).mono ?_; rintro e w0 ⟨rfl, b0⟩) | (go_at_call 19; refine (J.out _ _ R1 (Tab.on Htb.out B1)).mono ?_; rintro e w2 ⟨rfl, b2⟩; clear K; have B2 := chain B1 b2; have R2 := R1.below b2) | (go_at_call 10; refine (K.out _).mono ?_; rintro e w1 ⟨v, rfl, ⟨a1, cap1, rfl, hrd⟩, b1⟩; have B1 := (chain b0 b1).alloc (chain b0 b1).size (.cells #[.int .i64 0, .int .i64 0] 26); have R1 := TRd.below ⟨a1, cap1, rfl, hrd⟩ ((Below.refl _ w1).alloc (Nat.le_refl _) (.cells #[.int .i64 0, .int .i64 0] 26))) | (go_at_call 10; refine (K3.out _).mono ?_; rintro e w3 ⟨v3, rfl, ⟨a3, cap3, rfl, hrd3⟩, b3⟩; have B3 := (chain B2 b3).alloc (chain B2 b3).size (.cells #[.int .i64 0, .int .i64 0] 26); have R3 := (R2.below b3).below ((Below.refl _ w3).alloc (Nat.le_refl _) (.cells #[.int .i64 0, .int .i64 0] 26)); have R4 := TRd.below ⟨a3, cap3, rfl, hrd3⟩ ((Below.refl _ w3).alloc (Nat.le_refl _) (.cells #[.int .i64 0, .int .i64 0] 26))))
        generalize w3.alloc (.cells #[.int .i64 0, .int .i64 0] 26) = W at B3 R3 R4 ⊢
        clear R1 R2 B1 B2 hrd hrd3 b0 b1 b2 b3 J K3
        obtain ⟨a', cap', e, hr⟩ := R3
        cases e
        obtain ⟨a'', cap'', e, hr2⟩ := R4
        rw [hlr] at e
        cases e
        obtain ⟨N, hN⟩ : ∃ N, ts.length = N := ⟨_, rfl⟩
        have HN := Lib.hid hN
        have HN2 := Lib.hid (hlr.trans hN)
        rw [hN] at hNb ⊢
        have Hr := Lib.hid hr
        have Hr2 := Lib.hid hr2
        clear hr hr2 hN hlr
        go_loopw [8] (fun i wr => ∃ k : Nat, i = .int .i64 k ∧ k ≤ N ∧ Below W.heap.size W wr) (fun i _ => N - (intOf i).toNat)
        case atStart => exact ⟨0, rfl, Nat.zero_le _, Below.refl _ _⟩
        case round =>
          obtain ⟨k, rfl, hk, hB⟩ := hrel
          by_cases hlt : k < N
          · have hlt2 : decide ((k : Int) < (N : Int)) = true := by simp; omega
            have hlt3 : decide (k < N) = true := by simp; omega
            have hkt : k < ts.length := by rw [HN.out]; exact hlt
            have hkr : k < res.length := by rw [HN2.out]; exact hlt
            obtain ⟨b, rfl, hbl, hat⟩ := Hr.out (by omega)
            obtain ⟨b', rfl, hbl', hat'⟩ := Hr2.out (by omega)
            have key : ∀ b o, b < W.heap.size → wr.cell? ⟨b, o, none⟩ = W.cell? ⟨b, o, none⟩ := fun b o h => hB.cell (p := ⟨b, o, none⟩) h
            obtain ⟨c0, c1, c2, _, _, _, _⟩ := hat k hkt
            obtain ⟨g0, g1, g2, _, _, _, _⟩ := hat' k hkr
            rw [← key _ _ hbl] at c0 c1 c2
            rw [← key _ _ hbl'] at g0 g1 g2
            have hsame : res[k].t = ts[k].t := by
              have := congrArg (fun l => l[k]?) Hrt.out
              simp only [List.getElem?_map, List.getElem?_eq_getElem hkt, List.getElem?_eq_getElem hkr, Option.map_some, Option.some.injEq] at this
              exact this
            rw [hsame] at g0 g1 g2
            generalize ts[k].t = t at c0 c1 c2 g0 g1 g2
            clear hat hat' key hsame
            go_wp2
            go_quiet (fail)
            go_wp2
            go_roundw
            case rel => exact ⟨k + 1, by go_num, by omega, below_drewN hB _⟩
            case measure => simp [intOf]; omega
          · have hlt2 : decide ((k : Int) < (N : Int)) = false := by simp; omega
            have hlt3 : decide (k < N) = false := by simp; omega
            go_wp2
            go_ret
            exact ⟨rfl, B3.trans (hB.mono B3.size)⟩
    · obtain ⟨⟨x, y⟩, hx⟩ : ∃ x, (allF s.data.toList).1 = x := ⟨_, rfl⟩
      have K := Lib.hid (fun w => all_known s hs (x, y) [] hx h2 w)
      rw [hx] at h1
      have d1 : (x == 0) = false := by rw [beq_eq_false_iff_ne]; exact h1
      have d2 : (x != 0) = true := by rw [bne_iff_ne]; exact h1
      clear hx h2 h1
      go_enter Tryd.func8, Tryd.ntmps8
      go_wp2_with (first | (go_at_call 9; refine (lives_true _).mono ?_; rintro e w0 ⟨rfl, b0⟩) | (go_at_call 10; refine (K.out _).mono ?_; rintro e w1 ⟨v, rfl, ⟨a, cap, rfl, hrd⟩, b1⟩))
      go_ret
      exact ⟨rfl, (chain b0 b1).alloc (chain b0 b1).size _⟩
end Go.Proofs.YtiflklmjmdhfoaaDoor
