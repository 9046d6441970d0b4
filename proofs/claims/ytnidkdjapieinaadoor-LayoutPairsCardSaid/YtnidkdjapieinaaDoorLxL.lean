/- Contract of lex.text: the finder of strings. -/
import Derived.Test.YtnidkdjapieinaaDoorLxK
import Derived.Test.YtnidkdjapieinaaDoorLxV
namespace Go.Proofs.YtnidkdjapieinaaDoor
open Go.RowKit Go.Shelf
set_option linter.unusedSimpArgs false

theorem text_at (f : Nat) (l b : List UInt8) (i k : Nat) (h : k < l.length) :
    textGo (f + 1) (l.drop k) b i = (if l[k].toNat = 34 then .tok ⟨7, b, 0⟩ (i + 1)
      else if gapK (l.drop k) ≠ 0 then textGo f ((l.drop k).drop (gapK (l.drop k))) b (i + gapK (l.drop k))
      else match charK (l.drop k) 34 with
        | none => .bad
        | some (c, n) => textGo f ((l.drop k).drop n) (b ++ [UInt8.ofNat c]) (i + n)) := by
  rw [List.drop_eq_getElem_cons h, textGo]
  rfl
theorem text_end (f : Nat) (l b : List UInt8) (i k : Nat) (h : l.length ≤ k) : textGo f (l.drop k) b i = .bad := by
  rw [List.drop_eq_nil_of_le h]
  cases f <;> rfl
theorem gap_known (s : ByteArray) (hs : s.size ≤ 100000) (g : Nat) (h : gapK s.data.toList = g) (w : World) :
    Calls Tryd.prog 66 #[.string s] w fun e w' => e = .returned (.int .i64 g) ∧ Below w.heap.size w w' := by
  rw [← h]; exact gap_any s hs w
theorem fd_tok7 (l : List UInt8) (n : Nat) : Ending.returned (fdV (.tok ⟨7, l, 0⟩ n)) = .returned (.tuple #[.agg #[.int .i64 7, .string ⟨l.toArray⟩, .int .i64 0, .int .i64 0, .int .i64 0, .int .i64 0, .bool false], .int .i64 n]) := rfl

set_option maxRecDepth 100000 in
set_option maxHeartbeats 8000000 in
theorem text_any (s : ByteArray) (hs : s.size ≤ 100000) (h0 : 0 < s.size) (w : World) :
    Calls Tryd.prog 46 #[.string s] w fun e w' => e = .returned (fdV (textK s.data.toList)) ∧ Below w.heap.size w w' := by
  have hh := head_of s h0
  obtain ⟨a, r, hl⟩ : ∃ a r, s.data.toList = a :: r := ⟨_, _, hh⟩
  obtain ⟨_, ha⟩ := head_eq s a r hl
  have hsl : s.data.toList.length = s.size := rfl
  obtain ⟨i0, hi, hz0, hz1, hz2⟩ := info_parts info5
  clear hh
  by_cases hq : a.toNat = 34
  · have hr : textK s.data.toList = textGo s.data.toList.length (s.data.toList.drop 1) [] 1 := by rw [hl]; simp only [textK]; rw [if_pos hq]; rfl
    have d0 : ((s[0].toNat : Int) != 34) = false := by rw [ha, bne_eq_false_iff_eq]; omega
    have Hr := Lib.hid hr
    clear hr hl ha hq
    go_enter Tryd.func46, Tryd.ntmps46
    go_wp2
    go_loopw [4, 5] (fun v i wr => ∃ (k f : Nat) (b : List UInt8), i = .int .i64 k ∧ 1 ≤ k ∧ k ≤ s.size ∧ b.length ≤ k ∧ s.size ≤ f + k ∧ BOwn wr (w.heap.size + 1) v b ∧ TokB w wr ∧ Hid (textK s.data.toList = textGo f (s.data.toList.drop k) b k)) (fun _ i _ => s.size - (intOf i).toNat)
    case atStart => exact ⟨1, s.data.toList.length, [], rfl, Nat.le_refl _, h0, by simp, by omega, World.ownsRow_nil _ _ _ _, TokB.start w, Hr⟩
    case round =>
      obtain ⟨k, f, b, rfl, hk1, hk, hbk, hf, hown, hT, Hk⟩ := hrel
      obtain ⟨vb, cap, rfl⟩ := own_shape hown
      obtain ⟨⟨ka, kb, kc, kd, ke, kf, kg⟩, fa, fb, fc, fd, fe, ff, fg⟩ := hT.cells
      by_cases hlt : k < s.size
      · have hlt2 : decide ((k : Int) < s.size) = true := by simp; omega
        have hlt3 : decide (k < s.size) = true := by simp; omega
        obtain ⟨g, rfl⟩ : ∃ g, f = g + 1 := ⟨f - 1, by omega⟩
        have Ht := Hk.out.trans (text_at g s.data.toList b k k hlt)
        by_cases c1 : s.data.toList[k].toNat = 34
        · have Hn := Lib.hid (Ht.trans (if_pos c1))
          have e1 : ((s[k].toNat : Int) == 34) = true := by rw [beq_iff_eq]; exact congrArg Int.ofNat c1
          have hcv := run_back wr _ _ b hown
          clear Ht c1
          go_wp2
          exact bodyPost_ret (v := .tuple #[.agg #[.int .i64 7, .string ⟨b.toArray⟩, .int .i64 0, .int .i64 0, .int .i64 0, .int .i64 0, .bool false], .int .i64 ((k + 1 : Nat) : Int)]) (by simp [results, Tryd.results46, go_sem, ka, kb, kc, kd, ke, kf, kg]) rfl ⟨by rw [Hn.out, fd_tok7], hT.set7 _ _ _ _ _ _ _⟩
        · have Ht := Ht.trans (if_neg c1)
          have e1 : ((s[k].toNat : Int) == 34) = false := by rw [beq_eq_false_iff_ne]; intro h; exact c1 (Int.ofNat.inj h)
          obtain ⟨u, hu⟩ : ∃ u, s.extract k s.size = u := ⟨_, rfl⟩
          have hud : u.data.toList = s.data.toList.drop k := by rw [← hu, drop_data]
          have huz : u.size ≤ 100000 := by show u.data.toList.length ≤ _; rw [hud, List.length_drop]; omega
          obtain ⟨m, hm⟩ : ∃ m, gapK u.data.toList = m := ⟨_, rfl⟩
          have Hg := Lib.hid (fun w => gap_known u huz m hm w)
          have hgl := (gap_take u.data.toList 0).2
          rw [hm] at hgl
          rw [← hud, hm] at Ht
          have hul : u.data.toList.length = s.size - k := by rw [hud, List.length_drop, hsl]
          by_cases c2 : m ≠ 0
          · have Ht := Ht.trans (if_pos c2)
            rw [hud, List.drop_drop] at Ht
            have Hn := Lib.hid Ht
            have hm2 := (hgl c2).1
            have hm3 : k + m ≤ s.size := by omega
            have hm1 : 1 ≤ m := by omega
            have e2 : decide (0 < (m : Int)) = true := by simp; omega
            have e3 : decide (0 < m) = true := by simp; omega
            clear Ht c1 c2 hud huz hm hgl hul hm2
            go_wp2_with (go_at_call 66; refine (Hg.out _).mono ?_; rintro e w1 ⟨rfl, b1⟩)
            go_roundw
            case rel => exact ⟨k + m, g, b, by go_num, by omega, by omega, by omega, by omega, own_on hown b1 (own_lt hown), hT.next b1, Hn⟩
            case measure => simp [intOf]; omega
          · obtain rfl : m = 0 := by omega
            have Ht := Ht.trans (if_neg c2)
            have e2 : decide (0 < ((0 : Nat) : Int)) = false := rfl
            cases hc : charK u.data.toList 34 with
            | none =>
              have Hn := Lib.hid (Ht.trans (by rw [hc]))
              have Hc := Lib.hid (fun w => character_known u huz 34 (by decide) none hc w)
              rw [charV_no] at Hc
              clear Ht c1 c2 hud huz hm hgl hul hc
              go_wp2_with (first | (go_at_call 66; refine (Hg.out _).mono ?_; rintro e w1 ⟨rfl, b1⟩) | (go_at_call 65; refine (Hc.out _).mono ?_; rintro e w2 ⟨rfl, b2⟩; have t2 := (hT.next b1).next b2; obtain ⟨⟨la, lb, lc, ld, le, lf, lg⟩, xa, xb, xc, xd, xe, xf, xg⟩ := t2.cells))
              exact bodyPost_ret (v := .tuple #[.agg #[.int .i64 0, .string ⟨#[]⟩, .int .i64 0, .int .i64 0, .int .i64 0, .int .i64 0, .bool false], .int .i64 (-1)]) (by simp [results, Tryd.results46, go_sem, la, lb, lc, ld, le, lf, lg]) rfl ⟨by rw [Hn.out, fd_bad], t2.set7 _ _ _ _ _ _ _⟩
            | some p =>
              obtain ⟨c, n⟩ := p
              obtain ⟨⟨n1, n2⟩, n3, _⟩ := char_take _ 34 c n hc
              have Ht := Ht.trans (by rw [hc])
              simp only at Ht
              rw [hud, List.drop_drop] at Ht
              have Hn := Lib.hid Ht
              have Hc := Lib.hid (fun w => character_known u huz 34 (by decide) (some (c, n)) hc w)
              rw [charV_yes] at Hc
              have e3 : ((n : Int) == 0) = false := by rw [beq_eq_false_iff_ne]; omega
              have hw1 : IntKind.u8.wrap (c : Int) = c := IntWalk.u8_in _ (by omega)
              have hm3 : k + n ≤ s.size := by omega
              have hcc : ((UInt8.ofNat c).toNat : Int) = (c : Int) := by simp; omega
              have Hcc := Lib.hid hcc
              clear Ht c1 c2 hud huz hm hgl hul hc n2 hcc
              go_wp2_with (first | (go_at_call 66; refine (Hg.out _).mono ?_; rintro e w1 ⟨rfl, b1⟩) | (go_at_call 65; refine (Hc.out _).mono ?_; rintro e w2 ⟨rfl, b2⟩; have t2 := (hT.next b1).next b2; have own2 := own_on (own_on hown b1 (own_lt hown)) b2 (own_lt (own_on hown b1 (own_lt hown)))) | (at_builtin; refine wpList_append_own _ rfl _ _ 86 rfl (w.heap.size + 1) 5 i0 (.int .u8 0) 1 1 Tryd.underlying86 hi hz0 hz1 hz2 rfl (by decide) _ _ _ rfl (own2.alloc _) ⟨w2.heap.size, 0, none⟩ 1 1 [.int .u8 c] rfl rfl (cell_one_new _ _ _) (by simp [Value.oneCell']) (by unfold maxLen; omega) (by omega) (by have := t2.size; simp at this; simp; omega) ?_; intro v3 w3 hrow3 hgrow3 _))
              have t3 : TokB w w3 := grown_below (Below.alloc t2 t2.size _) hgrow3 (own2.alloc _) (by have := t2.size; simp at this ⊢; omega) (by simp)
              go_wp2
              go_roundw
              case rel =>
                refine ⟨k + n, g, b ++ [UInt8.ofNat c], by go_num, by omega, by omega, by simp; omega, by omega, ?_, t3, Hn⟩
                have e : bV (b ++ [UInt8.ofNat c]) = bV b ++ [.int .u8 c] := by rw [bV_app]; simp only [bV, List.map_cons, List.map_nil]; rw [Hcc.out]
                show World.ownsRow _ _ _ _ _ _ _
                rw [e, List.length_append]
                exact hrow3
              case measure => simp [intOf]; omega
      · have hlt2 : decide ((k : Int) < s.size) = false := by simp; omega
        have hlt3 : decide (k < s.size) = false := by simp; omega
        have Hn := Lib.hid (Hk.out.trans (text_end f s.data.toList b k k (by omega)))
        go_wp2
        exact bodyPost_ret (v := .tuple #[.agg #[.int .i64 0, .string ⟨#[]⟩, .int .i64 0, .int .i64 0, .int .i64 0, .int .i64 0, .bool false], .int .i64 (-1)]) (by simp [results, Tryd.results46, go_sem, ka, kb, kc, kd, ke, kf, kg]) rfl ⟨by rw [Hn.out, fd_bad], hT.set7 _ _ _ _ _ _ _⟩
  · have hr : textK s.data.toList = .no := by rw [hl]; simp only [textK]; rw [if_neg hq]
    have d0 : ((s[0].toNat : Int) != 34) = true := by rw [ha, bne_iff_ne]; omega
    have Hr := Lib.hid hr
    clear hr hl ha hq
    go_enter Tryd.func46, Tryd.ntmps46
    go_wp2
    exact bodyPost_ret (v := .tuple #[.agg #[.int .i64 0, .string ⟨#[]⟩, .int .i64 0, .int .i64 0, .int .i64 0, .int .i64 0, .bool false], .int .i64 0]) (by simp [results, Tryd.results46, go_sem, hs]) rfl ⟨by rw [Hr.out, fd_no], by exact (by ((repeat (first | exact Below.refl _ _ | (refine Below.alloc ?_ (by first | (simp [World.setCell]; done) | (simp [World.setCell]; omega)) _) | (refine Below.setCell ?_ (by first | (simp [World.setCell]; done) | (simp [World.setCell]; omega)) _) | refine Below.drew ?_ | (refine Below.trans ?_ ((below_drewN _ _).mono (by first | (simp [World.setCell]; done) | (simp [World.setCell]; omega))))))))⟩
end Go.Proofs.YtnidkdjapieinaaDoor
