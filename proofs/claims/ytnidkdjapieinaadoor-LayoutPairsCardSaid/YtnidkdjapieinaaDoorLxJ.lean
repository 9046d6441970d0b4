/- Contract of lex.remark. -/
import Derived.Test.YtnidkdjapieinaaDoorLxH
namespace Go.Proofs.YtnidkdjapieinaaDoor
open Go.RowKit Go.Shelf

theorem dash_iff : ∀ l : List UInt8, dashes l = true ↔ ∀ c ∈ l, c = 45
  | [] => by simp [dashes]
  | a :: l => by
    simp only [dashes, Bool.and_eq_true, dash_iff l, List.mem_cons, forall_eq_or_imp, beq_iff_eq]
    constructor
    · rintro ⟨h, h2⟩; exact ⟨UInt8.toNat_inj.1 h, h2⟩
    · rintro ⟨h, h2⟩; exact ⟨by rw [h]; rfl, h2⟩
theorem dropw_all (l : List UInt8) : l.dropWhile (· == 45) = [] ↔ ∀ c ∈ l, c = 45 := by
  induction l with
  | nil => simp
  | cons a l ih =>
    by_cases h : a = 45
    · subst h; simp [ih]
    · simp [h]
theorem trim_dash (l : List UInt8) : (Lib.trimB l 45).isEmpty = dashes l := by
  have : Lib.trimB l 45 = [] ↔ dashes l = true := by
    unfold Lib.trimB Lib.trimLeftB Lib.trimRightB
    rw [dropw_all, dash_iff]
    constructor
    · intro h
      have e : l.reverse.dropWhile (· == 45) = [] := by
        cases hd : l.reverse.dropWhile (· == 45) with
        | nil => rfl
        | cons a r =>
          have ha := h a (by rw [hd]; simp)
          have := List.head_dropWhile_not (fun x : UInt8 => x == 45) (l := l.reverse) (by rw [hd]; simp)
          simp only [hd, List.head_cons] at this
          rw [ha] at this; simp at this
      have := (dropw_all l.reverse).1 e
      intro c hc; exact this c (by simpa using hc)
    · intro h c hc
      have := (dropw_all l.reverse).2 (fun c hc => h c (by simpa using hc))
      rw [this] at hc; simp at hc
  cases hd : dashes l with
  | true => rw [this.2 hd]; rfl
  | false =>
    cases ht : Lib.trimB l 45 with
    | nil => rw [this.1 ht] at hd; cases hd
    | cons a r => rfl
theorem trim_low (u : ByteArray) (hu : u.size ≤ 100000) (w : World) :
    Calls Tryd.prog 21 #[.string u, .string ⟨#[45]⟩] w fun e w' => e = .returned (.string ⟨(Lib.trimB u.data.toList 45).toArray⟩) ∧ Below w.heap.size w w' := by
  refine (Tryd.strings_Trim_one u 45 (by decide) w (by omega)).mono ?_
  rintro e w' ⟨rfl, h⟩
  refine ⟨rfl, ?_⟩
  rcases h with rfl | rfl
  · exact Below.refl _ _
  · exact (Below.refl _ w).drew
theorem nl_index : ∀ l : List UInt8, (Lib.indexByte l 10 = -1 ∧ spanB (fun n => !Nat.beq n 10) l = l.length) ∨ (Lib.indexByte l 10 = (spanB (fun n => !Nat.beq n 10) l : Nat))
  | [] => .inl ⟨rfl, rfl⟩
  | a :: l => by
    by_cases h : a = 10
    · subst h
      exact .inr (by rw [Lib.indexByte, spanP0]; rfl)
    · have hn : (!Nat.beq a.toNat 10) = true := by
        cases e : Nat.beq a.toNat 10 with
        | false => rfl
        | true => exact absurd (UInt8.toNat_inj.1 (Nat.eq_of_beq_eq_true e)) h
      rw [Lib.indexByte, spanB, if_neg (by simpa using h), if_pos hn]
      rcases nl_index l with ⟨h1, h2⟩ | h1
      · exact .inl ⟨by rw [h1]; rfl, by rw [h2]; rfl⟩
      · refine .inr ?_
        rw [h1, if_neg]
        · rfl
        · rw [beq_iff_eq]; omega
where spanP0 {l : List UInt8} : spanB (fun n => !Nat.beq n 10) (10 :: l) = 0 := by rw [spanB, if_neg (by decide)]

theorem nest_two (l : List UInt8) (f : Nat) (d : Int) (k : Nat) (h : k + 1 < l.length) :
    nestGo (f + 1) (l.drop k) d k = if l[k] = 123 ∧ l[k + 1] = 45 then nestGo f (l.drop (k + 2)) (d + 1) (k + 2)
      else if l[k] = 45 ∧ l[k + 1] = 125 then (if d - 1 = 0 then ((k + 2 : Nat) : Int) else nestGo f (l.drop (k + 2)) (d - 1) (k + 2))
      else nestGo f (l.drop (k + 1)) d (k + 1) := by
  rw [List.drop_eq_getElem_cons (by omega : k < l.length), List.drop_eq_getElem_cons h, nestGo]
theorem nest_end (l : List UInt8) (f : Nat) (d : Int) (k : Nat) (h : l.length ≤ k + 1) : nestGo f (l.drop k) d k = -1 := by
  cases f with
  | zero => rfl
  | succ f =>
    by_cases hk : k < l.length
    · rw [List.drop_eq_getElem_cons hk, List.drop_eq_nil_of_le (by omega)]; rfl
    · rw [List.drop_eq_nil_of_le (by omega)]; rfl
theorem two_bytes (s : ByteArray) (k : Nat) (h : k + 1 < s.size) : (s.extract k (k + 2)).data.toList = [s[k], s[k + 1]] := by
  rw [ext_data, Nat.add_sub_cancel_left, List.drop_eq_getElem_cons (by show k < s.data.toList.length; exact Nat.lt_of_succ_lt h), List.drop_eq_getElem_cons (show k + 1 < s.data.toList.length from h)]
  rfl

set_option maxRecDepth 100000 in
set_option maxHeartbeats 8000000 in
theorem remark_line (s : ByteArray) (hs : s.size ≤ 100000) (h : 2 ≤ spanB symN s.data.toList ∧ dashes (s.data.toList.take (spanB symN s.data.toList)) = true) (w : World) :
    Calls Tryd.prog 14 #[.string s] w fun e w' => e = .returned (.int .i64 (remarkK s.data.toList)) ∧ Below w.heap.size w w' := by
  have hr : remarkK s.data.toList = (spanB (fun n => !Nat.beq n 10) s.data.toList : Nat) := by unfold remarkK; rw [if_pos h]
  obtain ⟨n, hn⟩ : ∃ n, spanB symN s.data.toList = n := ⟨_, rfl⟩
  rw [hn] at h
  have hns : n ≤ s.size := by rw [← hn]; exact spanB_le _ _
  have Hn := Lib.hid (fun w => run_known 20 symbol_enter symN symbol_any s hs n hn w)
  obtain ⟨u, hu⟩ : ∃ u, s.extract 0 n = u := ⟨_, rfl⟩
  have hud : u.data.toList = s.data.toList.take n := by rw [← hu, take_data]
  have husz : u.size ≤ 100000 := by
    show u.data.toList.length ≤ _; rw [hud, List.length_take]; have : s.data.toList.length ≤ 100000 := hs; omega
  have ht := trim_dash u.data.toList
  rw [hud, h.2, ← hud] at ht
  obtain ⟨v, hv⟩ : ∃ v, (⟨(Lib.trimB u.data.toList 45).toArray⟩ : ByteArray) = v := ⟨_, rfl⟩
  have hve : v.toList.isEmpty = true := by rw [← hv, Lib.toList_data]; exact ht
  have Ht := Lib.hid (fun w => trim_low u husz w)
  rw [hv] at Ht
  have hn2 := h.1
  have hix := nl_index s.data.toList
  have hnl := spanB_le (fun n => !Nat.beq n 10) s.data.toList
  obtain ⟨m, hm⟩ : ∃ m, spanB (fun n => !Nat.beq n 10) s.data.toList = m := ⟨_, rfl⟩
  rw [hm] at hr hix hnl
  have Hr := Lib.hid hr
  clear hr hud ht hv h hn hm
  rcases hix with ⟨h1, h2⟩ | h1
  · have Hx := Lib.hid (fun w => ix_low s 10 (-1) h1 w)
    have h2 : s.size = m := h2.symm
    have Hm := Lib.hid h2
    clear h1 h2
    go_enter Tryd.func14, Tryd.ntmps14
    go_wp2_with (first | (go_at_call 11; refine (Hn.out _).mono ?_; rintro e w1 ⟨rfl, b1⟩; have l1 : Below w.heap.size w w1 := chain (Below.refl _ w) b1; clear b1) | (go_at_call 21; refine (Ht.out _).mono ?_; rintro e w2 ⟨rfl, b2⟩; have l2 : Below w.heap.size w w2 := chain l1 b2; clear b2) | (go_at_call 22; refine (Hx.out _).mono ?_; rintro e w3 ⟨rfl, b3⟩; have l3 : Below w.heap.size w w3 := chain l2 b3; clear b3))
    go_ret
    exact ⟨by rw [Hr.out, Hm.out]; rfl, l3⟩
  · have Hx := Lib.hid (fun w => ix_low s 10 m h1 w)
    clear h1
    go_enter Tryd.func14, Tryd.ntmps14
    go_wp2_with (first | (go_at_call 11; refine (Hn.out _).mono ?_; rintro e w1 ⟨rfl, b1⟩; have l1 : Below w.heap.size w w1 := chain (Below.refl _ w) b1; clear b1) | (go_at_call 21; refine (Ht.out _).mono ?_; rintro e w2 ⟨rfl, b2⟩; have l2 : Below w.heap.size w w2 := chain l1 b2; clear b2) | (go_at_call 22; refine (Hx.out _).mono ?_; rintro e w3 ⟨rfl, b3⟩; have l3 : Below w.heap.size w w3 := chain l2 b3; clear b3))
    go_ret
    exact ⟨by rw [Hr.out]; rfl, l3⟩

set_option maxRecDepth 100000 in
set_option maxHeartbeats 8000000 in
theorem remark_nest (s : ByteArray) (hs : s.size ≤ 100000) (h : ¬ (2 ≤ spanB symN s.data.toList ∧ dashes (s.data.toList.take (spanB symN s.data.toList)) = true)) (w : World) :
    Calls Tryd.prog 14 #[.string s] w fun e w' => e = .returned (.int .i64 (remarkK s.data.toList)) ∧ Below w.heap.size w w' := by
  have hr : remarkK s.data.toList = if s.data.toList.take 2 = [123, 45] then nestGo s.data.toList.length s.data.toList 0 0 else 0 := by unfold remarkK; rw [if_neg h]
  have hsl : s.data.toList.length = s.size := rfl
  obtain ⟨n, hn⟩ : ∃ n, spanB symN s.data.toList = n := ⟨_, rfl⟩
  rw [hn] at h
  have hns : n ≤ s.size := by rw [← hn]; exact spanB_le _ _
  have Hn := Lib.hid (fun w => run_known 20 symbol_enter symN symbol_any s hs n hn w)
  obtain ⟨u, hu⟩ : ∃ u, s.extract 0 n = u := ⟨_, rfl⟩
  have hud : u.data.toList = s.data.toList.take n := by rw [← hu, take_data]
  have husz : u.size ≤ 100000 := by
    show u.data.toList.length ≤ _; rw [hud, List.length_take]; have : s.data.toList.length ≤ 100000 := hs; omega
  have ht := trim_dash u.data.toList
  rw [hud] at ht
  rw [← hud] at ht
  obtain ⟨v, hv⟩ : ∃ v, (⟨(Lib.trimB u.data.toList 45).toArray⟩ : ByteArray) = v := ⟨_, rfl⟩
  have hve : 2 ≤ n → v.toList.isEmpty = false := fun hn2 => by
    rw [← hv, Lib.toList_data]
    show (Lib.trimB u.data.toList 45).isEmpty = false
    rw [ht, hud]
    cases q : dashes (List.take n s.data.toList) with
    | false => rfl
    | true => exact absurd ⟨hn2, q⟩ h
  have Ht := Lib.hid (fun w => trim_low u husz w)
  rw [hv] at Ht
  clear hud ht hv
  by_cases hn2 : 2 ≤ n
  · have hve := hve hn2
    clear h hn
    by_cases hp : s.data.toList.take 2 = [123, 45]
    · have Hp := Lib.hid (fun w => prefix_low s ⟨#[123, 45]⟩ true (by rw [prefix2]; exact decide_eq_true hp) w)
      have Hr := Lib.hid (hr.trans (if_pos hp))
      clear hr hp
      go_enter Tryd.func14, Tryd.ntmps14
      go_wp2_with (first | (go_at_call 11; refine (Hn.out _).mono ?_; rintro e w1 ⟨rfl, b1⟩; have l1 : Below w.heap.size w w1 := chain (Below.refl _ w) b1; clear b1) | (go_at_call 21; refine (Ht.out _).mono ?_; rintro e w2 ⟨rfl, b2⟩; have l2 : Below w.heap.size w w2 := chain l1 b2; clear b2) | (go_at_call 23; refine (Hp.out _).mono ?_; rintro e w3 ⟨rfl, b3⟩; have l3 : Below w.heap.size w w3 := chain l2 b3; clear b3))
      clear Ht Hn Hp
      go_loopw [5, 6] (fun d i wr => ∃ (x : Int) (k f : Nat), d = .int .i64 x ∧ i = .int .i64 k ∧ k ≤ s.size ∧ -k ≤ x ∧ x ≤ k ∧ s.size ≤ f + k ∧ Hid (remarkK s.data.toList = nestGo f (s.data.toList.drop k) x k) ∧ Below w.heap.size w wr) (fun _ i _ => s.size - (intOf i).toNat)
      case atStart => exact ⟨0, 0, s.data.toList.length, rfl, rfl, Nat.zero_le _, by simp, by simp, by omega, Hr, l3⟩
      case round =>
        obtain ⟨x, k, f, rfl, rfl, hk, hx1, hx2, hf, Hk, B⟩ := hrel
        clear Hr l3
        by_cases hlt : k + 1 < s.size
        · have hlt2 : decide ((k : Int) + 1 < s.size) = true := by simp; omega
          obtain ⟨g, rfl⟩ : ∃ g, f = g + 1 := ⟨f - 1, by omega⟩
          have Ht := Hk.out.trans (nest_two s.data.toList g x k hlt)
          have h2 := two_bytes s k hlt
          obtain ⟨u2, hu2⟩ : ∃ u2, s.extract k (k + 2) = u2 := ⟨_, rfl⟩
          rw [hu2] at h2
          by_cases c1 : s.data.toList[k] = 123 ∧ s.data.toList[k + 1] = 45
          · have Hn := Lib.hid (Ht.trans (if_pos c1))
            have e1 : (u2.toList == [123, 45]) = true := by rw [Lib.toList_data, h2, show s[k] = 123 from c1.1, show s[k + 1] = 45 from c1.2]; rfl
            clear Ht h2 c1
            go_wp2
            go_roundw
            case rel => exact ⟨x + 1, k + 2, g, rfl, by go_num, by omega, by omega, by omega, by omega, Hn, B⟩
            case measure => simp [intOf]; omega
          · have Ht := Ht.trans (if_neg c1)
            have e1 : (u2.toList == [123, 45]) = false := by
              rw [Lib.toList_data, h2, beq_eq_false_iff_ne]
              intro h; simp only [List.cons.injEq, and_true] at h; exact c1 h
            by_cases c2 : s.data.toList[k] = 45 ∧ s.data.toList[k + 1] = 125
            · have Ht := Ht.trans (if_pos c2)
              have e2 : (u2.toList == [45, 125]) = true := by rw [Lib.toList_data, h2, show s[k] = 45 from c2.1, show s[k + 1] = 125 from c2.2]; rfl
              by_cases c3 : x - 1 = 0
              · have Hn := Lib.hid (Ht.trans (if_pos c3))
                have e3 : ((x - 1 : Int) == 0) = true := by rw [beq_iff_eq]; exact c3
                obtain rfl : x = 1 := by omega
                clear Ht h2 c1 c2 c3
                go_wp2
                go_ret
                exact ⟨by rw [Hn.out]; rfl, B⟩
              · have Hn := Lib.hid (Ht.trans (if_neg c3))
                have e3 : ((x - 1 : Int) == 0) = false := by rw [beq_eq_false_iff_ne]; exact c3
                clear Ht h2 c1 c2 c3
                go_wp2
                go_roundw
                case rel => exact ⟨x - 1, k + 2, g, rfl, by go_num, by omega, by omega, by omega, by omega, Hn, B⟩
                case measure => simp [intOf]; omega
            · have Hn := Lib.hid (Ht.trans (if_neg c2))
              have e2 : (u2.toList == [45, 125]) = false := by
                rw [Lib.toList_data, h2, beq_eq_false_iff_ne]
                intro h; simp only [List.cons.injEq, and_true] at h; exact c2 h
              clear Ht h2 c1 c2
              go_wp2
              go_roundw
              case rel => exact ⟨x, k + 1, g, rfl, by go_num, by omega, by omega, by omega, by omega, Hn, B⟩
              case measure => simp [intOf]; omega
        · have hlt2 : decide ((k : Int) + 1 < s.size) = false := by simp; omega
          have Hn := Lib.hid (Hk.out.trans (nest_end s.data.toList f x k (by omega)))
          go_wp2
          go_ret
          exact ⟨by rw [Hn.out]; rfl, B⟩
    · have Hp := Lib.hid (fun w => prefix_low s ⟨#[123, 45]⟩ false (by rw [prefix2]; exact decide_eq_false hp) w)
      have Hr := Lib.hid (hr.trans (if_neg hp))
      clear hr hp
      go_enter Tryd.func14, Tryd.ntmps14
      go_wp2_with (first | (go_at_call 11; refine (Hn.out _).mono ?_; rintro e w1 ⟨rfl, b1⟩; have l1 : Below w.heap.size w w1 := chain (Below.refl _ w) b1; clear b1) | (go_at_call 21; refine (Ht.out _).mono ?_; rintro e w2 ⟨rfl, b2⟩; have l2 : Below w.heap.size w w2 := chain l1 b2; clear b2) | (go_at_call 23; refine (Hp.out _).mono ?_; rintro e w3 ⟨rfl, b3⟩; have l3 : Below w.heap.size w w3 := chain l2 b3; clear b3))
      go_ret
      exact ⟨by rw [Hr.out]; rfl, l3⟩
  · have d0 : decide (2 ≤ (n : Int)) = false := by simp; omega
    have d1 : decide ((2 : Int) ≤ (n : Int)) = false := by simp; omega
    clear h hn hve
    by_cases hp : s.data.toList.take 2 = [123, 45]
    · have Hp := Lib.hid (fun w => prefix_low s ⟨#[123, 45]⟩ true (by rw [prefix2]; exact decide_eq_true hp) w)
      have Hr := Lib.hid (hr.trans (if_pos hp))
      clear hr hp
      go_enter Tryd.func14, Tryd.ntmps14
      go_wp2_with (first | (go_at_call 11; refine (Hn.out _).mono ?_; rintro e w1 ⟨rfl, b1⟩; have l1 : Below w.heap.size w w1 := chain (Below.refl _ w) b1; clear b1) | (go_at_call 23; refine (Hp.out _).mono ?_; rintro e w3 ⟨rfl, b3⟩; have l3 : Below w.heap.size w w3 := chain l1 b3; clear b3))
      clear Ht Hn Hp
      go_loopw [5, 6] (fun d i wr => ∃ (x : Int) (k f : Nat), d = .int .i64 x ∧ i = .int .i64 k ∧ k ≤ s.size ∧ -k ≤ x ∧ x ≤ k ∧ s.size ≤ f + k ∧ Hid (remarkK s.data.toList = nestGo f (s.data.toList.drop k) x k) ∧ Below w.heap.size w wr) (fun _ i _ => s.size - (intOf i).toNat)
      case atStart => exact ⟨0, 0, s.data.toList.length, rfl, rfl, Nat.zero_le _, by simp, by simp, by omega, Hr, l3⟩
      case round =>
        obtain ⟨x, k, f, rfl, rfl, hk, hx1, hx2, hf, Hk, B⟩ := hrel
        clear Hr l3
        by_cases hlt : k + 1 < s.size
        · have hlt2 : decide ((k : Int) + 1 < s.size) = true := by simp; omega
          obtain ⟨g, rfl⟩ : ∃ g, f = g + 1 := ⟨f - 1, by omega⟩
          have Ht := Hk.out.trans (nest_two s.data.toList g x k hlt)
          have h2 := two_bytes s k hlt
          obtain ⟨u2, hu2⟩ : ∃ u2, s.extract k (k + 2) = u2 := ⟨_, rfl⟩
          rw [hu2] at h2
          by_cases c1 : s.data.toList[k] = 123 ∧ s.data.toList[k + 1] = 45
          · have Hn := Lib.hid (Ht.trans (if_pos c1))
            have e1 : (u2.toList == [123, 45]) = true := by rw [Lib.toList_data, h2, show s[k] = 123 from c1.1, show s[k + 1] = 45 from c1.2]; rfl
            clear Ht h2 c1
            go_wp2
            go_roundw
            case rel => exact ⟨x + 1, k + 2, g, rfl, by go_num, by omega, by omega, by omega, by omega, Hn, B⟩
            case measure => simp [intOf]; omega
          · have Ht := Ht.trans (if_neg c1)
            have e1 : (u2.toList == [123, 45]) = false := by
              rw [Lib.toList_data, h2, beq_eq_false_iff_ne]
              intro h; simp only [List.cons.injEq, and_true] at h; exact c1 h
            by_cases c2 : s.data.toList[k] = 45 ∧ s.data.toList[k + 1] = 125
            · have Ht := Ht.trans (if_pos c2)
              have e2 : (u2.toList == [45, 125]) = true := by rw [Lib.toList_data, h2, show s[k] = 45 from c2.1, show s[k + 1] = 125 from c2.2]; rfl
              by_cases c3 : x - 1 = 0
              · have Hn := Lib.hid (Ht.trans (if_pos c3))
                have e3 : ((x - 1 : Int) == 0) = true := by rw [beq_iff_eq]; exact c3
                obtain rfl : x = 1 := by omega
                clear Ht h2 c1 c2 c3
                go_wp2
                go_ret
                exact ⟨by rw [Hn.out]; rfl, B⟩
              · have Hn := Lib.hid (Ht.trans (if_neg c3))
                have e3 : ((x - 1 : Int) == 0) = false := by rw [beq_eq_false_iff_ne]; exact c3
                clear Ht h2 c1 c2 c3
                go_wp2
                go_roundw
                case rel => exact ⟨x - 1, k + 2, g, rfl, by go_num, by omega, by omega, by omega, by omega, Hn, B⟩
                case measure => simp [intOf]; omega
            · have Hn := Lib.hid (Ht.trans (if_neg c2))
              have e2 : (u2.toList == [45, 125]) = false := by
                rw [Lib.toList_data, h2, beq_eq_false_iff_ne]
                intro h; simp only [List.cons.injEq, and_true] at h; exact c2 h
              clear Ht h2 c1 c2
              go_wp2
              go_roundw
              case rel => exact ⟨x, k + 1, g, rfl, by go_num, by omega, by omega, by omega, by omega, Hn, B⟩
              case measure => simp [intOf]; omega
        · have hlt2 : decide ((k : Int) + 1 < s.size) = false := by simp; omega
          have Hn := Lib.hid (Hk.out.trans (nest_end s.data.toList f x k (by omega)))
          go_wp2
          go_ret
          exact ⟨by rw [Hn.out]; rfl, B⟩
    · have Hp := Lib.hid (fun w => prefix_low s ⟨#[123, 45]⟩ false (by rw [prefix2]; exact decide_eq_false hp) w)
      have Hr := Lib.hid (hr.trans (if_neg hp))
      clear hr hp
      go_enter Tryd.func14, Tryd.ntmps14
      go_wp2_with (first | (go_at_call 11; refine (Hn.out _).mono ?_; rintro e w1 ⟨rfl, b1⟩; have l1 : Below w.heap.size w w1 := chain (Below.refl _ w) b1; clear b1) | (go_at_call 23; refine (Hp.out _).mono ?_; rintro e w3 ⟨rfl, b3⟩; have l3 : Below w.heap.size w w3 := chain l1 b3; clear b3))
      go_ret
      exact ⟨by rw [Hr.out]; rfl, l3⟩
theorem remark_any (s : ByteArray) (hs : s.size ≤ 100000) (w : World) :
    Calls Tryd.prog 14 #[.string s] w fun e w' => e = .returned (.int .i64 (remarkK s.data.toList)) ∧ Below w.heap.size w w' := by
  by_cases h : 2 ≤ spanB symN s.data.toList ∧ dashes (s.data.toList.take (spanB symN s.data.toList)) = true
  · exact remark_line s hs h w
  · exact remark_nest s hs h w
end Go.Proofs.YtnidkdjapieinaaDoor
