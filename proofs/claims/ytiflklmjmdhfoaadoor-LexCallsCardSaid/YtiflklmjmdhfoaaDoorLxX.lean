/- Contracts of lex.quoted and lex.Text. -/
import Derived.Test.YtiflklmjmdhfoaaDoorLxU
import Derived.Test.YtiflklmjmdhfoaaDoorShelfB
import Derived.Shelf.Strconv.AppendIntPublic10
import Derived.Lib.ConvBytes
namespace Go.Proofs.YtiflklmjmdhfoaaDoor
open Go.RowKit Go.Shelf
set_option linter.unusedSimpArgs false

theorem digs_dec : ∀ f n, n < 10 ^ (f + 1) → digsGo f n = Lib.decDigits n
  | 0, n, h => by
    rw [Lib.decDigits]
    have h : n < 10 := by simpa using h
    rw [dif_pos h]
    simp only [digsGo]
    rw [Nat.mod_eq_of_lt h]
  | f + 1, n, h => by
    rw [Lib.decDigits]
    simp only [digsGo]
    split
    · rfl
    · rw [digs_dec f (n / 10) (by rw [Nat.pow_succ] at h; omega)]
theorem digsK_dec (n : Nat) (h : n ≤ 9223372036854775807) : Lib.decDigits n = digsK n := (digs_dec 20 n (by omega)).symm
/-- A byte told between quotes. -/
def shQ (q : UInt8) (beh : List UInt8) (c : UInt8) : List UInt8 :=
  if c = 92 ∨ c = q then [92, c] else if 32 ≤ c.toNat ∧ c.toNat ≤ 126 then [c] else 92 :: Lib.decDigits c.toNat ++ beh
def shL (q : UInt8) (beh : List UInt8) (l : List UInt8) : List UInt8 := l.flatMap (shQ q beh)
theorem shL_at (q : UInt8) (beh l : List UInt8) (k : Nat) (h : k < l.length) : shL q beh (l.take (k + 1)) = shL q beh (l.take k) ++ shQ q beh l[k] := by
  unfold shL
  rw [List.take_succ_eq_append_getElem h, List.flatMap_append]
  simp
theorem digs_len : ∀ f n, (digsGo f n).length ≤ f + 1
  | 0, n => by simp [digsGo]
  | f + 1, n => by
    simp only [digsGo]
    split
    · simp
    · simp; exact digs_len f _
theorem dec_len (n : Nat) (h : n ≤ 9223372036854775807) : (Lib.decDigits n).length ≤ 21 := by rw [digsK_dec n h]; exact digs_len 20 n
theorem shQ_len (q : UInt8) (beh : List UInt8) (c : UInt8) (hb : beh.length ≤ 2) : (shQ q beh c).length ≤ 24 := by
  have := UInt8.toNat_lt c
  have h := dec_len c.toNat (by omega)
  unfold shQ
  split
  · simp
  · split
    · simp
    · simp; omega
theorem shL_len (q : UInt8) (beh : List UInt8) (hb : beh.length ≤ 2) : ∀ l : List UInt8, (shL q beh l).length ≤ 24 * l.length
  | [] => by simp [shL]
  | c :: l => by
    have h1 := shQ_len q beh c hb
    have h2 := shL_len q beh hb l
    have e : shL q beh (c :: l) = shQ q beh c ++ shL q beh l := rfl
    rw [e, List.length_append, List.length_cons]; omega
theorem shQ_shown (c : UInt8) : shQ 39 [] c = shownK 39 c ∧ shQ 34 [92, 38] c = shownK 34 c := by
  have hlt := UInt8.toNat_lt c
  have e : ∀ n : Nat, n < 256 → (c = UInt8.ofNat n ↔ c.toNat = n) := fun n hn => ⟨fun h => by rw [h]; simp; omega, fun h => UInt8.toNat_inj.1 (by rw [h]; simp; omega)⟩
  have e92 := e 92 (by omega)
  have e39 := e 39 (by omega)
  have e34 := e 34 (by omega)
  unfold shQ shownK
  rw [digsK_dec _ (by omega)]
  constructor
  · by_cases h : c.toNat = 39 ∨ c.toNat = 92
    · rw [if_pos h, if_pos]
      rcases h with h | h
      · exact .inr (e39.2 h)
      · exact .inl (e92.2 h)
    · rw [if_neg h, if_neg (fun g => h (by rcases g with g | g; exact .inr (e92.1 g); exact .inl (e39.1 g)))]
      rfl
  · by_cases h : c.toNat = 34 ∨ c.toNat = 92
    · rw [if_pos h, if_pos]
      rcases h with h | h
      · exact .inr (e34.2 h)
      · exact .inl (e92.2 h)
    · rw [if_neg h, if_neg (fun g => h (by rcases g with g | g; exact .inr (e92.1 g); exact .inl (e34.1 g))), if_pos rfl]
theorem shL_shown (l : List UInt8) : shL 34 [92, 38] l = shownL 34 l := by
  induction l with
  | nil => rfl
  | cons c l ih =>
    show shQ 34 [92, 38] c ++ shL 34 [92, 38] l = _
    rw [(shQ_shown c).2, ih]; rfl

/-- A slice that reads as these bytes. -/
def BAt (W : World) (v : Value) (l : List UInt8) : Prop :=
  ∃ (a : Option Addr) (cap : Nat), v = .slice a l.length cap ∧ (0 < l.length → ∃ b o, a = some ⟨b, o, none⟩ ∧ b < W.heap.size ∧ ∀ k (h : k < l.length), W.cell? ⟨b, o + k, none⟩ = some (.int .u8 (l[k].toNat : Int)))
abbrev Tab (w : World) : Prop := Lib.TabBelow Tryd.prog w.heap.size w powName .u64 Lib.pow10Tab
theorem Tab.on {w W : World} (h : Tab w) (hb : Below w.heap.size w W) : Tab W := fun w' h' => h w' (hb.trans (h'.mono hb.size))
theorem append_int (B n : Nat) (c : UInt8) (sv : Value) (xs : List Value) (w : World) (hown : w.ownsRow B 5 1 sv n xs) (hBw : B ≤ w.heap.size) (hlim : n ≤ 100000000) (htab : Lib.TabBelow Tryd.prog B w powName .u64 Lib.pow10Tab) :
    Calls Tryd.prog 62 #[sv, .int .i64 c.toNat, .int .i64 10] w fun e w' => ∃ v', e = .returned v' ∧ w'.ownsRow B 5 1 v' (n + (Lib.decDigits c.toNat).length) (xs ++ bV (Lib.decDigits c.toNat)) ∧ Below B w w' := by
  have hc := UInt8.toNat_lt c
  refine (Tryd.strconv_AppendInt_10 B n c.toNat (by omega) (by omega) sv xs w hown hBw (by omega) htab).mono ?_
  rintro e w' ⟨v', rfl, h1, h2, _⟩
  have e : Lib.itoa (c.toNat : Int) = Lib.decDigits c.toNat := by unfold Lib.itoa; rw [if_neg (by omega), Int.toNat_natCast]
  rw [e] at h1
  exact ⟨v', rfl, h1, h2⟩

set_option maxRecDepth 100000 in
set_option maxHeartbeats 8000000 in
theorem quoted_any (v : Value) (l : List UInt8) (q : UInt8) (beh : ByteArray) (w : World) (h : BAt w v l) (hl : l.length ≤ 1000000) (hbe : beh.data.toList.length ≤ 2) (ht : Tab w) :
    Calls Tryd.prog 38 #[v, .int .u8 q.toNat, .string beh] w fun e w' => e = .returned (.string ⟨(q :: shL q beh.data.toList l ++ [q]).toArray⟩) ∧ Below w.heap.size w w' := by
  obtain ⟨a, cap, rfl, hc⟩ := h
  obtain ⟨i0, hinf, hz0, hz1, hz2⟩ := info_parts info5
  obtain ⟨N, hN⟩ : ∃ N, l.length = N := ⟨_, rfl⟩
  have HN := Lib.hid hN
  have Hc := Lib.hid hc
  have hbz : beh.size ≤ 2 := hbe
  rw [hN] at hl ⊢
  clear hN hc
  go_enter Tryd.func38, Tryd.ntmps38
  go_wp2
  have hb0 : BOwn (w.alloc (.cells #[.int .u8 q.toNat] 5)) w.heap.size (.slice (some ⟨w.heap.size, 0, none⟩) 1 1) [q] :=
    ⟨by simp [bV], .inr ⟨w.heap.size, 1, #[.int .u8 q.toNat], rfl, Nat.le_refl _, heap_alloc_new w _, Nat.le_refl _, by unfold maxLen; omega, rfl, rfl⟩⟩
  go_loopw [7, 14] (fun x i wr => ∃ k : Nat, i = .int .i64 k ∧ k ≤ N ∧ BOwn wr w.heap.size x (q :: shL q beh.data.toList (l.take k)) ∧ Below w.heap.size w wr) (fun _ i _ => N - (intOf i).toNat)
  case atStart => exact ⟨0, rfl, Nat.zero_le _, hb0, (Below.refl _ w).alloc (Nat.le_refl _) _⟩
  case round =>
    obtain ⟨k, rfl, hk, hown, hB⟩ := hrel
    clear hb0
    have hlen := shL_len q beh.data.toList hbe (l.take k)
    rw [List.length_take] at hlen
    have hln : (q :: shL q beh.data.toList (l.take k)).length ≤ 1 + 24 * k := by rw [List.length_cons]; omega
    by_cases hlt : k < N
    · have hlt2 : decide ((k : Int) < (N : Int)) = true := by simp; omega
      have hlt3 : decide (k < N) = true := by simp; omega
      have hkl : k < l.length := by rw [HN.out]; exact hlt
      have hat := shL_at q beh.data.toList l k hkl
      obtain ⟨b, o, rfl, hbl, hcell⟩ := Hc.out (by omega)
      have hcl := (hB.cell (p := ⟨b, o + k, none⟩) hbl).trans (hcell k hkl)
      obtain ⟨c, hce⟩ : ∃ c, l[k] = c := ⟨_, rfl⟩
      rw [hce] at hat hcl
      clear hcell
      have hby : c.toNat ≤ 255 := by have := UInt8.toNat_lt c; omega
      obtain ⟨bs, hbs⟩ : ∃ bs, q :: shL q beh.data.toList (l.take k) = bs := ⟨_, rfl⟩
      rw [hbs] at hown hln
      have hnext : ∀ d, shQ q beh.data.toList c = d → q :: shL q beh.data.toList (l.take (k + 1)) = bs ++ d := fun d hd => by rw [hat, hd, ← List.cons_append, hbs]
      have Hnext := Lib.hid hnext
      clear hat hnext hbs hlen hce
      have hB8 := hB.size
      by_cases c1 : c = 92 ∨ c = q
      · have Hd := Lib.hid (Hnext.out [92, c] (by unfold shQ; rw [if_pos c1]))
        have fin : ∀ (W : World) (v' : Value), W.ownsRow w.heap.size 5 1 v' (bs.length + 2) (bV bs ++ [.int .u8 92, .int .u8 c.toNat]) → BOwn W w.heap.size v' (q :: shL q beh.data.toList (l.take (k + 1))) := fun W v' hW => by
          rw [Hd.out]
          show W.ownsRow _ _ _ _ _ _
          rw [List.length_append, bV_app]; exact hW
        have Fin := Lib.hid fin
        clear fin Hd
        have hq : ((c.toNat : Int) == 92) = true ∨ (((c.toNat : Int) == 92) = false ∧ ((c.toNat : Int) == (q.toNat : Int)) = true) := by
          by_cases g : c = 92
          · exact .inl (by rw [g]; rfl)
          · rcases c1 with c1 | c1
            · exact absurd c1 g
            · exact .inr ⟨by rw [beq_eq_false_iff_ne]; intro h; exact g (UInt8.toNat_inj.1 (by exact Int.ofNat.inj h)), by rw [c1]; simp⟩
        clear c1 Hnext
        rcases hq with e1 | ⟨e1, e2⟩
        all_goals
          go_wp2_with (at_builtin; refine wpList_append_own _ rfl _ _ 56 rfl w.heap.size 5 i0 (.int .u8 0) 1 1 Tryd.underlying56 hinf hz0 hz1 hz2 rfl (by decide) _ _ _ rfl (hown.alloc _) ⟨wr.heap.size, 0, none⟩ 2 2 [.int .u8 92, .int .u8 c.toNat] rfl rfl (cells_new wr _ _) (by simp [Value.oneCell']) (by unfold maxLen; omega) (by omega) (by have := hB.size; simp; omega) ?_; intro v3 w3 own3 hgrow3 _; have hB3 := grown_below (hB.alloc hB.size _) hgrow3 (hown.alloc _) (by have := hB.size; simp; omega) (Nat.le_refl _))
          go_roundw
          case rel => exact ⟨k + 1, by go_num, by omega, Fin.out _ _ own3, hB3⟩
          case measure => simp [intOf]; omega
      · have e1 : ((c.toNat : Int) == 92) = false := by rw [beq_eq_false_iff_ne]; intro h; exact c1 (.inl (UInt8.toNat_inj.1 (Int.ofNat.inj h)))
        have e2 : ((c.toNat : Int) == (q.toNat : Int)) = false := by rw [beq_eq_false_iff_ne]; intro h; exact c1 (.inr (UInt8.toNat_inj.1 (Int.ofNat.inj h)))
        by_cases c2 : 32 ≤ c.toNat ∧ c.toNat ≤ 126
        · have Hd := Lib.hid (Hnext.out [c] (by unfold shQ; rw [if_neg c1, if_pos c2]))
          have fin : ∀ (W : World) (v' : Value), W.ownsRow w.heap.size 5 1 v' (bs.length + 1) (bV bs ++ [.int .u8 c.toNat]) → BOwn W w.heap.size v' (q :: shL q beh.data.toList (l.take (k + 1))) := fun W v' hW => by
            rw [Hd.out]
            show W.ownsRow _ _ _ _ _ _
            rw [List.length_append, bV_app]; exact hW
          have Fin := Lib.hid fin
          have e3 : decide ((32 : Int) ≤ (c.toNat : Int)) = true := decide_eq_true (by omega)
          have e4 : decide ((c.toNat : Int) ≤ 126) = true := decide_eq_true (by omega)
          clear fin Hd c1 c2 Hnext
          go_wp2_with (at_builtin; refine wpList_append_own _ rfl _ _ 56 rfl w.heap.size 5 i0 (.int .u8 0) 1 1 Tryd.underlying56 hinf hz0 hz1 hz2 rfl (by decide) _ _ _ rfl (hown.alloc _) ⟨wr.heap.size, 0, none⟩ 1 1 [.int .u8 c.toNat] rfl rfl (cells_new wr _ _) (by simp [Value.oneCell']) (by unfold maxLen; omega) (by omega) (by have := hB.size; simp; omega) ?_; intro v3 w3 own3 hgrow3 _; have hB3 := grown_below (hB.alloc hB.size _) hgrow3 (hown.alloc _) (by have := hB.size; simp; omega) (Nat.le_refl _))
          go_roundw
          case rel => exact ⟨k + 1, by go_num, by omega, Fin.out _ _ own3, hB3⟩
          case measure => simp [intOf]; omega
        · have Hd := Lib.hid (Hnext.out (92 :: Lib.decDigits c.toNat ++ beh.data.toList) (by unfold shQ; rw [if_neg c1, if_neg c2]))
          have hdl := dec_len c.toNat (by omega)
          have fin : ∀ (W : World) (v' : Value), W.ownsRow w.heap.size 5 1 v' (bs.length + 1 + (Lib.decDigits c.toNat).length + beh.size) (bV bs ++ [.int .u8 92] ++ bV (Lib.decDigits c.toNat) ++ Lib.strCells beh) → BOwn W w.heap.size v' (q :: shL q beh.data.toList (l.take (k + 1))) := fun W v' hW => by
            rw [Hd.out]
            show W.ownsRow _ _ _ _ _ _
            have e : (bs ++ (92 :: Lib.decDigits c.toNat ++ beh.data.toList)).length = bs.length + 1 + (Lib.decDigits c.toNat).length + beh.size := by
              simp only [List.length_append, List.length_cons]
              show bs.length + ((Lib.decDigits c.toNat).length + 1 + beh.size) = _
              omega
            have e2 : bV (bs ++ (92 :: Lib.decDigits c.toNat ++ beh.data.toList)) = bV bs ++ [.int .u8 92] ++ bV (Lib.decDigits c.toNat) ++ Lib.strCells beh := by
              simp [bV, Lib.strCells]
            rw [e, e2]; exact hW
          have Fin := Lib.hid fin
          have Htb := Lib.hid ht
          have e34 : (decide ((32 : Int) ≤ (c.toNat : Int)) = false) ∨ (decide ((32 : Int) ≤ (c.toNat : Int)) = true ∧ decide ((c.toNat : Int) ≤ 126) = false) := by
            by_cases g : 32 ≤ c.toNat
            · exact .inr ⟨decide_eq_true (by omega), decide_eq_false (by omega)⟩
            · exact .inl (decide_eq_false (by omega))
          obtain ⟨dl, hdle⟩ : ∃ dl, (Lib.decDigits c.toNat).length = dl := ⟨_, rfl⟩
          rw [hdle] at hdl
          have Hdl := Lib.hid hdle
          clear fin Hd c1 c2 Hnext hdle
          rcases e34 with e3 | ⟨e3, e4⟩
          all_goals
            go_wp2_with (first | (at_builtin; refine wpList_append_own _ rfl _ _ 56 rfl w.heap.size 5 i0 (.int .u8 0) 1 1 Tryd.underlying56 hinf hz0 hz1 hz2 rfl (by decide) _ _ _ rfl (hown.alloc _) ⟨wr.heap.size, 0, none⟩ 1 1 [.int .u8 92] rfl rfl (cells_new wr _ _) (by simp [Value.oneCell']) (by unfold maxLen; omega) (by omega) (by have := hB.size; simp; omega) ?_; intro v3 w3 own3 hgrow3 _; have hB3 := grown_below (hB.alloc hB.size _) hgrow3 (hown.alloc _) (by have := hB.size; simp; omega) (Nat.le_refl _)) | (go_at_call 62; refine (append_int w.heap.size (bs.length + 1) c v3 (bV bs ++ [.int .u8 92]) _ own3 hB3.size (by omega) (Lib.TabBelow.on Htb.out hB3)).mono ?_; rintro e w4 ⟨v4, rfl, own4, b4⟩; have hB4 := hB3.trans b4; rw [Hdl.out] at own4) | (at_builtin; refine Lib.wpList_append_own_string _ rfl _ _ 56 9 rfl w.heap.size 5 i0 Tryd.underlying56 Tryd.underlying9 hinf hz0 hz1 hz2 _ _ _ rfl own4 beh rfl (by unfold maxLen; omega) (by omega) hB4.size ?_; intro v5 w5 own5 hgrow5 _; have hB5 := grown_below hB4 hgrow5 own4 hB4.size (Nat.le_refl _)))
            go_roundw
            case rel => exact ⟨k + 1, by go_num, by omega, Fin.out _ _ (by rw [Hdl.out]; exact own5), hB5⟩
            case measure => simp [intOf]; omega
    · have hlt2 : decide ((k : Int) < (N : Int)) = false := by simp; omega
      have hlt3 : decide (k < N) = false := by simp; omega
      have hall : l.take k = l := List.take_of_length_le (by rw [HN.out]; omega)
      rw [hall] at hown hln
      obtain ⟨bs, hbs⟩ : ∃ bs, q :: shL q beh.data.toList l = bs := ⟨_, rfl⟩
      rw [hbs] at hown hln
      have Hbs := Lib.hid hbs
      clear hall hbs hlen
      go_wp2_with (at_builtin; refine wpList_append_own _ rfl _ _ 56 rfl w.heap.size 5 i0 (.int .u8 0) 1 1 Tryd.underlying56 hinf hz0 hz1 hz2 rfl (by decide) _ _ _ rfl (hown.alloc _) ⟨wr.heap.size, 0, none⟩ 1 1 [.int .u8 q.toNat] rfl rfl (cells_new wr _ _) (by simp [Value.oneCell']) (by unfold maxLen; omega) (by omega) (by have := hB.size; simp; omega) ?_; intro v3 w3 own3 hgrow3 _; have hB3 := grown_below (hB.alloc hB.size _) hgrow3 (hown.alloc _) (by have := hB.size; simp; omega) (Nat.le_refl _); have own3' : BOwn w3 w.heap.size v3 (bs ++ [q]) := (by show World.ownsRow _ _ _ _ _ _ _; rw [List.length_append, bV_app]; exact own3); have hcv := run_back w3 w.heap.size v3 (bs ++ [q]) own3')
      go_ret
      refine ⟨?_, hB3⟩
      have e : bs ++ [q] = q :: shL q beh.data.toList l ++ [q] := by rw [← Hbs.out]
      show Ending.returned (.string ⟨(bs ++ [q]).toArray⟩) = _
      rw [e]
      try rfl
end Go.Proofs.YtiflklmjmdhfoaaDoor
