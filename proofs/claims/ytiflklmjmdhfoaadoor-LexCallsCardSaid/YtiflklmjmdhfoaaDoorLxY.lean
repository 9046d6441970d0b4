/- Contracts of lex.Text and lex.Join. -/
import Derived.Test.YtiflklmjmdhfoaaDoorLxX
import Derived.Lib.SmallJoins
namespace Go.Proofs.YtiflklmjmdhfoaaDoor
open Go.RowKit Go.Shelf
set_option linter.unusedSimpArgs false

/-- What lex.Text tells of a token with these fields. -/
def txtI (kind num : Int) (text : List UInt8) : List UInt8 :=
  if kind = 5 then Lib.decDigits (max 0 num).toNat
  else if kind = 6 then 39 :: shL 39 [] [UInt8.ofNat (min 255 (max 0 num)).toNat] ++ [39]
  else if kind = 7 then 34 :: shL 34 [92, 38] text ++ [34]
  else if 1 ≤ kind ∧ kind ≤ 10 then text else []
theorem txt_same (t : Tk) (h : t.num ≤ 9223372036854775807) : txtI t.kind t.num t.text = txtK t := by
  obtain ⟨kind, text, num⟩ := t
  simp only at h
  unfold txtI txtK
  simp only
  by_cases h5 : kind = 5
  · rw [if_pos (by omega), if_pos h5, show (max 0 (num : Int)).toNat = num by omega, digsK_dec num h]
  · rw [if_neg (by omega), if_neg h5]
    by_cases h6 : kind = 6
    · rw [if_pos (by omega), if_pos h6, show (min 255 (max 0 (num : Int))).toNat = min 255 num by omega]
      simp only [shL, List.flatMap_cons, List.flatMap_nil, List.append_nil]
      rw [(shQ_shown _).1]
    · rw [if_neg (by omega), if_neg h6]
      by_cases h7 : kind = 7
      · rw [if_pos (by omega), if_pos h7, shL_shown]
      · rw [if_neg (by omega), if_neg h7]
        by_cases h8 : 1 ≤ kind ∧ kind ≤ 10
        · rw [if_pos (by omega), if_pos h8]
        · rw [if_neg (by omega), if_neg h8]
theorem format_int (n : Int) (h0 : 0 ≤ n) (h1 : n ≤ 9223372036854775807) (w : World) (ht : Tab w) :
    Calls Tryd.prog 37 #[.int .i64 n, .int .i64 10] w fun e w' => e = .returned (.string ⟨(Lib.decDigits n.toNat).toArray⟩) ∧ Below w.heap.size w w' := by
  refine (Tryd.strconv_FormatInt_10 n (by omega) h1 w ht.here).mono ?_
  rintro e w' ⟨rfl, k, os, rfl⟩
  refine ⟨?_, Lib.below_grow _ _ (Nat.le_refl _) _ _⟩
  unfold Lib.itoa
  rw [if_neg (by omega)]

/-- The bytes of a text that is turned to bytes. -/
theorem bytes_world (w : World) (s : ByteArray) : BAt (Lib.bytesWorld w 5 s) (.slice (some ⟨w.heap.size, 0, none⟩) s.size (grownCap w s.size 0 5)) s.data.toList ∧ Below w.heap.size w (Lib.bytesWorld w 5 s) := by
  refine ⟨⟨_, _, rfl, fun _ => ⟨w.heap.size, 0, rfl, by rw [Lib.bytesWorld_size]; omega, fun k hk => ?_⟩⟩, Joins.below_bytesWorld _ _ _ _ (Nat.le_refl _)⟩
  rw [Nat.zero_add, Lib.bytesWorld_cell w _ s k hk]
  have hg : s.data.toList.getD k 0 = s.data.toList[k] := by rw [List.getD_eq_getElem?_getD, List.getElem?_eq_getElem hk]; rfl
  rw [hg]
theorem one_byte (w : World) (c : UInt8) : BAt (w.alloc (.cells #[.int .u8 c.toNat] 5)) (.slice (some ⟨w.heap.size, 0, none⟩) 1 1) [c] := by
  refine ⟨_, _, rfl, fun _ => ⟨w.heap.size, 0, rfl, by simp, fun k hk => ?_⟩⟩
  have : k = 0 := by simpa using hk
  subst this
  have h := (Blk.new w #[.int .u8 c.toNat] 5).cell 0
  simp at h ⊢
theorem quoted_known (v : Value) (l : List UInt8) (q : UInt8) (beh : ByteArray) (r : ByteArray) (hr : q :: shL q beh.data.toList l ++ [q] = r.data.toList) (w : World) (h : BAt w v l) (hl : l.length ≤ 1000000) (hbe : beh.data.toList.length ≤ 2) (ht : Tab w) :
    Calls Tryd.prog 38 #[v, .int .u8 q.toNat, .string beh] w fun e w' => e = .returned (.string r) ∧ Below w.heap.size w w' := by
  refine (quoted_any v l q beh w h hl hbe ht).mono ?_
  rintro e w' ⟨rfl, hb⟩
  refine ⟨?_, hb⟩
  rw [hr]

set_option maxRecDepth 100000 in
set_option maxHeartbeats 8000000 in
theorem text_of (kind num : Int) (u : ByteArray) (x3 x4 x5 : Int) (x6 : Bool) (w : World) (hu : u.size ≤ 1000000) (hn : num ≤ 9223372036854775807) (ht : Tab w) :
    Calls Tryd.prog 16 #[.agg #[.int .i64 kind, .string u, .int .i64 num, .int .i64 x3, .int .i64 x4, .int .i64 x5, .bool x6]] w fun e w' => e = .returned (.string ⟨(txtI kind num u.data.toList).toArray⟩) ∧ Below w.heap.size w w' := by
  have hB0 : Below w.heap.size w (w.alloc (.cells #[.int .i64 kind, .string u, .int .i64 num, .int .i64 x3, .int .i64 x4, .int .i64 x5, .bool x6] 30)) := (Below.refl _ w).alloc (Nat.le_refl _) _
  have ht0 := Tab.on ht hB0
  obtain ⟨m, hm⟩ : ∃ m, max 0 num = m := ⟨_, rfl⟩
  have hm0 : 0 ≤ m := by omega
  have hm1 : m ≤ 9223372036854775807 := by omega
  by_cases h5 : kind = 5
  · subst h5
    have hr : txtI 5 num u.data.toList = Lib.decDigits m.toNat := by unfold txtI; rw [if_pos rfl, hm]
    have Hr := Lib.hid hr
    have Hf := Lib.hid (fun w ht => format_int m hm0 hm1 w ht)
    have Htb := Lib.hid ht0
    clear hr ht ht0
    go_enter Tryd.func16, Tryd.ntmps16
    go_wp2_with (go_at_call 37; refine (Hf.out _ Htb.out).mono ?_; rintro e w1 ⟨rfl, b1⟩)
    go_ret
    exact ⟨by rw [Hr.out]; rfl, chain hB0 b1⟩
  · have e5 : (kind == 5) = false := by rw [beq_eq_false_iff_ne]; exact h5
    by_cases h6 : kind = 6
    · subst h6
      obtain ⟨p, hp⟩ : ∃ p, min 255 m = p := ⟨_, rfl⟩
      have hp0 : 0 ≤ p := by omega
      have hp1 : p ≤ 255 := by omega
      obtain ⟨c, hc⟩ : ∃ c : UInt8, (c.toNat : Int) = p := ⟨UInt8.ofNat p.toNat, by simp; omega⟩
      have hr : txtI 6 num u.data.toList = 39 :: shL 39 [] [c] ++ [39] := by
        unfold txtI; rw [if_neg (by omega), if_pos rfl, hm, hp, show UInt8.ofNat p.toNat = c from UInt8.toNat_inj.1 (by simp; omega)]
      obtain ⟨r, hre⟩ : ∃ r : ByteArray, 39 :: shL 39 [] [c] ++ [39] = r.data.toList := ⟨⟨(39 :: shL 39 [] [c] ++ [39]).toArray⟩, by simp⟩
      have Hr := Lib.hid (hr.trans hre)
      have hmin : min 255 m = (c.toNat : Int) := by rw [hp, hc]
      have hby : c.toNat ≤ 255 := by have := UInt8.toNat_lt c; omega
      have BA := one_byte (w.alloc (.cells #[.int .i64 6, .string u, .int .i64 num, .int .i64 x3, .int .i64 x4, .int .i64 x5, .bool x6] 30)) c
      have l2 := (Below.refl _ (w.alloc (.cells #[.int .i64 6, .string u, .int .i64 num, .int .i64 x3, .int .i64 x4, .int .i64 x5, .bool x6] 30))).alloc (Nat.le_refl _) (.cells #[.int .u8 c.toNat] 5)
      have Hq := quoted_known _ [c] 39 ⟨#[]⟩ r hre _ BA (by simp) (by simp) (Tab.on ht0 l2)
      rw [World.size_alloc] at Hq
      have Hq := Lib.hid Hq
      have L2 := Lib.hid (chain hB0 l2)
      clear hr hre ht ht0 BA l2 hp hc h5 hp0 hp1
      go_enter Tryd.func16, Tryd.ntmps16
      go_wp2_with (go_at_call 38; refine Hq.out.mono ?_; rintro e w2 ⟨rfl, b2⟩)
      go_ret
      exact ⟨by rw [Hr.out]; rfl, chain L2.out b2⟩
    · have e6 : (kind == 6) = false := by rw [beq_eq_false_iff_ne]; exact h6
      by_cases h7 : kind = 7
      · subst h7
        have hr : txtI 7 num u.data.toList = 34 :: shL 34 [92, 38] u.data.toList ++ [34] := by
          unfold txtI; rw [if_neg (by omega), if_neg (by omega), if_pos rfl]
        obtain ⟨r, hre⟩ : ∃ r : ByteArray, 34 :: shL 34 [92, 38] u.data.toList ++ [34] = r.data.toList := ⟨⟨(34 :: shL 34 [92, 38] u.data.toList ++ [34]).toArray⟩, by simp⟩
        have Hr := Lib.hid (hr.trans hre)
        obtain ⟨BA, l2⟩ := bytes_world (w.alloc (.cells #[.int .i64 7, .string u, .int .i64 num, .int .i64 x3, .int .i64 x4, .int .i64 x5, .bool x6] 30)) u
        have hcv := Lib.run_convert_string_bytes (P := Tryd.prog) (w.alloc (.cells #[.int .i64 7, .string u, .int .i64 num, .int .i64 x3, .int .i64 x4, .int .i64 x5, .bool x6] 30)) 9 56 5 u Tryd.underlying9 Tryd.underlying56 Tryd.underlying5
        have Hq := quoted_known _ u.data.toList 34 ⟨#[92, 38]⟩ r hre _ BA hu (by simp) (Tab.on ht0 l2)
        have l2' := chain hB0 l2
        rw [World.size_alloc] at hcv Hq
        generalize grownCap (w.alloc (.cells #[.int .i64 7, .string u, .int .i64 num, .int .i64 x3, .int .i64 x4, .int .i64 x5, .bool x6] 30)) u.size 0 5 = cp at hcv Hq
        generalize Lib.bytesWorld (w.alloc (.cells #[.int .i64 7, .string u, .int .i64 num, .int .i64 x3, .int .i64 x4, .int .i64 x5, .bool x6] 30)) 5 u = W2 at hcv Hq l2'
        have Hq := Lib.hid Hq
        have L2 := Lib.hid l2'
        clear hr hre ht ht0 BA l2 l2' h5 h6 e5 e6 hm
        go_enter Tryd.func16, Tryd.ntmps16
        go_wp2_with (go_at_call 38; refine Hq.out.mono ?_; rintro e w2 ⟨rfl, b2⟩)
        go_ret
        exact ⟨by rw [Hr.out]; rfl, chain L2.out b2⟩
      · have e7 : (kind == 7) = false := by rw [beq_eq_false_iff_ne]; exact h7
        by_cases h8 : 1 ≤ kind ∧ kind ≤ 10
        · have hr : txtI kind num u.data.toList = u.data.toList := by
            unfold txtI; rw [if_neg h5, if_neg h6, if_neg h7, if_pos h8]
          have Hr := Lib.hid hr
          have d1 : decide (kind < 1) = false := decide_eq_false (by omega)
          have d2 : decide (10 < kind) = false := decide_eq_false (by omega)
          clear hr ht ht0 h5 h6 h7 h8 hm
          go_enter Tryd.func16, Tryd.ntmps16
          go_wp2
          go_ret
          exact ⟨by rw [Hr.out]; rfl, hB0⟩
        · have hr : txtI kind num u.data.toList = [] := by
            unfold txtI; rw [if_neg h5, if_neg h6, if_neg h7, if_neg h8]
          have Hr := Lib.hid hr
          have hd : decide (kind < 1) = true ∨ (decide (kind < 1) = false ∧ decide (10 < kind) = true) := by
            by_cases g : kind < 1
            · exact .inl (decide_eq_true g)
            · exact .inr ⟨decide_eq_false g, decide_eq_true (by omega)⟩
          clear hr ht ht0 h5 h6 h7 h8 hm
          rcases hd with d1 | ⟨d1, d2⟩
          all_goals
            go_enter Tryd.func16, Tryd.ntmps16
            go_wp2
            go_ret
            exact ⟨by rw [Hr.out]; rfl, hB0⟩

/-! ## Join -/
def strs (l : List (List UInt8)) : List Value := l.map fun x => .string ⟨x.toArray⟩
theorem infoS : (Tryd.prog.info? 9).map (fun i => (i.zero, i.size, i.bytes)) = some (some (.string ⟨#[]⟩), 1, 16) := by kernel_rfl
def joinL (l : List (List UInt8)) : List UInt8 := Lib.join l [32]
theorem join_strs (w : World) (base : Nat) (v : Value) (l : List (List UInt8)) (h : w.ownsRow base 9 1 v l.length (strs l)) (hn : l.length ≤ 1000000) (hz : (joinL l).length ≤ 1000000000000) :
    Calls Tryd.prog 41 #[v, .string ⟨#[32]⟩] w fun e w' => e = .returned (.string ⟨(joinL l).toArray⟩) ∧ Below w.heap.size w w' := by
  rcases h.2 with ⟨rfl, h1⟩ | ⟨g, cap, cur, rfl, hg, hb, hcap, _⟩
  · have : l = [] := List.length_eq_zero_iff.1 h1
    subst this
    refine (Tryd.strings_Join_none none 0 ⟨#[32]⟩ w).mono ?_
    rintro e w' ⟨rfl, rfl⟩
    exact ⟨rfl, Below.refl _ _⟩
  · have hm : (l.map fun x => (⟨x.toArray⟩ : ByteArray)).map (·.data.toList) = l := by
      rw [List.map_map]
      have : ((fun x : ByteArray => x.data.toList) ∘ fun x : List UInt8 => (⟨x.toArray⟩ : ByteArray)) = id := rfl
      rw [this, List.map_id]
    have := Tryd.strings_Join g 0 cap (l.map fun x => ⟨x.toArray⟩) ⟨#[32]⟩ w (fun j x hx => by
      have hj := h.cells (g := g) rfl j (.string x) (by
        unfold strs
        rw [List.getElem?_map] at hx ⊢
        cases hq : l[j]? with
        | none => rw [hq] at hx; cases hx
        | some y => rw [hq] at hx; cases hx; rfl)
      rw [Nat.zero_add]
      cases j with
      | zero => simpa [Addr.add] using hj
      | succ j => simpa [Addr.add] using hj) (Array.getElem?_eq_some_iff.1 hb).1 (by rw [List.length_map]; omega) (by rw [List.length_map]; exact hcap) (by rw [hm]; show (joinL l).length ≤ _; omega)
    rw [List.length_map, hm] at this
    exact this
theorem join_cons (x y : List UInt8) (l : List (List UInt8)) : joinL (x :: y :: l) = x ++ 32 :: joinL (y :: l) := by
  simp [joinL, Lib.join, List.intercalate]
theorem join_txt : ∀ (l : List Tk), joinL (l.map txtK) = joinK l
  | [] => rfl
  | [t] => by simp [joinL, Lib.join, List.intercalate, joinK]
  | t :: u :: l => by
    rw [List.map_cons, List.map_cons, join_cons, joinK_cons, ← List.map_cons, join_txt (u :: l)]
theorem joinL_len : ∀ (l : List (List UInt8)), (joinL l).length ≤ (l.map fun x => x.length + 1).sum
  | [] => by simp [joinL, Lib.join, List.intercalate]
  | [x] => by simp [joinL, Lib.join, List.intercalate]
  | x :: y :: l => by
    have := joinL_len (y :: l)
    rw [join_cons, List.map_cons, List.sum_cons, List.length_append, List.length_cons]
    omega

theorem text_known (kind num : Int) (u : ByteArray) (x3 x4 x5 : Int) (x6 : Bool) (r : List UInt8) (hr : txtI kind num u.data.toList = r) (w : World) (hu : u.size ≤ 1000000) (hn : num ≤ 9223372036854775807) (ht : Tab w) :
    Calls Tryd.prog 16 #[.agg #[.int .i64 kind, .string u, .int .i64 num, .int .i64 x3, .int .i64 x4, .int .i64 x5, .bool x6]] w fun e w' => e = .returned (.string ⟨r.toArray⟩) ∧ Below w.heap.size w w' := by
  rw [← hr]; exact text_of kind num u x3 x4 x5 x6 w hu hn ht

set_option maxRecDepth 100000 in
set_option maxHeartbeats 8000000 in
theorem join_any (v : Value) (ts : List Tp) (w : World) (h : TRd w v ts) (hn : ts.length ≤ 100000) (hu : ∀ x ∈ ts, x.t.text.length ≤ 100000 ∧ x.t.num ≤ 9223372036854775807) (hz : (joinL (ts.map fun x => txtI x.t.kind x.t.num x.t.text)).length ≤ 1000000000000) (ht : Tab w) :
    Calls Tryd.prog 19 #[v] w fun e w' => e = .returned (.string ⟨(joinL (ts.map fun x => txtI x.t.kind x.t.num x.t.text)).toArray⟩) ∧ Below w.heap.size w w' := by
  obtain ⟨a, cap, rfl, hc⟩ := h
  obtain ⟨i0, hinf, hz0, hz1, hz2⟩ := info_parts infoS
  obtain ⟨N, hN⟩ : ∃ N, ts.length = N := ⟨_, rfl⟩
  have HN := Lib.hid hN
  have Hc := Lib.hid hc
  have Hu := Lib.hid hu
  have Hz := Lib.hid hz
  have Htb := Lib.hid ht
  rw [hN] at hn ⊢
  clear hN hc hu hz ht
  go_enter Tryd.func19, Tryd.ntmps19
  go_wp2
  go_loopw [3, 8] (fun x i wr => ∃ k : Nat, i = .int .i64 k ∧ k ≤ N ∧ wr.ownsRow w.heap.size 9 1 x k (strs ((ts.take k).map fun x => txtI x.t.kind x.t.num x.t.text)) ∧ Below w.heap.size w wr) (fun _ i _ => N - (intOf i).toNat)
  case atStart => exact ⟨0, rfl, Nat.zero_le _, World.ownsRow_nil _ _ _ _, Below.refl _ _⟩
  case round =>
    obtain ⟨k, rfl, hk, hown, hB⟩ := hrel
    by_cases hlt : k < N
    · have hlt2 : decide ((k : Int) < (N : Int)) = true := by simp; omega
      have hlt3 : decide (k < N) = true := by simp; omega
      have hkl : k < ts.length := by rw [HN.out]; exact hlt
      obtain ⟨b, rfl, hbl, hat⟩ := Hc.out (by omega)
      have key : ∀ o, wr.cell? ⟨b, o, none⟩ = w.cell? ⟨b, o, none⟩ := fun o => hB.cell (p := ⟨b, o, none⟩) hbl
      obtain ⟨c0, c1, c2, c3, c4, c5, c6⟩ := hat k hkl
      rw [← key] at c0 c1 c2 c3 c4 c5 c6
      have hnext : strs ((ts.take (k + 1)).map fun x => txtI x.t.kind x.t.num x.t.text) = strs ((ts.take k).map fun x => txtI x.t.kind x.t.num x.t.text) ++ [.string ⟨(txtI ts[k].t.kind ts[k].t.num ts[k].t.text).toArray⟩] := by
        unfold strs
        rw [List.take_succ_eq_append_getElem hkl, List.map_append, List.map_append]
        rfl
      obtain ⟨u1, u2⟩ := Hu.out ts[k] (List.getElem_mem hkl)
      generalize ts[k] = x at c0 c1 c2 c3 c4 c5 c6 hnext u1 u2
      obtain ⟨⟨tk, tt, tn⟩, pa, pl, pc, pf⟩ := x
      simp only at c0 c1 c2 c3 c4 c5 c6 hnext u1 u2
      obtain ⟨r, hr⟩ : ∃ r, txtI (tk : Int) (tn : Int) tt = r := ⟨_, rfl⟩
      have hsz : (⟨tt.toArray⟩ : ByteArray).size ≤ 1000000 := by show tt.toArray.toList.length ≤ 1000000; simp; omega
      have Ht := Lib.hid (fun w ht => text_known (tk : Int) (tn : Int) ⟨tt.toArray⟩ (pa : Int) (pl : Int) (pc : Int) pf r hr w hsz (by omega) ht)
      rw [hr] at hnext
      have Hnext := Lib.hid hnext
      have hBa := hB.alloc hB.size (.cells #[.int .i64 tk, .string ⟨tt.toArray⟩, .int .i64 tn, .int .i64 pa, .int .i64 pl, .int .i64 pc, .bool pf] 30)
      have hta := Tab.on Htb.out hBa
      have Hta := Lib.hid hta
      clear hnext hr hat key hta hsz
      go_wp2_with (first | (go_at_call 16; refine (Ht.out _ Hta.out).mono ?_; rintro e w1 ⟨rfl, b1⟩; have own1 := own_on (hown.alloc _) b1 (own_lt (hown.alloc _)); have hB1 := chain hBa b1) | (at_builtin; refine wpList_append_own _ rfl _ _ 32 rfl w.heap.size 9 i0 (.string ⟨#[]⟩) 1 16 Tryd.underlying32 hinf hz0 hz1 hz2 rfl (by decide) _ _ _ rfl (own1.alloc _) ⟨w1.heap.size, 0, none⟩ 1 1 [.string ⟨r.toArray⟩] rfl rfl (cells_new w1 _ _) (by simp [Value.oneCell']) (by unfold maxLen; omega) (by omega) (by have := hB1.size; simp; omega) ?_; intro v3 w3 own3 hgrow3 _; have hB3 := grown_below (hB1.alloc hB1.size _) hgrow3 (own1.alloc _) (by have := hB1.size; simp; omega) (Nat.le_refl _)))
      go_roundw
      case rel => exact ⟨k + 1, by go_num, by omega, by rw [Hnext.out]; exact own3, hB3⟩
      case measure => simp [intOf]; omega
    · have hlt2 : decide ((k : Int) < (N : Int)) = false := by simp; omega
      have hlt3 : decide (k < N) = false := by simp; omega
      have hkN : k = N := by omega
      have hall : ts.take k = ts := List.take_of_length_le (by rw [HN.out]; omega)
      rw [hall] at hown
      obtain ⟨va, vc, rfl⟩ := own_shape hown
      have hown' : wr.ownsRow w.heap.size 9 1 (.slice va k vc) (ts.map fun x => txtI x.t.kind x.t.num x.t.text).length (strs (ts.map fun x => txtI x.t.kind x.t.num x.t.text)) := by
        rw [List.length_map, HN.out, ← hkN]; exact hown
      have Hj := Lib.hid (join_strs wr w.heap.size _ _ hown' (by rw [List.length_map, HN.out]; omega) Hz.out)
      clear hall hown hown' hkN
      go_wp2_with (go_at_call 41; refine Hj.out.mono ?_; rintro e w1 ⟨rfl, b1⟩)
      go_ret
      exact ⟨rfl, chain hB b1⟩
end Go.Proofs.YtiflklmjmdhfoaaDoor
