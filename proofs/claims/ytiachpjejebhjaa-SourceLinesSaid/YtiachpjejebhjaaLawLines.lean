/- 'SourceLines' holds: of any text of at most 4000 bytes the lines, joined by bytes 10, are the text, and no line holds a byte 10; of a longer text the law says true at once. No conditions. -/
import Derived.Lib.AppendStr
import Derived.Test.YtiachpjejebhjaaLines
import Derived.Test.YtiachpjejebhjaaPlain2
import Derived.Test.YtiachpjejebhjaaLives
import Derived.Test.YtiachpjejebhjaaRows
import Derived.ProofKit
import Derived.OpenShut
import Derived.ShutString
namespace Go.Proofs.Ytiachpjejebhjaa.sourceLines
open Go.ChangeShapes Go.WideShapes Go.ChangeAt Go.RowKit
open Go.ChangeMaps (open_string shut_string)
set_option linter.unusedVariables false

theorem info5 : (Try.prog.info? 5).map (fun i => (i.zero, i.size, i.bytes)) = some (some (.int .u8 0), 1, 1) := by kernel_rfl

def bV (l : List UInt8) : List Value := l.map fun b => Value.int .u8 (b.toNat : Int)

theorem bV_len (l : List UInt8) : (bV l).length = l.length := by simp [bV]
theorem bV_app (a b : List UInt8) : bV (a ++ b) = bV a ++ bV b := by simp [bV]

theorem run_back (w : World) (base : Nat) (v : Value) (s : ByteArray) (h : w.ownsRow base 5 1 v s.data.toList.length (bV s.data.toList)) :
    (convert 25 9 v).run Try.prog w = .ok (.string s) w := by
  rcases h.2 with ⟨rfl, h0⟩ | ⟨g, cap, cur, rfl, _⟩
  · have hs : s = ByteArray.empty := by
      obtain ⟨⟨l⟩⟩ := s
      have : l = [] := List.length_eq_zero_iff.1 h0
      subst this; rfl
    rw [hs]
    rw [run_convert_bytes_string w _ _ 5 none 0 0 Try.underlying25 Try.underlying5 Try.underlying9]; rfl
  · have hc := h.cells (g := g) rfl
    rw [run_convert_bytes_back w _ _ 5 ⟨g, 0, none⟩ cap s.data.toList Try.underlying25 Try.underlying5 Try.underlying9 (fun j hj => hc j _ (by unfold bV; rw [List.getElem?_map, List.getElem?_eq_getElem hj]; rfl))]

theorem line_byte (s : ByteArray) (f t j : Nat) (ht : t ≤ s.size) (h : ∃ c, (lineB s.data.toList (f, t))[j]? = some c ∧ ¬ c = 10) (hj : j < (s.extract f t).size) : (((s.extract f t)[j].toNat : Int) == 10) = false := by
  obtain ⟨c, h1, h2⟩ := h
  have e : (s.extract f t).data.toList = lineB s.data.toList (f, t) := by
    rw [Lib.extract_data, lineB, List.drop_take]
  have hj' : j < (s.extract f t).data.toList.length := hj
  have e2 : (s.extract f t)[j] = (s.extract f t).data.toList[j] := rfl
  have e3 : (s.extract f t).data.toList[j]? = some c := by rw [e]; exact h1
  rw [List.getElem?_eq_getElem hj'] at e3
  injection e3 with e3
  rw [e2, e3, beq_eq_false_iff_ne]
  intro e4
  apply h2
  have e5 : c.toNat = 10 := by omega
  exact UInt8.toNat_inj.1 e5

theorem ownsRow_from {W : World} {b : Nat} {e : TypeId} {size : Nat} {v : Value} {n : Nat} {xs : List Value} (h : W.ownsRow b e size v n xs) {k : Nat} (hk : v.ownBlock = some k) : b ≤ k := by
  rcases h.2 with ⟨rfl, _⟩ | ⟨g, cap, cur, rfl, hg, _⟩
  · simp [Value.ownBlock] at hk
  · simp [Value.ownBlock] at hk; omega

theorem strCells_line (s : ByteArray) (f t : Nat) : Lib.strCells (s.extract f t) = bV (lineB s.data.toList (f, t)) := by
  unfold Lib.strCells bV
  rw [Lib.extract_data, lineB, List.drop_take]

theorem row_first (s : ByteArray) {n f t : Nat} (h : n < (segs s.data.toList).length) (hx : (segs s.data.toList)[n] = (f, t)) (h0 : n = 0) {w : World} {b : Nat} {v : Value}
    (hr : w.ownsRow b 5 1 v ((joinN s.data.toList n).length + (s.extract f t).size) (bV (joinN s.data.toList n) ++ Lib.strCells (s.extract f t))) :
    w.ownsRow b 5 1 v (joinN s.data.toList (n + 1)).length (bV (joinN s.data.toList (n + 1))) := by
  subst h0
  have e := joinN_first s.data.toList h
  rw [hx] at e
  rw [strCells_line] at hr
  have e2 : (joinN s.data.toList 0).length + (s.extract f t).size = (joinN s.data.toList (0 + 1)).length := by
    have h1 := congrArg List.length (strCells_line s f t)
    rw [Lib.strCells_length, bV_len] at h1
    rw [e, h1]; simp [joinN]
  rw [e2] at hr
  rw [show bV (joinN s.data.toList (0 + 1)) = bV (joinN s.data.toList 0) ++ bV (lineB s.data.toList (f, t)) from by rw [e]; simp [joinN, bV]]
  exact hr

theorem row_next (s : ByteArray) {n f t : Nat} (h : n < (segs s.data.toList).length) (hx : (segs s.data.toList)[n] = (f, t)) (h0 : 0 < n) {w : World} {b : Nat} {v : Value}
    (hr : w.ownsRow b 5 1 v ((joinN s.data.toList n).length + 1 + (s.extract f t).size) (bV (joinN s.data.toList n) ++ [.int .u8 10] ++ Lib.strCells (s.extract f t))) :
    w.ownsRow b 5 1 v (joinN s.data.toList (n + 1)).length (bV (joinN s.data.toList (n + 1))) := by
  obtain ⟨m, rfl⟩ : ∃ m, n = m + 1 := ⟨n - 1, by omega⟩
  have e := joinN_next s.data.toList m h
  rw [hx] at e
  rw [strCells_line] at hr
  have e2 : (joinN s.data.toList (m + 1)).length + 1 + (s.extract f t).size = (joinN s.data.toList (m + 1 + 1)).length := by
    have h1 := congrArg List.length (strCells_line s f t)
    rw [Lib.strCells_length, bV_len] at h1
    rw [e, h1]; simp; omega
  rw [e2] at hr
  rw [show bV (joinN s.data.toList (m + 1 + 1)) = bV (joinN s.data.toList (m + 1)) ++ [.int .u8 10] ++ bV (lineB s.data.toList (f, t)) from by rw [e]; simp [bV]]
  exact hr

theorem Lines_any (s : ByteArray) (hs : s.size ≤ 100000) (w : World) :
    Calls Try.prog 8 #[.string s] w fun e W' => ∃ v, e = .returned v ∧ W'.ownsRow w.heap.size 9 1 v (segs s.data.toList).length ((segs s.data.toList).map (encL s)) ∧ Below w.heap.size w W' :=
  (callsIn_wide (n := 3)).1 (Lines_in s hs w)

set_option maxRecDepth 100000 in
set_option maxHeartbeats 2000000 in
theorem walk_small (s : ByteArray) (hs : s.size ≤ 4000) (w : World) :
    Calls Try.prog 3 #[.string s] w fun e w' => e = .returned (.bool true) ∧ Below w.heap.size w w' := by
  have hs1 : decide ((4000 : Int) < s.size) = false := by simp; omega
  obtain ⟨i0, hi, hz0, hz1, hz2⟩ := info_parts info5
  have hN := segs_pos s.data.toList
  have hN2 := segs_len s.data.toList
  have hl0 : s.data.toList.length = s.size := rfl
  go_enter Try.func3, Try.ntmps3
  go_wp2_with (go_at_call 7; refine (lives_any _).mono ?_; rintro e w0 ⟨rfl, hb0⟩)
  refine (Lines_any s (by omega) w0).mono ?_
  rintro e w1 ⟨v, rfl, hown, hb1⟩
  obtain ⟨g, cap, rfl⟩ : ∃ g cap, v = .slice (some ⟨g, 0, none⟩) (segs s.data.toList).length cap := by
    rcases hown.2 with ⟨_, h0⟩ | ⟨g, cap, _, rfl, _⟩
    · omega
    · exact ⟨g, cap, rfl⟩
  have hcells := hown.cells (g := g) rfl
  have hcell : ∀ (j : Nat) (hj : j < (segs s.data.toList).length), w1.cell? ⟨g, j, none⟩ = some (.string (s.extract (segs s.data.toList)[j].1 (segs s.data.toList)[j].2)) := by
    intro j hj
    have h := hcells j (encL s (segs s.data.toList)[j]) (by rw [List.getElem?_map, List.getElem?_eq_getElem hj]; rfl)
    cases j with
    | zero => simpa [Addr.add] using h
    | succ j => simpa [Addr.add] using h
  have hg : g < w1.heap.size := by
    have h := hcell 0 hN
    unfold World.cell? at h
    split at h
    · rename_i h2; exact (Array.getElem?_eq_some_iff.1 h2).1
    · cases h
  obtain ⟨N, hNe⟩ : ∃ N, (segs s.data.toList).length = N := ⟨_, rfl⟩
  have HN := Lib.hid hNe
  rw [hNe]
  clear hNe
  clear hcells hown
  go_wp2
  go_loopw [4, 5, 6] (fun b i k wr => ∃ n : Nat, i = .int .i64 n ∧ n ≤ N ∧ wr.ownsRow w1.heap.size 5 1 b (joinN s.data.toList n).length (bV (joinN s.data.toList n)) ∧ Below w1.heap.size w1 wr)
    (fun _ i _ _ => N - (intOf i).toNat)
  case atStart => exact ⟨0, rfl, Nat.zero_le _, World.ownsRow_nil _ _ _ _, Below.refl _ _⟩
  case round =>
    obtain ⟨n, rfl, hn, hrow, hbw⟩ := hrel
    have hjl := joinN_le s.data.toList n
    by_cases hlt : n < N
    · have hltS : n < (segs s.data.toList).length := by rw [HN.out]; exact hlt
      obtain ⟨a1, a2, _, _, _, _⟩ := segs_facts s.data.toList n hltS
      have hno := lineB_no s.data.toList n hltS
      have hc := (hbw.cell (p := ⟨g, n, none⟩) hg).trans (hcell n hltS)
      generalize hx : (segs s.data.toList)[n] = x at a1 a2 hno hc
      obtain ⟨f, t⟩ := x
      simp only at a1 a2 hno hc
      have Hx := Lib.hid hx; clear hx
      have hcell0 := hcell n hltS
      rw [Hx.out] at hcell0
      by_cases hn0 : n = 0
      · have hn1 : decide (0 < n) = false := by simp; omega
        have Hn0 := Lib.hid hn0
        clear hn0
        go_wp2
        have hc' := (hbw.cell (p := ⟨g, n, none⟩) hg).trans hcell0
        go_loop [6] (fun k => ∃ j : Nat, k = .int .i64 j ∧ j ≤ t - f) (fun k => t - f - (intOf k).toNat)
        case atStart => exact ⟨0, rfl, Nat.zero_le _⟩
        case round =>
          obtain ⟨j, rfl, hj⟩ := hrel
          by_cases hjt : j < t - f
          · have hsz : (s.extract f t).size = t - f := by simp; omega
            have hby := line_byte s f t j a2 (hno j (by omega)) (by rw [hsz]; exact hjt)
            clear hno hcell hcell0 hrow
            go_wp2
            go_round
            case rel => exact ⟨j + 1, by go_num, by omega⟩
            case measure => simp [intOf]; omega
          · have hsz : (s.extract f t).size = t - f := by simp; omega
            go_wp2_with (at_builtin; refine Lib.wpList_append_own_string _ rfl _ _ 25 9 rfl w1.heap.size 5 i0 Try.underlying25 Try.underlying9 hi hz0 hz1 hz2 _ _ _ rfl hrow (s.extract f t) rfl (by unfold maxLen; omega) (by omega) (by have := hbw.size; omega) ?_; intro v3 w3 hrow3 hgrow3 _)
            have hbw3 : Below w1.heap.size w1 w3 := hbw.grown hgrow3 hbw.size (fun k e => ownsRow_from hrow e)
            go_wp2
            go_roundw
            case rel => exact ⟨n + 1, by go_num, by omega, row_first s hltS Hx.out Hn0.out hrow3, hbw3⟩
            case measure => simp [intOf]; omega
      · have hn1 : decide (0 < n) = true := by simp; omega
        have hn2 : 0 < n := by omega
        go_wp2_with (at_builtin; refine wpList_append_own _ rfl _ _ 25 rfl w1.heap.size 5 i0 (.int .u8 0) 1 1 Try.underlying25 hi hz0 hz1 hz2 rfl (by decide) _ _ _ rfl (hrow.alloc _) ⟨wr.heap.size, 0, none⟩ 1 1 [.int .u8 10] rfl rfl (cell_one_new _ _ _) (by simp [Value.oneCell']) (by unfold maxLen; omega) (by omega) (by have := hbw.size; simp; omega) ?_; intro v2 w2 hrow2 hgrow _)
        have hbw2 : Below w1.heap.size w1 w2 := (hbw.alloc hbw.size _).grown hgrow (by have := hbw.size; simp; omega) (fun k e => ownsRow_from hrow e)
        have hc' := (hbw2.cell (p := ⟨g, n, none⟩) hg).trans hcell0
        go_loop [6] (fun k => ∃ j : Nat, k = .int .i64 j ∧ j ≤ t - f) (fun k => t - f - (intOf k).toNat)
        case atStart => exact ⟨0, rfl, Nat.zero_le _⟩
        case round =>
          obtain ⟨j, rfl, hj⟩ := hrel
          by_cases hjt : j < t - f
          · have hsz : (s.extract f t).size = t - f := by simp; omega
            have hby := line_byte s f t j a2 (hno j (by omega)) (by rw [hsz]; exact hjt)
            clear hno hcell hcell0 hrow
            go_wp2
            go_round
            case rel => exact ⟨j + 1, by go_num, by omega⟩
            case measure => simp [intOf]; omega
          · have hsz : (s.extract f t).size = t - f := by simp; omega
            go_wp2_with (at_builtin; refine Lib.wpList_append_own_string _ rfl _ _ 25 9 rfl w1.heap.size 5 i0 Try.underlying25 Try.underlying9 hi hz0 hz1 hz2 _ _ _ rfl hrow2 (s.extract f t) rfl (by unfold maxLen; omega) (by omega) (by have := hbw2.size; omega) ?_; intro v3 w3 hrow3 hgrow3 _)
            have hbw3 : Below w1.heap.size w1 w3 := hbw2.grown hgrow3 hbw2.size (fun k e => ownsRow_from hrow2 e)
            go_wp2
            go_roundw
            case rel => exact ⟨n + 1, by go_num, by omega, row_next s hltS Hx.out hn2 hrow3, hbw3⟩
            case measure => simp [intOf]; omega
    · have : n = N := by omega
      subst this
      have hall : joinN s.data.toList n = s.data.toList := by have h := joinN_all s.data.toList; rw [HN.out] at h; exact h
      rw [hall] at hrow
      have hcv := run_back wr _ _ s hrow
      have hN' : decide (0 < n) = true := by have := HN.out; simp; omega
      go_wp2
      go_ret
      exact ⟨rfl, (hb0.trans (hb1.mono hb0.size)).trans (hbw.mono (by have := hb0.size; have := hb1.size; omega))⟩

theorem walk (a0 : ByteArray) (w0 : a0.size ≤ maxLen) (w : World) :
    Calls Try.prog 3 #[.string a0] w fun e w' => e = .returned (.bool true) ∧ Below w.heap.size w w' := by
  by_cases hs : a0.size ≤ 4000
  · exact walk_small a0 hs w
  · unfold maxLen at w0
    have hs1 : decide ((4000 : Int) < a0.size) = true := by simp; omega
    go_enter Try.func3, Try.ntmps3
    go_wp2_with (go_at_call 7; refine (lives_any _).mono ?_; rintro e w1 ⟨rfl, hb⟩)
    go_ret
    exact ⟨rfl, hb⟩

theorem own : ownKnob Try.prog.godebug = none := by kernel_rfl

set_option maxRecDepth 100000 in
theorem lifted (os : Os) (started : os.Started) (H : Type) (enc : TypeId × Value → H) :
    ReturnsInHanded {} Try.checked os 3 .any (Rows.sourceLinesSpec.pre6 enc Try.prog Try.f3 Rows.sourceLinesRow.domain false) (Rows.sourceLinesSpec.post enc Try.prog Try.f3 false true false false) := by
  refine returnsInHanded_of_change (C := Try.checked) own started (by kernel_rfl) Try.func3
    (ChangeSpec.witness6 (enc := enc) (C := Try.checked) false ⟨#[], #[.string ByteArray.empty], []⟩ 8 (by kernel_rfl) (by kernel_rfl) (by kernel_rfl) (by kernel_rfl)) ?_
  intro W base args ds gs before hval0 hW hcnd _
  have hval : ∀ (j : Nat) t v, Try.f3.params[j]? = some t → args[j]? = some v → Value.okWide Try.prog W .any base t v := hval0
  have hW' := hW
  obtain ⟨p, q, hA0, hV, rfl, hfz, hnd⟩ := hW
  have hA : DataW.TrodAll enc Try.prog W 0 (fun _ => true) true Try.f3.params.toList args.toList ds p := hA0
  rw [Try.params3] at hA hval
  obtain ⟨v0, vs0, d0, ds0, p0, q0, hargs, rfl, rfl, h0, r0⟩ := trodAll_cons hA
  obtain ⟨rfl, rfl, rfl⟩ := trodAll_nil r0
  obtain rfl : args = #[v0] := by cases args; simp_all
  obtain ⟨rfl, rfl⟩ := trodVars_none hV
  obtain ⟨a0, rfl, rfl, rfl, w0⟩ := open_string Try.underlying9 (hval 0 9 v0 rfl rfl) h0
  clear hA0 hval0
  simp only [List.append_nil] at hW'
  refine (walk a0 w0 W).mono fun e W' ⟨he, bel⟩ => ?_
  subst he
  exact ⟨_, rfl, _, _, _, [], [], [], hW', trodAll_mk1 (shut_bool Try.underlying4 _), (trodAll_cons_mk (shut_string Try.underlying9 w0) trodAll_mk0), rfl, bel.frame _, fun h => by cases h⟩

theorem over : Rows.sourceLinesRow.holds Try.pinned (OpenSpec.ofChange Rows.sourceLinesSpec) :=
  OpenClaim.holds_of_wide 3 Try.f3 rfl rfl rfl rfl rfl rfl rfl ⟨rfl, rfl, rfl, rfl, rfl⟩ rfl rfl rfl rfl rfl (by kernel_rfl) Try.func3 (by kernel_rfl)
    (of_decide_eq_true (by kernel_rfl)) (by unfold Func.isWrapper; rw [if_neg (by decide +kernel)]; exact ⟨rfl, rfl⟩)
    (fun os started H enc _ => lifted os started H enc)

theorem proved : Rows.SourceLinesSaid := over

end Go.Proofs.Ytiachpjejebhjaa.sourceLines
