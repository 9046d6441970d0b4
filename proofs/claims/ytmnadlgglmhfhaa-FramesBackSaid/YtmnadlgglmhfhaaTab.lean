/- Contracts of num, apply, none, New, Takes, table, Check (frames). Conditions: lengths at most 2^40. -/
import Derived.Test.YtmnadlgglmhfhaaOwn
import Derived.Deep.DeepCutAuto
import Derived.Deep.CutBlock
namespace Go.Proofs.Ytmnadlgglmhfhaa
open Go.RowKit
set_option linter.unusedSimpArgs false


/-- A frame as a value. -/
structure FrD where
  k : Int
  o : Int
  n : Int
  s : ByteArray
  ws : List Wd
  ds : List Wd

def FrD.takes (f : FrD) : Nat := 1 + f.ws.length + f.ds.length + (f.s.size + 7) / 8

set_option maxHeartbeats 1000000 in
theorem num_any (n : Int) (w : World) : Calls Try.prog 13 #[.int .i64 n] w fun e w' => e = .returned (.agg #[.int .i64 1, .int .i64 n]) ∧ Below w.heap.size w w' := by
  go_enter Try.func13, Try.ntmps13
  go_wp2
  exact bodyPost_ret (v := .agg #[.int .i64 1, .int .i64 n]) (by simp [results, Try.results13, go_sem]) rfl ⟨rfl, by ((repeat (first | exact Below.refl _ _ | (refine Below.alloc ?_ (by first | (simp [World.setCell]; done) | (simp [World.setCell]; omega)) _) | (refine Below.setCell ?_ (by first | (simp [World.setCell]; done) | (simp [World.setCell]; omega)) _) | refine Below.drew ?_)))⟩

set_option maxHeartbeats 1000000 in
theorem none_any (b : Nat) (l t v : Value) (made : Bool) (w : World) (h : Blk w b #[l, t, v, .bool made]) : Calls Try.prog 40 #[.pointer (some ⟨b, 0, none⟩)] w fun e w' => e = .returned (.bool (!made)) ∧ Below w.heap.size w w' := by
  have c0 := h.cell
  go_enter Try.func40, Try.ntmps40
  go_wp2
  exact bodyPost_ret (v := .bool (!made)) (by simp [results, Try.results40, go_sem]) rfl ⟨rfl, by ((repeat (first | exact Below.refl _ _ | (refine Below.alloc ?_ (by first | (simp [World.setCell]; done) | (simp [World.setCell]; omega)) _) | (refine Below.setCell ?_ (by first | (simp [World.setCell]; done) | (simp [World.setCell]; omega)) _) | refine Below.drew ?_)))⟩

set_option maxHeartbeats 1000000 in
theorem none_nil (w : World) : Calls Try.prog 40 #[.pointer none] w fun e w' => e = .returned (.bool true) ∧ Below w.heap.size w w' := by
  go_enter Try.func40, Try.ntmps40
  go_wp2
  exact bodyPost_ret (v := .bool true) (by simp [results, Try.results40, go_sem]) rfl ⟨rfl, by ((repeat (first | exact Below.refl _ _ | (refine Below.alloc ?_ (by first | (simp [World.setCell]; done) | (simp [World.setCell]; omega)) _) | (refine Below.setCell ?_ (by first | (simp [World.setCell]; done) | (simp [World.setCell]; omega)) _) | refine Below.drew ?_)))⟩

set_option maxHeartbeats 1000000 in
theorem takes_any (k o n : Int) (s : ByteArray) (a1 a2 : Option Addr) (l1 l2 c1 c2 : Nat) (w : World) (h1 : l1 ≤ 1000000000000) (h2 : l2 ≤ 1000000000000) (h3 : s.size ≤ 1000000000000) :
    Calls Try.prog 12 #[.agg #[.int .i64 k, .int .i64 o, .int .i64 n, .string s, .slice a1 l1 c1, .slice a2 l2 c2]] w fun e w' => e = .returned (.int .i64 ((1 + l1 + l2 + (s.size + 7) / 8 : Nat) : Int)) ∧ Below w.heap.size w w' := by
  go_enter Try.func12, Try.ntmps12
  go_wp2
  refine bodyPost_ret (v := .int .i64 ((1 + l1 + l2 + (s.size + 7) / 8 : Nat) : Int)) (by simp [results, Try.results12, go_sem]; try omega) rfl ⟨rfl, by ((repeat (first | exact Below.refl _ _ | (refine Below.alloc ?_ (by first | (simp [World.setCell]; done) | (simp [World.setCell]; omega)) _) | (refine Below.setCell ?_ (by first | (simp [World.setCell]; done) | (simp [World.setCell]; omega)) _) | refine Below.drew ?_)))⟩

def tab : Array Value := #[.int .i64 0, .int .i64 0, .bool false, .bool false, .bool false,
  .int .i64 1, .int .i64 1, .bool false, .bool false, .bool false,
  .int .i64 0, .int .i64 (-1), .bool true, .bool false, .bool false,
  .int .i64 1, .int .i64 32, .bool false, .bool false, .bool false,
  .int .i64 0, .int .i64 (-1), .bool true, .bool false, .bool true,
  .int .i64 1, .int .i64 1, .bool false, .bool false, .bool false,
  .int .i64 0, .int .i64 0, .bool false, .bool false, .bool false,
  .int .i64 0, .int .i64 1, .bool false, .bool true, .bool false,
  .int .i64 0, .int .i64 0, .bool false, .bool false, .bool false,
  .int .i64 1, .int .i64 1, .bool false, .bool false, .bool false,
  .int .i64 0, .int .i64 0, .bool false, .bool false, .bool false,
  .int .i64 0, .int .i64 0, .bool false, .bool false, .bool false]

set_option maxHeartbeats 2000000 in
theorem table_any (w : World) : Calls Try.prog 42 #[] w fun e w' => ∃ a, e = .returned (.slice (some ⟨a, 0, none⟩) 12 12) ∧ Blk w' a tab ∧ Below w.heap.size w w' := by
  go_enter Try.func42, Try.ntmps42
  go_wp2
  have hb := Blk.new ((w.alloc (Obj.cells #[.int .i64 1, .int .i64 1, .bool false, .bool false, .bool false] 64)).alloc (Obj.cells #[.int .i64 0, .int .i64 0, .bool false, .bool false, .bool false] 64)) tab 64
  rw [World.size_alloc, World.size_alloc] at hb
  exact bodyPost_ret (v := .slice (some ⟨w.heap.size + 1 + 1, 0, none⟩) 12 12) (by simp [results, Try.results42, go_sem]) rfl ⟨_, rfl, hb, by ((repeat (first | exact Below.refl _ _ | (refine Below.alloc ?_ (by first | (simp [World.setCell]; done) | (simp [World.setCell]; omega)) _) | (refine Below.setCell ?_ (by first | (simp [World.setCell]; done) | (simp [World.setCell]; omega)) _) | refine Below.drew ?_)))⟩

def mayOf : Nat → Int × Int × Bool × Bool × Bool
  | 1 => (1, 1, false, false, false)
  | 2 => (0, -1, true, false, false)
  | 3 => (1, 32, false, false, false)
  | 4 => (0, -1, true, false, true)
  | 5 => (1, 1, false, false, false)
  | 7 => (0, 1, false, true, false)
  | 9 => (1, 1, false, false, false)
  | _ => (0, 0, false, false, false)

theorem tab_at (i : Nat) (h : i < 12) : tab[i * 5]? = some (.int .i64 (mayOf i).1) ∧ tab[i * 5 + 1]? = some (.int .i64 (mayOf i).2.1) ∧ tab[i * 5 + 2]? = some (.bool (mayOf i).2.2.1) ∧ tab[i * 5 + 3]? = some (.bool (mayOf i).2.2.2.1) ∧ tab[i * 5 + 4]? = some (.bool (mayOf i).2.2.2.2) := by
  rcases i with _|_|_|_|_|_|_|_|_|_|_|_|i <;> first | exact ⟨rfl, rfl, rfl, rfl, rfl⟩ | omega

/-- What Check says of a frame of kind k. -/
def chkM (m : Int × Int × Bool × Bool × Bool) (o n : Int) (s : ByteArray) (l1 l2 : Nat) : Bool :=
  !(decide (o < 0) || (o != 0 && !m.2.2.1) || (n != 0 && !m.2.2.2.1) || (decide (n < 0) || decide (1 < n)) || (!s.toList.isEmpty && !m.2.2.2.1) || (decide (0 < l2) && !m.2.2.2.2) ||
    decide ((l1 : Int) < m.1) || (decide (0 ≤ m.2.1) && decide (m.2.1 < (l1 : Int))) || (m.2.2.2.1 && ((l1 : Int) != n)))
def chkK (k o n : Int) (s : ByteArray) (l1 l2 : Nat) : Bool := decide (1 ≤ k) && decide (k ≤ 11) && chkM (mayOf k.toNat) o n s l1 l2

set_option maxRecDepth 100000 in
set_option maxHeartbeats 8000000 in
set_option linter.unusedSimpArgs false in
theorem check_mid (k : Nat) (l m o n : Int) (op tx dn : Bool) (s : ByteArray) (a1 a2 : Option Addr) (l1 l2 c1 c2 : Nat) (w : World) (hk : 1 ≤ k ∧ k ≤ 11) (hm : mayOf k = (l, m, op, tx, dn)) :
    Calls Try.prog 25 #[.agg #[.int .i64 k, .int .i64 o, .int .i64 n, .string s, .slice a1 l1 c1, .slice a2 l2 c2]] w fun e w' => e = .returned (.int .i64 (if chkM (l, m, op, tx, dn) o n s l1 l2 then 0 else 2)) ∧ Below w.heap.size w w' := by
  obtain ⟨r, hr⟩ : ∃ r : Int, (if chkM (l, m, op, tx, dn) o n s l1 l2 then 0 else 2) = r := ⟨_, rfl⟩
  rw [hr]
  have Hr := Lib.hid hr; clear hr
  have htab := tab_at k (by omega)
  rw [hm] at htab
  simp only at htab
  have Hm := Lib.hid hm; clear hm
  obtain ⟨hk1, hk2⟩ := hk
  have hk3 : (k : Int) < 12 := by omega
  have hk4 : (0 : Int) ≤ k := by omega
  have hk5 : k < 12 := by omega
  have hk6 : decide ((k : Int) < 1) = false := by simp; omega
  have hk7 : decide (11 < (k : Int)) = false := by simp; omega
  obtain ⟨e0, e1, e2, e3, e4⟩ := htab
  go_enter Try.func25, Try.ntmps25
  go_wp2_with fail
  generalize hW0 : w.alloc (Obj.cells #[.int .i64 k, .int .i64 o, .int .i64 n, .string s, .slice a1 l1 c1, .slice a2 l2 c2] 32) = W0
  have hsz : W0.heap.size = w.heap.size + 1 := by rw [← hW0]; simp
  have hbel : Below w.heap.size w W0 := by rw [← hW0]; ((repeat (first | exact Below.refl _ _ | (refine Below.alloc ?_ (by first | (simp [World.setCell]; done) | (simp [World.setCell]; omega)) _) | (refine Below.setCell ?_ (by first | (simp [World.setCell]; done) | (simp [World.setCell]; omega)) _) | refine Below.drew ?_)))
  have B0 : Blk W0 w.heap.size #[.int .i64 k, .int .i64 o, .int .i64 n, .string s, .slice a1 l1 c1, .slice a2 l2 c2] := by rw [← hW0]; exact Blk.new w _ _
  have c0 := B0.cell
  clear hW0
  go_upto_region 3 with fail
  go_cut [1, 3] (fun s1 s3 wx => s1 = .pointer (some ⟨w.heap.size, 0, none⟩) ∧ ∃ q, s3 = .pointer (some ⟨q, 0, none⟩) ∧ Blk wx q #[.int .i64 l, .int .i64 m, .bool op, .bool tx, .bool dn] ∧ Blk wx w.heap.size #[.int .i64 k, .int .i64 o, .int .i64 n, .string s, .slice a1 l1 c1, .slice a2 l2 c2] ∧ Below w.heap.size w wx)
  case first =>
    go_region_with (first | (go_at_call 42; with_reducible refine (table_any W0.drew).mono ?_; rintro e w1 ⟨a, rfl, hb, hl⟩; have q1 := below_of_drew hl; have D0 := B0.below q1 B0.lt; have g0 := D0.cell; have cb := hb.cell; have lb := hb.lt; have ld := D0.lt; have lb1 := hbel.trans (q1.mono hbel.size)) | (go_at_call 42; go_loud (with_reducible refine (table_any _).mono ?_; rintro e w1 ⟨a, rfl, hb, hl⟩; have q1 := below_of_drew hl; have D0 := (B0.alloc (Obj.cells #[.int .i64 0, .int .i64 0, .bool false, .bool false, .bool false] 64)).below q1 (by have := B0.lt; (first | exact Nat.le_refl _ | omega | (simp; done) | (simp; omega) | (simp [World.setCell]; done) | (simp [World.setCell]; omega))); have g0 := D0.cell; have cb := hb.cell; have lb := hb.lt; have ld := D0.lt; have lb1 := (hbel.alloc (by (first | exact Nat.le_refl _ | omega | (simp; done) | (simp; omega) | (simp [World.setCell]; done) | (simp [World.setCell]; omega))) (Obj.cells #[.int .i64 0, .int .i64 0, .bool false, .bool false, .bool false] 64)).trans (q1.mono (by (first | exact Nat.le_refl _ | omega | (simp; done) | (simp; omega) | (simp [World.setCell]; done) | (simp [World.setCell]; omega)))); have D1 := (Blk.new W0 #[.int .i64 0, .int .i64 0, .bool false, .bool false, .bool false] 64).below q1 (by (first | exact Nat.le_refl _ | omega | (simp; done) | (simp; omega) | (simp [World.setCell]; done) | (simp [World.setCell]; omega))); rw [hsz] at D1; have g1 := D1.cell; have u1 := D1.free)))
    all_goals
      go_wp2
      go_meet
      case' rel => skip
      first
        | with_reducible exact ⟨rfl, _, rfl, Blk.new w1 _ _, D0.alloc _, lb1.alloc (by (first | exact Nat.le_refl _ | omega | (simp; done) | (simp; omega) | (simp [World.setCell]; done) | (simp [World.setCell]; omega))) _⟩
        | exact ⟨rfl, _, rfl, ((((D1.set 0 _ (by simp)).set 1 _ (by simp)).set 2 _ (by simp)).set 3 _ (by simp)).set 4 _ (by simp), ((((D0.other _ _ (by simp)).other _ _ (by simp)).other _ _ (by simp)).other _ _ (by simp)).other _ _ (by simp), ((((lb1.setCell (by simp) _).setCell (by simp) _).setCell (by simp) _).setCell (by simp) _).setCell (by simp) _⟩
  case rest =>
    obtain ⟨rfl, q, rfl, hq, hp, hlow⟩ := hcut
    clear e0 e1 e2 e3 e4 c0 B0 hbel hsz
    have cq := hq.cell
    have cp := hp.cell
    rcases hb1 : decide (o < 0) with _ | _
    case true =>
      have Hv : Hid (r = 2) := Lib.hid (by rw [← Hr.out]; simp only [chkM, hb1, Bool.or_true, Bool.true_or, Bool.not_true, Bool.not_false, Bool.false_or, Bool.or_false, if_true, if_false, reduceIte, Bool.false_eq_true])
      go_wp2
      exact bodyPost_ret (v := .int .i64 2) (by simp [results, Try.results25, go_sem]) rfl ⟨by rw [Hv.out], hlow⟩
    case false =>
    have Hb1 := Lib.hid hb1
    go_upto_region 6 with fail
    go_cut [21] (fun s21 wx => s21 = .bool (o != 0 && !op) ∧ wx = wc)
    case first =>
      rcases hc2 : (o != 0) with _ | _
      all_goals
        have Hc := Lib.hid hc2
        go_wp2
        go_meet
        exact ⟨by simp only [Hc.out, Bool.false_and, Bool.true_and, Bool.false_or, Bool.true_or, Bool.not_true, Bool.not_false], rfl⟩
    case rest =>
    obtain ⟨rfl, rfl⟩ := hcut
    rcases hb2 : (o != 0 && !op) with _ | _
    case true =>
      have Hv : Hid (r = 2) := Lib.hid (by rw [← Hr.out]; simp only [chkM, Hb1.out, hb2, Bool.or_true, Bool.true_or, Bool.not_true, Bool.not_false, Bool.false_or, Bool.or_false, if_true, if_false, reduceIte, Bool.false_eq_true])
      go_wp2
      exact bodyPost_ret (v := .int .i64 2) (by simp [results, Try.results25, go_sem]) rfl ⟨by rw [Hv.out], hlow⟩
    case false =>
    have Hb2 := Lib.hid hb2
    go_upto_region 7 with fail
    go_cut [21] (fun s21 wx => s21 = .bool (n != 0 && !tx) ∧ wx = wc)
    case first =>
      rcases hc3 : (n != 0) with _ | _
      all_goals
        have Hc := Lib.hid hc3
        go_wp2
        go_meet
        exact ⟨by simp only [Hc.out, Bool.false_and, Bool.true_and, Bool.false_or, Bool.true_or, Bool.not_true, Bool.not_false], rfl⟩
    case rest =>
    obtain ⟨rfl, rfl⟩ := hcut
    rcases hb3 : (n != 0 && !tx) with _ | _
    case true =>
      have Hv : Hid (r = 2) := Lib.hid (by rw [← Hr.out]; simp only [chkM, Hb1.out, Hb2.out, hb3, Bool.or_true, Bool.true_or, Bool.not_true, Bool.not_false, Bool.false_or, Bool.or_false, if_true, if_false, reduceIte, Bool.false_eq_true])
      go_wp2
      exact bodyPost_ret (v := .int .i64 2) (by simp [results, Try.results25, go_sem]) rfl ⟨by rw [Hv.out], hlow⟩
    case false =>
    have Hb3 := Lib.hid hb3
    go_upto_region 8 with fail
    go_cut [21] (fun s21 wx => s21 = .bool (decide (n < 0) || decide (1 < n)) ∧ wx = wc)
    case first =>
      rcases hc4 : decide (n < 0) with _ | _
      all_goals
        have Hc := Lib.hid hc4
        go_wp2
        go_meet
        exact ⟨by simp only [Hc.out, Bool.false_and, Bool.true_and, Bool.false_or, Bool.true_or, Bool.not_true, Bool.not_false], rfl⟩
    case rest =>
    obtain ⟨rfl, rfl⟩ := hcut
    rcases hb4 : (decide (n < 0) || decide (1 < n)) with _ | _
    case true =>
      have Hv : Hid (r = 2) := Lib.hid (by rw [← Hr.out]; simp only [chkM, Hb1.out, Hb2.out, Hb3.out, hb4, Bool.or_true, Bool.true_or, Bool.not_true, Bool.not_false, Bool.false_or, Bool.or_false, if_true, if_false, reduceIte, Bool.false_eq_true])
      go_wp2
      exact bodyPost_ret (v := .int .i64 2) (by simp [results, Try.results25, go_sem]) rfl ⟨by rw [Hv.out], hlow⟩
    case false =>
    have Hb4 := Lib.hid hb4
    go_upto_region 9 with fail
    go_cut [21] (fun s21 wx => s21 = .bool (!s.toList.isEmpty && !tx) ∧ wx = wc)
    case first =>
      rcases hc5 : s.toList with _ | ⟨x, xs⟩
      all_goals
        have Hc := Lib.hid hc5
        go_wp2
        go_meet
        exact ⟨by simp only [Hc.out, List.isEmpty_nil, List.isEmpty_cons, Bool.false_and, Bool.true_and, Bool.not_true, Bool.not_false], rfl⟩
    case rest =>
    obtain ⟨rfl, rfl⟩ := hcut
    rcases hb5 : (!s.toList.isEmpty && !tx) with _ | _
    case true =>
      have Hv : Hid (r = 2) := Lib.hid (by rw [← Hr.out]; simp only [chkM, Hb1.out, Hb2.out, Hb3.out, Hb4.out, hb5, Bool.or_true, Bool.true_or, Bool.not_true, Bool.not_false, Bool.false_or, Bool.or_false, if_true, if_false, reduceIte, Bool.false_eq_true])
      go_wp2
      exact bodyPost_ret (v := .int .i64 2) (by simp [results, Try.results25, go_sem]) rfl ⟨by rw [Hv.out], hlow⟩
    case false =>
    have Hb5 := Lib.hid hb5
    go_upto_region 10 with fail
    go_cut [21] (fun s21 wx => s21 = .bool (decide (0 < l2) && !dn) ∧ wx = wc)
    case first =>
      rcases hc6 : decide (0 < l2) with _ | _
      all_goals
        have Hc := Lib.hid hc6
        go_wp2
        go_meet
        exact ⟨by simp only [Hc.out, Bool.false_and, Bool.true_and, Bool.false_or, Bool.true_or, Bool.not_true, Bool.not_false], rfl⟩
    case rest =>
    obtain ⟨rfl, rfl⟩ := hcut
    rcases hb6 : (decide (0 < l2) && !dn) with _ | _
    case true =>
      have Hv : Hid (r = 2) := Lib.hid (by rw [← Hr.out]; simp only [chkM, Hb1.out, Hb2.out, Hb3.out, Hb4.out, Hb5.out, hb6, Bool.or_true, Bool.true_or, Bool.not_true, Bool.not_false, Bool.false_or, Bool.or_false, if_true, if_false, reduceIte, Bool.false_eq_true])
      go_wp2
      exact bodyPost_ret (v := .int .i64 2) (by simp [results, Try.results25, go_sem]) rfl ⟨by rw [Hv.out], hlow⟩
    case false =>
    have Hb6 := Lib.hid hb6
    rcases hb7 : decide ((l1 : Int) < l) with _ | _
    case true =>
      have Hv : Hid (r = 2) := Lib.hid (by rw [← Hr.out]; simp only [chkM, Hb1.out, Hb2.out, Hb3.out, Hb4.out, Hb5.out, Hb6.out, hb7, Bool.or_true, Bool.true_or, Bool.not_true, Bool.not_false, Bool.false_or, Bool.or_false, if_true, if_false, reduceIte, Bool.false_eq_true])
      go_wp2
      exact bodyPost_ret (v := .int .i64 2) (by simp [results, Try.results25, go_sem]) rfl ⟨by rw [Hv.out], hlow⟩
    case false =>
    have Hb7 := Lib.hid hb7
    go_upto_region 13 with fail
    go_cut [66] (fun s66 wx => s66 = .bool (decide (0 ≤ m) && decide (m < (l1 : Int))) ∧ wx = wc)
    case first =>
      rcases hc8 : decide (0 ≤ m) with _ | _
      all_goals
        have Hc := Lib.hid hc8
        go_wp2
        go_meet
        exact ⟨by simp only [Hc.out, Bool.false_and, Bool.true_and, Bool.false_or, Bool.true_or, Bool.not_true, Bool.not_false], rfl⟩
    case rest =>
    obtain ⟨rfl, rfl⟩ := hcut
    rcases hb8 : (decide (0 ≤ m) && decide (m < (l1 : Int))) with _ | _
    case true =>
      have Hv : Hid (r = 2) := Lib.hid (by rw [← Hr.out]; simp only [chkM, Hb1.out, Hb2.out, Hb3.out, Hb4.out, Hb5.out, Hb6.out, Hb7.out, hb8, Bool.or_true, Bool.true_or, Bool.not_true, Bool.not_false, Bool.false_or, Bool.or_false, if_true, if_false, reduceIte, Bool.false_eq_true])
      go_wp2
      exact bodyPost_ret (v := .int .i64 2) (by simp [results, Try.results25, go_sem]) rfl ⟨by rw [Hv.out], hlow⟩
    case false =>
    have Hb8 := Lib.hid hb8
    go_upto_region 14 with fail
    go_cut [66] (fun s66 wx => s66 = .bool (tx && ((l1 : Int) != n)) ∧ wx = wc)
    case first =>
      rcases tx with _ | _
      all_goals
        go_wp2
        go_meet
        exact ⟨by simp only [Bool.false_and, Bool.true_and], rfl⟩
    case rest =>
    obtain ⟨rfl, rfl⟩ := hcut
    rcases hb9 : (tx && ((l1 : Int) != n)) with _ | _
    case true =>
      have Hv : Hid (r = 2) := Lib.hid (by rw [← Hr.out]; simp only [chkM, Hb1.out, Hb2.out, Hb3.out, Hb4.out, Hb5.out, Hb6.out, Hb7.out, Hb8.out, hb9, Bool.or_true, Bool.true_or, Bool.not_true, Bool.not_false, Bool.false_or, Bool.or_false, if_true, if_false, reduceIte, Bool.false_eq_true])
      go_wp2
      exact bodyPost_ret (v := .int .i64 2) (by simp [results, Try.results25, go_sem]) rfl ⟨by rw [Hv.out], hlow⟩
    case false =>
    have Hb9 := Lib.hid hb9
    have Hv : Hid (r = 0) := Lib.hid (by rw [← Hr.out]; simp only [chkM, Hb1.out, Hb2.out, Hb3.out, Hb4.out, Hb5.out, Hb6.out, Hb7.out, Hb8.out, Hb9.out, Bool.not_false, Bool.or_false, if_true, reduceIte])
    go_wp2
    exact bodyPost_ret (v := .int .i64 0) (by simp [results, Try.results25, go_sem]) rfl ⟨by rw [Hv.out], hlow⟩

set_option maxHeartbeats 2000000 in
theorem check_any (k o n : Int) (s : ByteArray) (a1 a2 : Option Addr) (l1 l2 c1 c2 : Nat) (w : World) :
    Calls Try.prog 25 #[.agg #[.int .i64 k, .int .i64 o, .int .i64 n, .string s, .slice a1 l1 c1, .slice a2 l2 c2]] w fun e w' => e = .returned (.int .i64 (if chkK k o n s l1 l2 then 0 else 2)) ∧ Below w.heap.size w w' := by
  by_cases hk : 1 ≤ k ∧ k ≤ 11
  · obtain ⟨k', rfl⟩ : ∃ m : Nat, k = m := ⟨k.toNat, by omega⟩
    refine (check_mid k' (mayOf k').1 (mayOf k').2.1 o n (mayOf k').2.2.1 (mayOf k').2.2.2.1 (mayOf k').2.2.2.2 s a1 a2 l1 l2 c1 c2 w (by omega) rfl).mono ?_
    rintro e w' ⟨rfl, hl⟩
    refine ⟨?_, hl⟩
    have : chkK (k' : Int) o n s l1 l2 = chkM (mayOf k') o n s l1 l2 := by
      unfold chkK
      rw [decide_eq_true hk.1, decide_eq_true hk.2]
      simp
    rw [this]
  · have hr : chkK k o n s l1 l2 = false := by
      unfold chkK
      by_cases h : 1 ≤ k
      · have h' : ¬ k ≤ 11 := fun h2 => hk ⟨h, h2⟩
        rw [decide_eq_false h']; simp
      · rw [decide_eq_false h]; simp
    rw [hr]
    clear hr
    by_cases h : k < 1
    · clear hk
      have h1 : decide (k < 1) = true := by simp; omega
      go_enter Try.func25, Try.ntmps25
      go_wp2
      exact bodyPost_ret (v := .int .i64 2) (by simp [results, Try.results25, go_sem]) rfl ⟨rfl, by ((repeat (first | exact Below.refl _ _ | (refine Below.alloc ?_ (by first | (simp [World.setCell]; done) | (simp [World.setCell]; omega)) _) | (refine Below.setCell ?_ (by first | (simp [World.setCell]; done) | (simp [World.setCell]; omega)) _) | refine Below.drew ?_)))⟩
    · have h1 : decide (k < 1) = false := by simp; omega
      have h2 : decide (11 < k) = true := by simp; omega
      clear hk
      go_enter Try.func25, Try.ntmps25
      go_wp2
      exact bodyPost_ret (v := .int .i64 2) (by simp [results, Try.results25, go_sem]) rfl ⟨rfl, by ((repeat (first | exact Below.refl _ _ | (refine Below.alloc ?_ (by first | (simp [World.setCell]; done) | (simp [World.setCell]; omega)) _) | (refine Below.setCell ?_ (by first | (simp [World.setCell]; done) | (simp [World.setCell]; omega)) _) | refine Below.drew ?_)))⟩

end Go.Proofs.Ytmnadlgglmhfhaa
