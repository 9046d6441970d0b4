/- Layout: take. Layout: place and implied. Layout: next: what it needs. -/
import Derived.Test.YtnidkdjapieinaaDoorLyE
namespace Go.Proofs.YtnidkdjapieinaaDoor
open Go.RowKit Go.Shelf
set_option linter.unusedSimpArgs false
set_option linter.unusedVariables false

theorem cells_form (x : It) : ∃ (k n tk nn a l c : Int) (u : ByteArray) (f : Bool), x.cells = [.int .i64 k, .int .i64 n, .int .i64 tk, .string u, .int .i64 nn, .int .i64 a, .int .i64 l, .int .i64 c, .bool f] := by
  cases x with
  | tok t => exact ⟨0, 0, _, _, _, _, _, _, _, rfl⟩
  | line n => exact ⟨1, n, _, _, _, _, _, _, _, rfl⟩
  | opn n => exact ⟨2, n, _, _, _, _, _, _, _, rfl⟩
  | cls => exact ⟨3, 0, _, _, _, _, _, _, _, rfl⟩
/-- The k-th item in memory. -/
theorem rd_at {W : World} {S : Nat → Prop} {n cap : Nat} {a : Option Addr} {l : List It} (h : IRd W S (.slice a n cap) l) (k : Nat) (x : It) (hk : l[k]? = some x) :
    ∃ b o, a = some ⟨b, o, none⟩ ∧ n = l.length ∧ n ≤ cap ∧ b < W.heap.size ∧ ¬ S b ∧ ∀ j c, x.cells[j]? = some c → W.cell? ⟨b, o + k * 9 + j, none⟩ = some c := by
  rcases h with ⟨h4, h4b⟩ | ⟨b, o, cap', g0, g1, g2, g3, g4⟩
  · simp at h4b
    subst h4b
    simp at hk
  · simp at g0 g1
    obtain ⟨rfl, rfl, rfl⟩ := g0
    exact ⟨b, o, rfl, rfl, g1, g2, g3, fun j c hc => g4 k x.cells (by rw [List.getElem?_map, hk]; rfl) j c hc⟩
theorem bel2 {W A : World} {o : Obj} (h : Below W.heap.size W A) : Below W.heap.size W (A.alloc o) := h.alloc h.size _

set_option maxRecDepth 100000 in
set_option maxHeartbeats 8000000 in
theorem take_ahead {W : World} {S : Nat → Prop} {tb e : Nat} {x : It} {as_ is_ : List It} {bs : List Nat} {va vi vb : Value} {at_ : Nat} (hB : Blk W tb #[va, vi, .int .i64 at_, vb, .int .i64 e, .bool true]) (h2 : IRd W S va (x :: as_).reverse) (hl : as_.length ≤ 1000000) (hmem : S tb) :
    Calls Tryd.prog 67 #[.pointer (some ⟨tb, 0, none⟩)] W fun ex w' => ex = .returned (.tuple #[.agg x.cells.toArray, .bool true]) ∧ OffB tb W w' ∧ ∃ va', Blk w' tb #[va', vi, .int .i64 at_, vb, .int .i64 e, .bool true] ∧ IRd w' S va' as_.reverse := by
  obtain ⟨a, cap, hv⟩ := h2.shape
  simp only [List.length_map, List.length_reverse, List.length_cons] at hv
  subst hv
  obtain ⟨b, o, rfl, hn, hcap, hb, hbt, hc⟩ := rd_at h2 as_.length x (by rw [List.reverse_cons, List.getElem?_append_right (by simp)]; simp)
  have hr : IRd W S (.slice (some ⟨b, o, none⟩) as_.length cap) as_.reverse := by
    have h := h2
    unfold IRd at h
    rw [List.reverse_cons, List.map_append] at h
    exact h.pop
  obtain ⟨k, n, tk, nn, aa, l, c, u, f, hx⟩ := cells_form x
  rw [hx] at hc ⊢
  obtain ⟨N, hN⟩ : ∃ N, as_.length = N := ⟨_, rfl⟩
  rw [hN] at hB hc hcap hl hr
  have d0 := hc 0 _ rfl
  have d1 := hc 1 _ rfl
  have d2 := hc 2 _ rfl
  have d3 := hc 3 _ rfl
  have d4 := hc 4 _ rfl
  have d5 := hc 5 _ rfl
  have d6 := hc 6 _ rfl
  have d7 := hc 7 _ rfl
  have d8 := hc 8 _ rfl
  simp only [Nat.add_zero] at d0
  have c0 := hB.cell 0
  have f0 := hB.free 0
  have hlt := hB.lt
  simp only [List.getElem?_toArray, List.getElem?_cons_zero, List.getElem?_cons_succ] at c0
  have z1 : ((N + 1 : Nat) : Int) - 1 = N := by omega
  have z3 : (N : Int) + 1 - 1 = N := by omega
  have z4 : IntKind.i64.wrap (N : Int) = N := IntWalk.i64_in _ (by omega)
  have z5 : decide ((0 : Int) < (N : Int) + 1) = true := decide_eq_true (by omega)
  have HB := Lib.hid hB
  have HR := Lib.hid hr
  clear h2 hB hr hn hc hx hN
  go_enter Tryd.func67, Tryd.ntmps67
  go_wp2
  have hO := (((OffB.refl tb W).set 0 (.slice (some ⟨b, o, none⟩) N cap)).alloc (.cells #[.int .i64 k, .int .i64 n, .int .i64 tk, .string u, .int .i64 nn, .int .i64 aa, .int .i64 l, .int .i64 c, .bool f] 68)).alloc (.cells #[.int .i64 k, .int .i64 n, .int .i64 tk, .string u, .int .i64 nn, .int .i64 aa, .int .i64 l, .int .i64 c, .bool f] 68)
  have hB' := (((HB.out.set 0 (.slice (some ⟨b, o, none⟩) N cap) (by simp)).alloc (.cells #[.int .i64 k, .int .i64 n, .int .i64 tk, .string u, .int .i64 nn, .int .i64 aa, .int .i64 l, .int .i64 c, .bool f] 68)).alloc (.cells #[.int .i64 k, .int .i64 n, .int .i64 tk, .string u, .int .i64 nn, .int .i64 aa, .int .i64 l, .int .i64 c, .bool f] 68))
  refine bodyPost_ret (v := .tuple #[.agg #[.int .i64 k, .int .i64 n, .int .i64 tk, .string u, .int .i64 nn, .int .i64 aa, .int .i64 l, .int .i64 c, .bool f], .bool true]) (by simp [results, Tryd.results67, go_sem]) rfl ?_
  exact ⟨rfl, hO, _, hB', HR.out.off hO⟩

set_option maxRecDepth 100000 in
set_option maxHeartbeats 8000000 in
theorem take_none {W : World} {S : Nat → Prop} {tb e : Nat} {is_ : List It} {ca at_ : Nat} {pa : Option Addr} {vi vb : Value} (hB : Blk W tb #[.slice pa 0 ca, vi, .int .i64 at_, vb, .int .i64 e, .bool true]) (h3 : IRd W S vi is_) (hat : at_ = is_.length) :
    Calls Tryd.prog 67 #[.pointer (some ⟨tb, 0, none⟩)] W fun ex w' => ex = .returned (.tuple #[.agg #[.int .i64 0, .int .i64 0, .int .i64 0, .string ⟨#[]⟩, .int .i64 0, .int .i64 0, .int .i64 0, .int .i64 0, .bool false], .bool false]) ∧ Below W.heap.size W w' := by
  obtain ⟨a, cap, hv⟩ := h3.shape
  simp only [List.length_map] at hv
  rw [← hat] at hv
  subst hv
  have c0 := hB.cell 0
  have c1 := hB.cell 1
  have c2 := hB.cell 2
  have hlt := hB.lt
  have hbl : (Below.refl W.heap.size W).trans (Below.refl W.heap.size W) = (Below.refl W.heap.size W) := rfl
  simp only [List.getElem?_toArray, List.getElem?_cons_zero, List.getElem?_cons_succ] at c0 c1 c2
  clear hB h3 hat hbl
  go_enter Tryd.func67, Tryd.ntmps67
  go_wp2
  go_region
  go_wp2
  refine bodyPost_ret (v := .tuple #[.agg #[.int .i64 0, .int .i64 0, .int .i64 0, .string ⟨#[]⟩, .int .i64 0, .int .i64 0, .int .i64 0, .int .i64 0, .bool false], .bool false]) (by simp [results, Tryd.results67, go_sem]) rfl ?_
  exact ⟨rfl, by ((repeat (first | exact Below.refl _ _ | (refine Below.alloc ?_ (by first | (simp [World.setCell]; done) | (simp [World.setCell]; omega)) _) | (refine Below.setCell ?_ (by first | (simp [World.setCell]; done) | (simp [World.setCell]; omega)) _) | refine Below.drew ?_ | (refine Below.trans ?_ ((below_drewN _ _).mono (by first | (simp [World.setCell]; done) | (simp [World.setCell]; omega)))))))⟩

set_option maxRecDepth 100000 in
set_option maxHeartbeats 8000000 in
theorem take_item {W : World} {S : Nat → Prop} {tb e : Nat} {x : It} {is_ : List It} {ca at_ : Nat} {pa : Option Addr} {vi vb : Value} (hB : Blk W tb #[.slice pa 0 ca, vi, .int .i64 at_, vb, .int .i64 e, .bool true]) (h3 : IRd W S vi is_) (hat : is_[at_]? = some x) (hl : is_.length ≤ 1000000) (hmem : S tb) :
    Calls Tryd.prog 67 #[.pointer (some ⟨tb, 0, none⟩)] W fun ex w' => ex = .returned (.tuple #[.agg x.cells.toArray, .bool true]) ∧ OffB tb W w' ∧ Blk w' tb #[.slice pa 0 ca, vi, .int .i64 ((at_ + 1 : Nat) : Int), vb, .int .i64 e, .bool true] := by
  obtain ⟨a, cap, hv⟩ := h3.shape
  simp only [List.length_map] at hv
  subst hv
  have hai : at_ < is_.length := (List.getElem?_eq_some_iff.1 hat).1
  obtain ⟨b, o, rfl, hn, hcap, hb, hbt, hc⟩ := rd_at h3 at_ x hat
  obtain ⟨k, n, tk, nn, aa, l, c, u, f, hx⟩ := cells_form x
  rw [hx] at hc ⊢
  obtain ⟨N, hN⟩ : ∃ N, is_.length = N := ⟨_, rfl⟩
  rw [hN] at hcap hl hai
  have d0 := hc 0 _ rfl
  have d1 := hc 1 _ rfl
  have d2 := hc 2 _ rfl
  have d3 := hc 3 _ rfl
  have d4 := hc 4 _ rfl
  have d5 := hc 5 _ rfl
  have d6 := hc 6 _ rfl
  have d7 := hc 7 _ rfl
  have d8 := hc 8 _ rfl
  simp only [Nat.add_zero] at d0
  rw [hN] at hB
  have c0 := hB.cell 0
  have c1 := hB.cell 1
  have c2 := hB.cell 2
  have f2 := hB.free 2
  have hlt := hB.lt
  simp only [List.getElem?_toArray, List.getElem?_cons_zero, List.getElem?_cons_succ] at c0 c1 c2
  have z1 : ((at_ : Int) == (N : Int)) = false := by rw [beq_eq_false_iff_ne]; omega
  have z2 : (at_ == N) = false := by rw [beq_eq_false_iff_ne]; omega
  have z3 : (at_ : Int) + 1 - 1 = at_ := by omega
  have z4 : IntKind.i64.wrap (at_ : Int) = at_ := IntWalk.i64_in _ (by omega)
  have z5 : IntKind.i64.wrap ((at_ : Int) + 1) = (at_ : Int) + 1 := IntWalk.i64_in _ (by omega)
  have HB := Lib.hid hB
  have HN := Lib.hid hN
  have hbt : b ≠ tb := fun e => hbt (by rw [e]; exact hmem)
  have hbt' : ¬ tb = b := fun h => hbt h.symm
  have hbs : ¬ b = W.heap.size := by omega
  have hbs' : ¬ W.heap.size = b := by omega
  have hts : ¬ tb = W.heap.size := by omega
  have hts' : ¬ W.heap.size = tb := by omega
  clear h3 hB hn hc hx hN hat
  go_enter Tryd.func67, Tryd.ntmps67
  go_wp2
  go_region
  go_wp2
  go_region
  go_wp2
  have hO := (((((OffB.refl tb W).set 2 (.int .i64 ((at_ : Int) + 1))).alloc (.cells #[.int .i64 k, .int .i64 n, .int .i64 tk, .string u, .int .i64 nn, .int .i64 aa, .int .i64 l, .int .i64 c, .bool f] 68)).drew).drew)
  have hB' := ((((HB.out.set 2 (.int .i64 ((at_ : Int) + 1)) (by simp)).alloc (.cells #[.int .i64 k, .int .i64 n, .int .i64 tk, .string u, .int .i64 nn, .int .i64 aa, .int .i64 l, .int .i64 c, .bool f] 68)).drew).drew)
  refine bodyPost_ret (v := .tuple #[.agg #[.int .i64 k, .int .i64 n, .int .i64 tk, .string u, .int .i64 nn, .int .i64 aa, .int .i64 l, .int .i64 c, .bool f], .bool true]) (by simp [results, Tryd.results67, go_sem]) rfl ?_
  rw [HN.out]
  exact ⟨rfl, hO, hB'⟩

/-- What take answers. -/
theorem take_any {W : World} {S : Nat → Prop} {tb e : Nat} {x : It} {q : List It} {bs : List Nat} (h : St W S tb e (x :: q) bs) (hl : (x :: q).length ≤ 1000000) :
    Calls Tryd.prog 67 #[.pointer (some ⟨tb, 0, none⟩)] W fun ex w' => ex = .returned (.tuple #[.agg x.cells.toArray, .bool true]) ∧ St w' S tb e q bs ∧ OffB tb W w' := by
  obtain ⟨_, hB, va, vi, vb, as_, is_, at_, rfl, h2, h3, h4, h5, h5b, h6, h7, h8⟩ := h.ex
  have hmem := h.mem
  cases as_ with
  | cons y as_ =>
    simp only [List.cons_append, List.cons.injEq] at h8
    obtain ⟨rfl, h8⟩ := h8
    refine (take_ahead (is_ := is_) (bs := bs) hB h2 (by rw [h8] at hl; simp at hl; omega) hmem).mono ?_
    rintro ex w' ⟨rfl, hO, va', hB', hr⟩
    exact ⟨rfl, h.of hO.size ⟨_, hB', va', vi, vb, as_, is_, at_, rfl, hr, h3.off hO, h4.off hO, h5, h5b, h6, (fun z hz => h7 z (by simp [hz])), h8⟩, hO⟩
  | nil =>
    obtain ⟨a, c, hv⟩ := h2.shape
    simp only [List.reverse_nil, List.map_nil, List.length_nil] at hv
    subst hv
    simp only [List.nil_append] at h8
    have hat : is_[at_]? = some x := by
      have : (is_.drop at_)[0]? = some x := by rw [← h8]; rfl
      rw [List.getElem?_drop] at this
      simpa using this
    refine (take_item hB h3 hat h6 hmem).mono ?_
    rintro ex w' ⟨rfl, hO, hB'⟩
    have hlt : at_ < is_.length := (List.getElem?_eq_some_iff.1 hat).1
    refine ⟨rfl, h.of hO.size ⟨_, hB', .slice a 0 c, vi, vb, [], is_, at_ + 1, rfl, h2.off hO, h3.off hO, h4.off hO, hlt, h5b, h6, h7, ?_⟩, hO⟩
    rw [List.nil_append, ← List.drop_drop, ← h8]
    rfl
theorem take_end {W : World} {S : Nat → Prop} {tb e : Nat} {bs : List Nat} (h : St W S tb e [] bs) :
    Calls Tryd.prog 67 #[.pointer (some ⟨tb, 0, none⟩)] W fun ex w' => ex = .returned (.tuple #[.agg #[.int .i64 0, .int .i64 0, .int .i64 0, .string ⟨#[]⟩, .int .i64 0, .int .i64 0, .int .i64 0, .int .i64 0, .bool false], .bool false]) ∧ Below W.heap.size W w' := by
  obtain ⟨_, hB, va, vi, vb, as_, is_, at_, rfl, h2, h3, h4, h5, h5b, h6, h7, h8⟩ := h.ex
  have h9 := h8.symm
  rw [List.append_eq_nil_iff] at h9
  obtain ⟨rfl, h9⟩ := h9
  obtain ⟨a, c, hv⟩ := h2.shape
  simp only [List.reverse_nil, List.map_nil, List.length_nil] at hv
  subst hv
  exact take_none hB h3 (by have := List.drop_eq_nil_iff.1 h9; omega)
end Go.Proofs.YtnidkdjapieinaaDoor

namespace Go.Proofs.YtnidkdjapieinaaDoor
open Go.RowKit Go.Shelf
set_option linter.unusedSimpArgs false
set_option linter.unusedVariables false

theorem place_app (e : Nat) : ∀ (as_ q : List It), (∀ x ∈ as_, x.plain = true) → placeK e (as_ ++ q) = placeK e q
  | [], _, _ => rfl
  | x :: as_, q, h => by
    rw [List.cons_append, placeK_plain e x _ (h x (by simp))]
    exact place_app e as_ q fun y hy => h y (by simp [hy])
def It.kd : It → Int
  | .tok _ => 0
  | .line _ => 1
  | .opn _ => 2
  | .cls => 3
theorem cells_form2 (x : It) : ∃ (n tk nn a l c : Int) (u : ByteArray) (f : Bool), x.cells = [.int .i64 x.kd, .int .i64 n, .int .i64 tk, .string u, .int .i64 nn, .int .i64 a, .int .i64 l, .int .i64 c, .bool f] ∧ ((x.kd = 0 ∧ (x.kd == 0) = true ∧ ∀ e q, (placeK e (x :: q) : Int) = a) ∨ (x.kd ≠ 0 ∧ (x.kd == 0) = false ∧ x.plain = true)) := by
  cases x with
  | tok t => exact ⟨0, _, _, _, _, _, _, _, rfl, .inl ⟨rfl, rfl, fun e q => rfl⟩⟩
  | line n => exact ⟨n, _, _, _, _, _, _, _, rfl, .inr ⟨by simp [It.kd], rfl, rfl⟩⟩
  | opn n => exact ⟨n, _, _, _, _, _, _, _, rfl, .inr ⟨by simp [It.kd], rfl, rfl⟩⟩
  | cls => exact ⟨0, _, _, _, _, _, _, _, rfl, .inr ⟨by decide, rfl, rfl⟩⟩

set_option maxRecDepth 100000 in
set_option maxHeartbeats 8000000 in
theorem place_any {W : World} {S : Nat → Prop} {tb e : Nat} {q : List It} {bs : List Nat} (h : St W S tb e q bs) :
    Calls Tryd.prog 30 #[.pointer (some ⟨tb, 0, none⟩)] W fun ex w' => ex = .returned (.int .i64 (placeK e q)) ∧ Below W.heap.size W w' := by
  obtain ⟨_, hB, va, vi, vb, as_, is_, at_, rfl, h2, h3, h4, h5, h5b, h6, h7, h8⟩ := h.ex
  rw [h8, place_app e as_ _ h7]
  obtain ⟨a, cap, hv⟩ := h3.shape
  simp only [List.length_map] at hv
  subst hv
  obtain ⟨b, o, rfl, hn, hcap, hb, hbt, hc⟩ : ∃ b o, a = some ⟨b, o, none⟩ ∧ is_.length = is_.length ∧ is_.length ≤ cap ∧ b < W.heap.size ∧ ¬ S b ∧ ∀ k x, is_[k]? = some x → ∀ j c, x.cells[j]? = some c → W.cell? ⟨b, o + k * 9 + j, none⟩ = some c := by
    obtain ⟨b, o, rfl, hn, hcap, hb, hbt, _⟩ := rd_at h3 0 is_[0] (List.getElem?_eq_getElem h5b)
    refine ⟨b, o, rfl, hn, hcap, hb, hbt, fun k x hk j c hj => ?_⟩
    obtain ⟨b', o', e1, _, _, _, _, hc⟩ := rd_at h3 k x hk
    cases e1
    exact hc j c hj
  obtain ⟨N, hN⟩ : ∃ N, is_.length = N := ⟨_, rfl⟩
  rw [hN] at hB hcap h5 h6
  obtain ⟨M, hM⟩ : ∃ M, N - at_ = M := ⟨_, rfl⟩
  have c1 := hB.cell 1
  have c2 := hB.cell 2
  have c4 := hB.cell 4
  have hlt := hB.lt
  simp only [List.getElem?_toArray, List.getElem?_cons_zero, List.getElem?_cons_succ] at c1 c2 c4
  obtain ⟨P, hP⟩ : ∃ P, placeK e (is_.drop at_) = P := ⟨_, rfl⟩
  rw [hP]
  have HP := Lib.hid hP
  have HC := Lib.hid hc
  have HN := Lib.hid hN
  have HM := Lib.hid hM
  clear h hB h2 h3 h4 h7 h8 hn hc hP hN
  go_enter Tryd.func30, Tryd.ntmps30
  go_wp2
  go_cut [13, 14, 15] (fun s13 s14 s15 wx => (∃ o' c', s13 = .slice (some ⟨b, o', none⟩) M c' ∧ (0 < M → o' = o + at_ * 9)) ∧ s14 = .int .i64 M ∧ s15 = .int .i64 0 ∧ wx = W.drew)
  case first =>
    go_region
    all_goals go_wp2
    all_goals
      go_meet
      exact ⟨⟨_, _, rfl, fun h => by first | rfl | (exfalso; omega)⟩, rfl, rfl, rfl⟩
  case rest =>
    obtain ⟨⟨o', c', rfl, ho'⟩, rfl, rfl, rfl⟩ := hcut
    go_wp2
    go_loopw [15] (fun i wr => ∃ k : Nat, i = .int .i64 k ∧ k ≤ M ∧ Below W.heap.size W wr ∧ Hid (placeK e (is_.drop (at_ + k)) = P)) (fun i _ => M - (intOf i).toNat)
    case atStart => exact ⟨0, rfl, Nat.zero_le _, by ((repeat (first | exact Below.refl _ _ | (refine Below.alloc ?_ (by first | (simp [World.setCell]; done) | (simp [World.setCell]; omega)) _) | (refine Below.setCell ?_ (by first | (simp [World.setCell]; done) | (simp [World.setCell]; omega)) _) | refine Below.drew ?_ | (refine Below.trans ?_ ((below_drewN _ _).mono (by first | (simp [World.setCell]; done) | (simp [World.setCell]; omega))))))), Lib.hid HP.out⟩
    case round =>
      obtain ⟨k, rfl, hk, hBl, HK⟩ := hrel
      by_cases hlt2 : k < M
      · have e1 : decide ((k : Int) < (M : Int)) = true := by simp; omega
        have e2 : decide (k < M) = true := by simp; omega
        have hkt : at_ + k < is_.length := by have := HN.out; have := HM.out; omega
        obtain ⟨n, tk, nn, a, l, cc, u, f, hx, hcase⟩ := cells_form2 is_[at_ + k]
        have hc := HC.out (at_ + k) _ (List.getElem?_eq_getElem hkt)
        rw [hx] at hc
        have ho := ho' (by omega)
        have key : ∀ j c, [Value.int .i64 (is_[at_ + k]).kd, .int .i64 n, .int .i64 tk, .string u, .int .i64 nn, .int .i64 a, .int .i64 l, .int .i64 cc, .bool f][j]? = some c → wr.cell? ⟨b, o' + k * 9 + j, none⟩ = some c := fun j c hj => by
          have := (hBl.cell (p := ⟨b, o + (at_ + k) * 9 + j, none⟩) hb).trans (hc j c hj)
          rw [show o + (at_ + k) * 9 + j = o' + k * 9 + j by rw [ho, Nat.add_mul]; omega] at this
          exact this
        have d0 := key 0 _ rfl
        have d1 := key 1 _ rfl
        have d2 := key 2 _ rfl
        have d3 := key 3 _ rfl
        have d4 := key 4 _ rfl
        have d5 := key 5 _ rfl
        have d6 := key 6 _ rfl
        have d7 := key 7 _ rfl
        have d8 := key 8 _ rfl
        simp only [Nat.add_zero] at d0
        have hdrop : is_.drop (at_ + k) = is_[at_ + k] :: is_.drop (at_ + (k + 1)) := List.drop_eq_getElem_cons hkt
        have HK2 := HK.out
        rw [hdrop] at HK2
        generalize is_[at_ + k] = y at d0 hcase HK2
        rcases hcase with ⟨_, z0, hpl⟩ | ⟨_, z0, hpl⟩
        · have hR := Lib.hid (hpl e (is_.drop (at_ + (k + 1))))
          rw [HK2] at hR
          clear key hc hx hdrop hpl ho HK HK2
          go_wp2
          go_ret
          exact ⟨by rw [hR.out]; rfl, hBl.alloc hBl.size _⟩
        · rw [placeK_plain _ _ _ hpl] at HK2
          have HK3 := Lib.hid HK2
          clear key hc hx hdrop hpl ho HK HK2
          go_wp2
          go_roundw
          case rel => exact ⟨k + 1, by go_num, by omega, hBl.alloc hBl.size _, HK3⟩
          case measure => simp [intOf]; omega
      · have e1 : decide ((k : Int) < (M : Int)) = false := by simp; omega
        have e2 : decide (k < M) = false := by simp; omega
        have hP : e = P := by
          have h := HK.out
          rw [List.drop_eq_nil_of_le (by have := HN.out; have := HM.out; omega)] at h
          exact h
        have c4' := (hBl.cell (p := ⟨tb, 4, none⟩) hlt).trans c4
        go_wp2
        go_ret
        exact ⟨by rw [← hP]; rfl, hBl⟩

theorem set8 {W w1 : World} (h : Below W.heap.size W w1) (a b c d e f g i : Value) : Below W.heap.size W ((((((((w1.setCell ⟨W.heap.size, 0, none⟩ a).setCell ⟨W.heap.size, 1, none⟩ b).setCell ⟨W.heap.size, 2, none⟩ c).setCell ⟨W.heap.size, 3, none⟩ d).setCell ⟨W.heap.size, 4, none⟩ e).setCell ⟨W.heap.size, 5, none⟩ f).setCell ⟨W.heap.size, 6, none⟩ g).setCell ⟨W.heap.size, 7, none⟩ i) :=
  (((((((h.setCell (p := ⟨W.heap.size, 0, none⟩) (Nat.le_refl _) _).setCell (p := ⟨W.heap.size, 1, none⟩) (Nat.le_refl _) _).setCell (p := ⟨W.heap.size, 2, none⟩) (Nat.le_refl _) _).setCell (p := ⟨W.heap.size, 3, none⟩) (Nat.le_refl _) _).setCell (p := ⟨W.heap.size, 4, none⟩) (Nat.le_refl _) _).setCell (p := ⟨W.heap.size, 5, none⟩) (Nat.le_refl _) _).setCell (p := ⟨W.heap.size, 6, none⟩) (Nat.le_refl _) _).setCell (p := ⟨W.heap.size, 7, none⟩) (Nat.le_refl _) _
set_option maxRecDepth 100000 in
set_option maxHeartbeats 8000000 in
theorem implied_any {W : World} {S : Nat → Prop} {tb e : Nat} {q : List It} {bs : List Nat} (h : St W S tb e q bs) (c : UInt8) :
    Calls Tryd.prog 70 #[.pointer (some ⟨tb, 0, none⟩), .string ⟨#[c]⟩] W fun ex w' => ex = .returned (.agg ((tokC (impK c (placeK e q)).t).toArray ++ #[.bool true])) ∧ Below W.heap.size W w' := by
  have K := fun w => @place_any w S tb e q bs
  obtain ⟨P, hP⟩ : ∃ P, placeK e q = P := ⟨_, rfl⟩
  rw [hP] at K ⊢
  have H := Lib.hid h
  clear h hP
  go_enter Tryd.func70, Tryd.ntmps70
  have BX := Blk.new W #[.int .i64 0, .string ⟨#[]⟩, .int .i64 0, .int .i64 0, .int .i64 0, .int .i64 0, .bool false, .bool false] 99
  go_wp2_with (go_at_call 30; refine (K _ (St.below_ H.out ((Below.refl _ _).alloc (Nat.le_refl _) _))).mono ?_; rintro ex w1 ⟨rfl, b1⟩; have BY := BX.below b1 (by simp); have y0 := BY.cell 0; have y1 := BY.cell 1; have y2 := BY.cell 2; have y3 := BY.cell 3; have y4 := BY.cell 4; have y5 := BY.cell 5; have y6 := BY.cell 6; have y7 := BY.cell 7; have f0 := BY.free 0; have f1 := BY.free 1; have f2 := BY.free 2; have f3 := BY.free 3; have f4 := BY.free 4; have f5 := BY.free 5; have f6 := BY.free 6; have f7 := BY.free 7; simp only [List.getElem?_toArray, List.getElem?_cons_zero, List.getElem?_cons_succ] at y0 y1 y2 y3 y4 y5 y6 y7; have b2 := chain ((Below.refl W.heap.size W).alloc (Nat.le_refl _) _) b1; clear BX BY b1)
  refine bodyPost_ret (v := .agg #[.int .i64 8, .string ⟨#[c]⟩, .int .i64 0, .int .i64 P, .int .i64 0, .int .i64 0, .bool false, .bool true]) (by simp [results, Tryd.results70, go_sem, y0, y1, y2, y3, y4, y5, y6, y7]) rfl ?_
  refine ⟨rfl, ?_⟩
  exact set8 b2 _ _ _ _ _ _ _ _
end Go.Proofs.YtnidkdjapieinaaDoor

namespace Go.Proofs.YtnidkdjapieinaaDoor
open Go.RowKit Go.Shelf
set_option linter.unusedSimpArgs false
set_option linter.unusedVariables false

/-- How many items a stream still has. -/
def qlen (W : World) (tb : Nat) : Nat := match W.cell? ⟨tb, 0, none⟩, W.cell? ⟨tb, 1, none⟩, W.cell? ⟨tb, 2, none⟩ with
  | some (.slice _ n _), some (.slice _ m _), some (.int _ k) => n + (m - k.toNat)
  | _, _, _ => 0
theorem St.qlen {W : World} {S : Nat → Prop} {tb e : Nat} {q : List It} {bs : List Nat} (h : St W S tb e q bs) : qlen W tb = q.length := by
  obtain ⟨_, hB, va, vi, vb, as_, is_, at_, rfl, h2, h3, h4, h5, h5b, h6, h7, h8⟩ := h.ex
  obtain ⟨a, ca, rfl⟩ := h2.shape
  obtain ⟨b, cb, rfl⟩ := h3.shape
  have c0 := hB.cell 0
  have c1 := hB.cell 1
  have c2 := hB.cell 2
  simp only [List.getElem?_toArray, List.getElem?_cons_zero, List.getElem?_cons_succ] at c0 c1 c2
  unfold Go.Proofs.YtnidkdjapieinaaDoor.qlen
  rw [c0, c1, c2, h8]
  simp
theorem weigh_len (q : List It) (bs : List Nat) : q.length ≤ weightK q bs ∧ bs.length ≤ weightK q bs := by
  constructor
  · induction q with
    | nil => simp
    | cons x q ih =>
      simp only [weightK, List.map_cons, List.sum_cons, List.length_cons] at ih ⊢
      have : 1 ≤ x.weigh := by cases x <;> simp [It.weigh]
      omega
  · simp [weightK]
theorem St.alloc_ {W : World} {S : Nat → Prop} {tb e : Nat} {q : List It} {bs : List Nat} (h : St W S tb e q bs) (o : Obj) : St (W.alloc o) S tb e q bs := h.below_ ((Below.refl _ _).alloc (Nat.le_refl _) _)

/-- What take answers, by kinds. -/
theorem take_cls {W : World} {S : Nat → Prop} {tb e : Nat} {q : List It} {bs : List Nat} (h : St W S tb e (.cls :: q) bs) (hl : weightK (.cls :: q) bs ≤ 1000000) :
    Calls Tryd.prog 67 #[.pointer (some ⟨tb, 0, none⟩)] W fun ex w' => ex = .returned (.tuple #[.agg #[.int .i64 3, .int .i64 0, .int .i64 0, .string ⟨#[]⟩, .int .i64 0, .int .i64 0, .int .i64 0, .int .i64 0, .bool false], .bool true]) ∧ St w' S tb e q bs ∧ OffB tb W w' :=
  take_any h (Nat.le_trans (weigh_len _ _).1 hl)
theorem take_line {W : World} {S : Nat → Prop} {tb e : Nat} {n : Nat} {q : List It} {bs : List Nat} (h : St W S tb e (.line n :: q) bs) (hl : weightK (.line n :: q) bs ≤ 1000000) :
    Calls Tryd.prog 67 #[.pointer (some ⟨tb, 0, none⟩)] W fun ex w' => ex = .returned (.tuple #[.agg #[.int .i64 1, .int .i64 n, .int .i64 0, .string ⟨#[]⟩, .int .i64 0, .int .i64 0, .int .i64 0, .int .i64 0, .bool false], .bool true]) ∧ St w' S tb e q bs ∧ OffB tb W w' :=
  take_any h (Nat.le_trans (weigh_len _ _).1 hl)
theorem take_opn {W : World} {S : Nat → Prop} {tb e : Nat} {n : Nat} {q : List It} {bs : List Nat} (h : St W S tb e (.opn n :: q) bs) (hl : weightK (.opn n :: q) bs ≤ 1000000) :
    Calls Tryd.prog 67 #[.pointer (some ⟨tb, 0, none⟩)] W fun ex w' => ex = .returned (.tuple #[.agg #[.int .i64 2, .int .i64 n, .int .i64 0, .string ⟨#[]⟩, .int .i64 0, .int .i64 0, .int .i64 0, .int .i64 0, .bool false], .bool true]) ∧ St w' S tb e q bs ∧ OffB tb W w' :=
  take_any h (Nat.le_trans (weigh_len _ _).1 hl)
theorem take_tok {W : World} {S : Nat → Prop} {tb e : Nat} {t : Tp} {q : List It} {bs : List Nat} (h : St W S tb e (.tok t :: q) bs) (hl : weightK (.tok t :: q) bs ≤ 1000000) :
    Calls Tryd.prog 67 #[.pointer (some ⟨tb, 0, none⟩)] W fun ex w' => ex = .returned (.tuple #[.agg #[.int .i64 0, .int .i64 0, .int .i64 t.t.kind, .string ⟨t.t.text.toArray⟩, .int .i64 t.t.num, .int .i64 t.at_, .int .i64 t.line, .int .i64 t.col, .bool t.first], .bool true]) ∧ St w' S tb e q bs ∧ OffB tb W w' :=
  take_any h (Nat.le_trans (weigh_len _ _).1 hl)
end Go.Proofs.YtnidkdjapieinaaDoor
