/- Layout: the stream's lists in memory, read; what a call changes. Layout: the small functions. Layout: push, pop, put. Layout: put. -/
import Derived.Test.YtnidkdjapieinaaDoorLxV
import Derived.Test.YtnidkdjapieinaaDoorLyA
import Derived.ArgAppend
import Derived.Test.YtnidkdjapieinaaDoorLxJ
import Derived.BigQuiet
import Derived.Deep.RegionLawGrows
import Derived.BigRegion
import Derived.Deep.DeepCutAuto
namespace Go.Proofs.YtnidkdjapieinaaDoor
open Go.RowKit Go.Shelf
set_option linter.unusedSimpArgs false

/-- All that stood there stands as it stood, but for block b. -/
structure OffB (b : Nat) (W W' : World) : Prop where
  os : W'.os = W.os
  tape : W'.tape = W.tape
  output : W'.output = W.output
  size : W.heap.size ≤ W'.heap.size
  block : ∀ k, k < W.heap.size → k ≠ b → W'.heap[k]? = W.heap[k]?
theorem OffB.of_below {b : Nat} {W W' : World} (h : Below W.heap.size W W') : OffB b W W' := ⟨h.os, h.tape, h.output, h.size, fun k hk _ => h.block k hk⟩
theorem OffB.refl (b : Nat) (W : World) : OffB b W W := ⟨rfl, rfl, rfl, Nat.le_refl _, fun _ _ _ => rfl⟩
theorem OffB.trans {b : Nat} {A B C : World} (h : OffB b A B) (k : OffB b B C) : OffB b A C :=
  ⟨k.os.trans h.os, k.tape.trans h.tape, k.output.trans h.output, Nat.le_trans h.size k.size, fun i hi hn => (k.block i (Nat.lt_of_lt_of_le hi h.size) hn).trans (h.block i hi hn)⟩
theorem OffB.below {b B : Nat} {W W' : World} (h : OffB b W W') (hB : B ≤ W.heap.size) (hb : B ≤ b) : Below B W W' :=
  ⟨h.os, h.tape, h.output, h.size, fun k hk => h.block k (by omega) (by omega)⟩
theorem OffB.only {b : Nat} {W W' : World} (h : Only b W W') : OffB b W W' := ⟨h.os, h.tape, h.output, Nat.le_of_eq h.size.symm, fun k _ hn => h.block k hn⟩
theorem OffB.set {b : Nat} {A B : World} (h : OffB b A B) (i : Nat) (v : Value) : OffB b A (B.setCell ⟨b, i, none⟩ v) := h.trans (OffB.only ((Only.refl b B).set i v))
theorem OffB.alloc {b : Nat} {A B : World} (h : OffB b A B) (o : Obj) : OffB b A (B.alloc o) := h.trans (OffB.of_below ((Below.refl _ _).alloc (Nat.le_refl _) _))
theorem OffB.drew {b : Nat} {A B : World} (h : OffB b A B) : OffB b A B.drew := ⟨h.os, h.tape, h.output, h.size, h.block⟩

/-- A slice that reads as these elements, size cells each, in no block of S. -/
def RdC (W : World) (S : Nat → Prop) (size : Nat) (v : Value) (xs : List (List Value)) : Prop :=
  (v = .slice none 0 0 ∧ xs = []) ∨ ∃ b o cap, v = .slice (some ⟨b, o, none⟩) xs.length cap ∧ xs.length ≤ cap ∧ b < W.heap.size ∧ ¬ S b ∧ ∀ k x, xs[k]? = some x → ∀ j c, x[j]? = some c → W.cell? ⟨b, o + k * size + j, none⟩ = some c
theorem RdC.below {W W' : World} {S : Nat → Prop} {size : Nat} {v : Value} {xs : List (List Value)} (h : RdC W S size v xs) (hb : Below W.heap.size W W') : RdC W' S size v xs := by
  rcases h with h | ⟨b, o, cap, h1, h2, h3, h5, h4⟩
  · exact .inl h
  · exact .inr ⟨b, o, cap, h1, h2, Nat.lt_of_lt_of_le h3 hb.size, h5, fun k x hx j c hj => (hb.cell (p := ⟨b, o + k * size + j, none⟩) h3).trans (h4 k x hx j c hj)⟩
theorem RdC.off {W W' : World} {S : Nat → Prop} {tb size : Nat} {v : Value} {xs : List (List Value)} (h : RdC W S size v xs) (hb : OffB tb W W') (hs : S tb := by assumption) : RdC W' S size v xs := by
  rcases h with h | ⟨b, o, cap, h1, h2, h3, h5, h4⟩
  · exact .inl h
  · exact .inr ⟨b, o, cap, h1, h2, Nat.lt_of_lt_of_le h3 hb.size, h5, fun k x hx j c hj => (World.cell?_of_block (a := ⟨b, o + k * size + j, none⟩) (hb.block b h3 (fun e => h5 (by rw [e]; exact hs)))).trans (h4 k x hx j c hj)⟩
theorem RdC.shape {W : World} {S : Nat → Prop} {size : Nat} {v : Value} {xs : List (List Value)} (h : RdC W S size v xs) : ∃ a c, v = .slice a xs.length c := by
  rcases h with ⟨rfl, rfl⟩ | ⟨b, o, cap, rfl, _⟩
  · exact ⟨none, 0, rfl⟩
  · exact ⟨_, _, rfl⟩
/-- The last one is taken off. -/
theorem RdC.pop {W : World} {S : Nat → Prop} {size : Nat} {a : Option Addr} {n cap : Nat} {xs : List (List Value)} {x : List Value} (h : RdC W S size (.slice a (n + 1) cap) (xs ++ [x])) : RdC W S size (.slice a n cap) xs := by
  rcases h with ⟨h1, h2⟩ | ⟨b, o, cap', h1, h2, h3, h5, h4⟩
  · simp at h1
  · simp at h1 h2
    obtain ⟨rfl, rfl, rfl⟩ := h1
    exact .inr ⟨b, o, cap, rfl, by omega, h3, h5, fun k y hy => h4 k y (by rw [List.getElem?_append_left (List.getElem?_eq_some_iff.1 hy).1]; exact hy)⟩
/-- Other blocks to stay away from. -/
theorem RdC.other {W : World} {S S' : Nat → Prop} {size : Nat} {v : Value} {xs : List (List Value)} (h : RdC W S size v xs) (ht : ∀ b, b < W.heap.size → S' b → S b) : RdC W S' size v xs := by
  rcases h with h | ⟨b, o, cap, h1, h2, h3, h5, h4⟩
  · exact .inl h
  · exact .inr ⟨b, o, cap, h1, h2, h3, fun e => h5 (ht b h3 e), h4⟩

/-- Items, in cells. -/
def tokC (x : Tp) : List Value := [.int .i64 x.t.kind, .string ⟨x.t.text.toArray⟩, .int .i64 x.t.num, .int .i64 x.at_, .int .i64 x.line, .int .i64 x.col, .bool x.first]
def noTok : List Value := [.int .i64 0, .string ⟨#[]⟩, .int .i64 0, .int .i64 0, .int .i64 0, .int .i64 0, .bool false]
def It.cells : It → List Value
  | .tok t => [.int .i64 0, .int .i64 0] ++ tokC t
  | .line n => [.int .i64 1, .int .i64 n] ++ noTok
  | .opn n => [.int .i64 2, .int .i64 n] ++ noTok
  | .cls => [.int .i64 3, .int .i64 0] ++ noTok
abbrev IRd (W : World) (S : Nat → Prop) (v : Value) (xs : List It) : Prop := RdC W S 9 v (xs.map It.cells)
abbrev NRd (W : World) (S : Nat → Prop) (v : Value) (bs : List Nat) : Prop := RdC W S 1 v (bs.map fun (n : Nat) => [Value.int .i64 (n : Int)])

/-- A stream's six cells: what stands ahead (the next one last), the items from 'at' on, the blocks (the innermost last). -/
def StC (W : World) (S : Nat → Prop) (c : List Value) (e : Nat) (q : List It) (bs : List Nat) : Prop :=
  ∃ (va vi vb : Value) (as_ is_ : List It) (at_ : Nat), c = [va, vi, .int .i64 at_, vb, .int .i64 e, .bool true] ∧ IRd W S va as_.reverse ∧ IRd W S vi is_ ∧ NRd W S vb bs.reverse ∧ at_ ≤ is_.length ∧ 0 < is_.length ∧ is_.length ≤ 1000000 ∧ (∀ x ∈ as_, x.plain = true) ∧ q = as_ ++ is_.drop at_
theorem StC.off {W W' : World} {S : Nat → Prop} {tb e : Nat} {c : List Value} {q : List It} {bs : List Nat} (h : StC W S c e q bs) (hb : OffB tb W W') (hs : S tb := by assumption) : StC W' S c e q bs := by
  obtain ⟨va, vi, vb, as_, is_, at_, h1, h2, h3, h4, r⟩ := h
  exact ⟨va, vi, vb, as_, is_, at_, h1, h2.off hb, h3.off hb, h4.off hb, r⟩
theorem StC.below {W W' : World} {S : Nat → Prop} {e : Nat} {c : List Value} {q : List It} {bs : List Nat} (h : StC W S c e q bs) (hb : Below W.heap.size W W') : StC W' S c e q bs := by
  obtain ⟨va, vi, vb, as_, is_, at_, h1, h2, h3, h4, r⟩ := h
  exact ⟨va, vi, vb, as_, is_, at_, h1, h2.below hb, h3.below hb, h4.below hb, r⟩
theorem StC.other {W : World} {S S' : Nat → Prop} {e : Nat} {c : List Value} {q : List It} {bs : List Nat} (h : StC W S c e q bs) (ht : ∀ b, b < W.heap.size → S' b → S b) : StC W S' c e q bs := by
  obtain ⟨va, vi, vb, as_, is_, at_, h1, h2, h3, h4, r⟩ := h
  exact ⟨va, vi, vb, as_, is_, at_, h1, h2.other ht, h3.other ht, h4.other ht, r⟩
end Go.Proofs.YtnidkdjapieinaaDoor

namespace Go.Proofs.YtnidkdjapieinaaDoor
open Go.RowKit Go.Shelf
set_option linter.unusedSimpArgs false
set_option linter.unusedVariables false

def tokV (k : Int) (u : ByteArray) (n a l c : Int) (f : Bool) : Value := .agg #[.int .i64 k, .string u, .int .i64 n, .int .i64 a, .int .i64 l, .int .i64 c, .bool f]
set_option maxRecDepth 100000 in
set_option maxHeartbeats 4000000 in
theorem isMark_go (k n a l c : Int) (u s : ByteArray) (f : Bool) (w : World) :
    Calls Tryd.prog 25 #[tokV k u n a l c f, .string s] w fun e w' => e = .returned (.bool ((k == 8) && (u.toList == s.toList))) ∧ Below w.heap.size w w' := by
  obtain ⟨p, hp⟩ : ∃ p, (k == 8) = p := ⟨_, rfl⟩
  obtain ⟨q, hq⟩ : ∃ q, (u.toList == s.toList) = q := ⟨_, rfl⟩
  rw [hp, hq]
  unfold tokV
  cases p
  · go_enter Tryd.func25, Tryd.ntmps25
    go_wp2
    go_ret
    exact ⟨rfl, (Below.refl _ _).alloc (Nat.le_refl _) _⟩
  · go_enter Tryd.func25, Tryd.ntmps25
    go_wp2
    go_ret
    exact ⟨by simp, (Below.refl _ _).alloc (Nat.le_refl _) _⟩
set_option maxRecDepth 100000 in
set_option maxHeartbeats 4000000 in
theorem opens_go (k n a l c : Int) (u : ByteArray) (f : Bool) (w : World) :
    Calls Tryd.prog 26 #[tokV k u n a l c f] w fun e w' => e = .returned (.bool ((k == 9) && ((u.toList == [108, 101, 116]) || ((u.toList == [119, 104, 101, 114, 101]) || ((u.toList == [100, 111]) || (u.toList == [111, 102])))))) ∧ Below w.heap.size w w' := by
  obtain ⟨p, hp⟩ : ∃ p, (k == 9) = p := ⟨_, rfl⟩
  obtain ⟨q1, h1⟩ : ∃ q, (u.toList == [108, 101, 116]) = q := ⟨_, rfl⟩
  obtain ⟨q2, h2⟩ : ∃ q, (u.toList == [119, 104, 101, 114, 101]) = q := ⟨_, rfl⟩
  obtain ⟨q3, h3⟩ : ∃ q, (u.toList == [100, 111]) = q := ⟨_, rfl⟩
  obtain ⟨q4, h4⟩ : ∃ q, (u.toList == [111, 102]) = q := ⟨_, rfl⟩
  rw [hp, h1, h2, h3, h4]
  unfold tokV
  cases p
  · go_enter Tryd.func26, Tryd.ntmps26
    go_wp2
    go_ret
    exact ⟨rfl, (Below.refl _ _).alloc (Nat.le_refl _) _⟩
  · cases q1
    · cases q2
      · cases q3
        · go_enter Tryd.func26, Tryd.ntmps26
          go_wp2
          go_ret
          exact ⟨by simp, (Below.refl _ _).alloc (Nat.le_refl _) _⟩
        · go_enter Tryd.func26, Tryd.ntmps26
          go_wp2
          go_ret
          exact ⟨by simp, (Below.refl _ _).alloc (Nat.le_refl _) _⟩
      · go_enter Tryd.func26, Tryd.ntmps26
        go_wp2
        go_ret
        exact ⟨by simp, (Below.refl _ _).alloc (Nat.le_refl _) _⟩
    · go_enter Tryd.func26, Tryd.ntmps26
      go_wp2
      go_ret
      exact ⟨by simp, (Below.refl _ _).alloc (Nat.le_refl _) _⟩

theorem isMk_eq (x : Tp) (c : UInt8) : (((x.t.kind : Int) == 8) && ((⟨x.t.text.toArray⟩ : ByteArray).toList == (⟨#[c]⟩ : ByteArray).toList)) = isMk c x := by
  unfold isMk
  congr 1
  · rw [Bool.eq_iff_iff, beq_iff_eq, decide_eq_true_eq]; omega
  · rw [Lib.toList_data, Lib.toList_data, Bool.eq_iff_iff, beq_iff_eq, decide_eq_true_eq]
theorem opensK_eq (x : Tp) : (((x.t.kind : Int) == 9) && (((⟨x.t.text.toArray⟩ : ByteArray).toList == [108, 101, 116]) || (((⟨x.t.text.toArray⟩ : ByteArray).toList == [119, 104, 101, 114, 101]) || (((⟨x.t.text.toArray⟩ : ByteArray).toList == [100, 111]) || ((⟨x.t.text.toArray⟩ : ByteArray).toList == [111, 102]))))) = opensK x := by
  have e : ∀ l : List UInt8, ((⟨x.t.text.toArray⟩ : ByteArray).toList == l) = decide (x.t.text = l) := fun l => by
    rw [Lib.toList_data, Bool.eq_iff_iff, beq_iff_eq, decide_eq_true_eq]
  rw [e, e, e, e]
  unfold opensK
  congr 1
  rw [Bool.eq_iff_iff, beq_iff_eq, decide_eq_true_eq]; omega
theorem isMark_any (x : Tp) (c : UInt8) (w : World) :
    Calls Tryd.prog 25 #[.agg (tokC x).toArray, .string ⟨#[c]⟩] w fun e w' => e = .returned (.bool (isMk c x)) ∧ Below w.heap.size w w' := by
  rw [← isMk_eq]; exact isMark_go _ _ _ _ _ _ _ _ w
theorem opens_any (x : Tp) (w : World) :
    Calls Tryd.prog 26 #[.agg (tokC x).toArray] w fun e w' => e = .returned (.bool (opensK x)) ∧ Below w.heap.size w w' := by
  rw [← opensK_eq]; exact opens_go _ _ _ _ _ _ _ w

/-- A stream's block. -/
structure St (W : World) (S : Nat → Prop) (tb e : Nat) (q : List It) (bs : List Nat) : Prop where
  ex : ∃ c : List Value, Blk W tb c.toArray ∧ StC W S c e q bs
  mem : S tb
  all : ∀ i, S i → i < W.heap.size
theorem St.of {W W' : World} {S : Nat → Prop} {tb e : Nat} {q q' : List It} {bs bs' : List Nat} (h : St W S tb e q bs) (hz : W.heap.size ≤ W'.heap.size) (ex : ∃ c : List Value, Blk W' tb c.toArray ∧ StC W' S c e q' bs') : St W' S tb e q' bs' :=
  ⟨ex, h.mem, fun i hi => Nat.lt_of_lt_of_le (h.all i hi) hz⟩
theorem St.below_ {W W' : World} {S : Nat → Prop} {tb e : Nat} {q : List It} {bs : List Nat} (h : St W S tb e q bs) (hb : Below W.heap.size W W') : St W' S tb e q bs := by
  obtain ⟨c, h1, h2⟩ := h.ex
  exact h.of hb.size ⟨c, h1.below hb h1.lt, h2.below hb⟩
theorem St.lt {W : World} {S : Nat → Prop} {tb e : Nat} {q : List It} {bs : List Nat} (h : St W S tb e q bs) : tb < W.heap.size := h.all tb h.mem
set_option maxRecDepth 100000 in
set_option maxHeartbeats 4000000 in
theorem none_any {W : World} {S : Nat → Prop} {tb e : Nat} {q : List It} {bs : List Nat} (h : St W S tb e q bs) :
    Calls Tryd.prog 28 #[.pointer (some ⟨tb, 0, none⟩)] W fun ex w' => ex = .returned (.bool false) ∧ Below W.heap.size W w' := by
  obtain ⟨_, hB, va, vi, vb, as_, is_, at_, rfl, h2, h3, h4, h5, h5b, h6, h7, h8⟩ := h.ex
  have c5 := hB.cell 5
  simp only [List.getElem?_toArray, List.getElem?_cons_zero, List.getElem?_cons_succ] at c5
  go_enter Tryd.func28, Tryd.ntmps28
  go_wp2
  go_ret
  exact ⟨rfl, Below.refl _ _⟩

def topI : List Nat → Int
  | [] => -1
  | m :: _ => m
set_option maxRecDepth 100000 in
set_option maxHeartbeats 4000000 in
theorem top_any {W : World} {S : Nat → Prop} {tb e : Nat} {q : List It} {bs : List Nat} (h : St W S tb e q bs) (hl : bs.length ≤ 1000000000) :
    Calls Tryd.prog 68 #[.pointer (some ⟨tb, 0, none⟩)] W fun ex w' => ex = .returned (.int .i64 (topI bs)) ∧ Below W.heap.size W w' := by
  obtain ⟨_, hB, va, vi, vb, as_, is_, at_, rfl, h2, h3, h4, h5, h5b, h6, h7, h8⟩ := h.ex
  have c3 := hB.cell 3
  simp only [List.getElem?_toArray, List.getElem?_cons_zero, List.getElem?_cons_succ] at c3
  cases bs with
  | nil =>
    obtain ⟨a, c, rfl⟩ := h4.shape
    simp only [List.map_nil, List.reverse_nil, List.length_nil] at c3
    clear h2 h3 h4 h5 h5b h6 h7 h8
    go_enter Tryd.func68, Tryd.ntmps68
    go_wp2
    go_ret
    exact ⟨rfl, Below.refl _ _⟩
  | cons m bs =>
    rcases h4 with ⟨_, h4⟩ | ⟨b, o, cap, rfl, g1, g2, g3, g4⟩
    · simp at h4
    · have d0 := g4 bs.length [.int .i64 m] (by simp) 0 _ rfl
      simp only [List.length_map, List.length_reverse, List.length_cons] at c3 g1
      obtain ⟨N, hN⟩ : ∃ N, bs.length = N := ⟨_, rfl⟩
      rw [hN] at d0 c3 g1
      simp only [Nat.mul_one, Nat.add_zero] at d0
      simp only [List.length_cons, hN] at hl
      have z0 : ((N : Int) + 1 == 0) = false := by rw [beq_eq_false_iff_ne]; omega
      have z1 : (((N + 1 : Nat) : Int) == 0) = false := by rw [beq_eq_false_iff_ne]; omega
      have z2 : ((N + 1 : Nat) : Int) - 1 = N := by omega
      have z3 : (N : Int) + 1 - 1 = N := by omega
      have z4 : IntKind.i64.wrap (N : Int) = N := IntWalk.i64_in _ (by omega)
      clear h2 h3 h5 h5b h6 h7 h8 g4
      go_enter Tryd.func68, Tryd.ntmps68
      go_wp2
      go_region
      go_wp2
      go_ret
      exact ⟨rfl, by ((repeat (first | exact Below.refl _ _ | (refine Below.alloc ?_ (by first | (simp [World.setCell]; done) | (simp [World.setCell]; omega)) _) | (refine Below.setCell ?_ (by first | (simp [World.setCell]; done) | (simp [World.setCell]; omega)) _) | refine Below.drew ?_ | (refine Below.trans ?_ ((below_drewN _ _).mono (by first | (simp [World.setCell]; done) | (simp [World.setCell]; omega)))))))⟩
set_option maxRecDepth 100000 in
set_option maxHeartbeats 4000000 in
theorem clipI_any (a : Option Addr) (n c : Nat) (hn : n ≤ c) (ha : a = none → n = 0 ∧ c = 0) (w : World) :
    Calls Tryd.prog 81 #[.slice a n c] w fun e w' => e = .returned (.slice a n n) ∧ w = w' := by
  cases a with
  | none =>
    obtain ⟨rfl, rfl⟩ := ha rfl
    go_enter Tryd.func81, Tryd.ntmps81
    go_wp2
    go_ret
    exact ⟨rfl, rfl⟩
  | some A =>
    go_enter Tryd.func81, Tryd.ntmps81
    go_wp2
    go_ret
    exact ⟨rfl, rfl⟩
set_option maxRecDepth 100000 in
set_option maxHeartbeats 4000000 in
theorem clipN_any (a : Option Addr) (n c : Nat) (hn : n ≤ c) (ha : a = none → n = 0 ∧ c = 0) (w : World) :
    Calls Tryd.prog 82 #[.slice a n c] w fun e w' => e = .returned (.slice a n n) ∧ w = w' := by
  cases a with
  | none =>
    obtain ⟨rfl, rfl⟩ := ha rfl
    go_enter Tryd.func82, Tryd.ntmps82
    go_wp2
    go_ret
    exact ⟨rfl, rfl⟩
  | some A =>
    go_enter Tryd.func82, Tryd.ntmps82
    go_wp2
    go_ret
    exact ⟨rfl, rfl⟩
end Go.Proofs.YtnidkdjapieinaaDoor

namespace Go.Proofs.YtnidkdjapieinaaDoor
open Go.RowKit Go.Shelf
set_option linter.unusedSimpArgs false
set_option linter.unusedVariables false

theorem infoN : (Tryd.prog.info? 3).map (fun i => (i.zero, i.size, i.bytes)) = some (some (.int .i64 0), 1, 8) := by kernel_rfl
theorem infoI : (Tryd.prog.info? 68).map (fun i => (i.zero, i.size, i.bytes)) = some (some (.agg #[.int .i64 0, .int .i64 0, .int .i64 0, .string ⟨#[]⟩, .int .i64 0, .int .i64 0, .int .i64 0, .int .i64 0, .bool false]), 9, 80) := by kernel_rfl

theorem cell_on {w W : World} (hb : Below w.heap.size w W) {p : Addr} {v : Value} (h : w.cell? p = some v) : W.cell? p = some v := by
  have hl : p.block < w.heap.size := by
    rcases Nat.lt_or_ge p.block w.heap.size with g | g
    · exact g
    · unfold World.cell? at h
      rw [Array.getElem?_eq_none g] at h
      simp at h
  rw [hb.cell hl]; exact h
/-- A row that is made anew, read. -/
theorem own_rd {W : World} {S : Nat → Prop} {base size n : Nat} {e : TypeId} {v : Value} {xs : List (List Value)} (h : W.ownsRow base e size v n xs.flatten) (hn : n = xs.length) (hx : ∀ x ∈ xs, x.length = size) (ht : ∀ i, S i → i < base) : RdC W S size v xs := by
  subst hn
  have h0 := h
  rcases h.2 with ⟨rfl, h1⟩ | ⟨g, cap, cur, rfl, hg, hb, _, hcap, _⟩
  · exact .inl ⟨rfl, List.length_eq_zero_iff.1 h1⟩
  · refine .inr ⟨g, 0, cap, rfl, by assumption, (Array.getElem?_eq_some_iff.1 hb).1, (fun e => by have := ht g e; omega), fun k x hk j c hj => ?_⟩
    have key : ∀ (xs : List (List Value)) (k : Nat), (∀ x ∈ xs, x.length = size) → xs[k]? = some x → xs.flatten[k * size + j]? = some c := by
      intro xs
      induction xs with
      | nil => intro k _ hk; simp at hk
      | cons y ys ih =>
        intro k hx hk
        have hy := hx y (by simp)
        cases k with
        | zero =>
          simp at hk; subst hk
          rw [Nat.zero_mul, Nat.zero_add, List.flatten_cons, List.getElem?_append_left (List.getElem?_eq_some_iff.1 hj).1]
          exact hj
        | succ k =>
          simp at hk
          rw [List.flatten_cons, List.getElem?_append_right (by rw [hy, Nat.succ_mul]; omega)]
          have : (k + 1) * size + j - y.length = k * size + j := by rw [hy, Nat.succ_mul]; omega
          rw [this]
          exact ih k (fun z hz => hx z (by simp [hz])) hk
    have := h0.cells (g := g) rfl (k * size + j) c (key xs k hx hk)
    rw [Nat.zero_add]
    cases hm : k * size + j with
    | zero => rw [hm] at this; simpa [Addr.add] using this
    | succ m => rw [hm] at this; simpa [Addr.add] using this

theorem flat1 (l : List Nat) : (l.map fun (n : Nat) => [Value.int .i64 (n : Int)]).flatten = l.map fun (n : Nat) => Value.int .i64 (n : Int) := by
  induction l with
  | nil => rfl
  | cons n l ih => simp only [List.map_cons, List.flatten_cons, ih]; rfl
set_option maxRecDepth 100000 in
set_option maxHeartbeats 4000000 in
theorem pop_any {W : World} {S : Nat → Prop} {tb e m : Nat} {q : List It} {bs : List Nat} (h : St W S tb e q (m :: bs)) (hl : bs.length ≤ 1000000000) :
    Calls Tryd.prog 69 #[.pointer (some ⟨tb, 0, none⟩)] W fun ex w' => ex = .returned (.tuple #[]) ∧ St w' S tb e q bs ∧ OffB tb W w' := by
  obtain ⟨_, hB, va, vi, vb, as_, is_, at_, rfl, h2, h3, h4, h5, h5b, h6, h7, h8⟩ := h.ex
  have hmem := h.mem
  have hall := h.all
  have c3 := hB.cell 3
  have f3 := hB.free 3
  simp only [List.getElem?_toArray, List.getElem?_cons_zero, List.getElem?_cons_succ] at c3
  have h4' : RdC W S 1 vb ((bs.reverse.map fun (n : Nat) => [Value.int .i64 (n : Int)]) ++ [[Value.int .i64 (m : Int)]]) := by
    have h := h4
    unfold NRd at h
    simpa using h
  clear h4
  have h4 := h4'
  clear h4'
  obtain ⟨a, cap, hv⟩ := h4.shape
  simp only [List.length_append, List.length_map, List.length_reverse, List.length_singleton] at hv
  subst hv
  have hcap : bs.length + 1 ≤ cap := by
    rcases h4 with ⟨h4, _⟩ | ⟨b, o, cap', g0, g1, _⟩
    · cases h4
    · simp at g0 g1; omega
  have hr := h4.pop
  have hB' := hB.set 3 (.slice a bs.length cap) (by simp)
  have hO := (OffB.refl tb W).set 3 (.slice a bs.length cap)
  have HR := Lib.hid (show St (W.setCell ⟨tb, 3, none⟩ (.slice a bs.length cap)).drew S tb e q bs from h.of (by simp) ⟨_, hB'.drew, va, vi, .slice a bs.length cap, as_, is_, at_, rfl, h2.off hO.drew, h3.off hO.drew, hr.off hO.drew, h5, h5b, h6, h7, h8⟩)
  obtain ⟨N, hN⟩ : ∃ N, bs.length = N := ⟨_, rfl⟩
  rw [hN] at HR c3 hl hcap
  have z2 : ((N + 1 : Nat) : Int) - 1 = N := by omega
  have z3 : (N : Int) + 1 - 1 = N := by omega
  have z4 : IntKind.i64.wrap (N : Int) = N := IntWalk.i64_in _ (by omega)
  have HO := Lib.hid hO.drew
  rw [hN] at HO
  clear h2 h3 h4 h5 h5b h6 h7 h8 hB hB' hO hr
  go_enter Tryd.func69, Tryd.ntmps69
  go_wp2
  go_region
  go_end0
  exact ⟨rfl, HR.out, HO.out⟩

set_option maxRecDepth 100000 in
set_option maxHeartbeats 4000000 in
theorem push_any {W : World} {S : Nat → Prop} {tb e : Nat} {q : List It} {bs : List Nat} (h : St W S tb e q bs) (hl : bs.length ≤ 1000000000) (m : Nat) :
    Calls Tryd.prog 72 #[.pointer (some ⟨tb, 0, none⟩), .int .i64 m] W fun ex w' => ex = .returned (.tuple #[]) ∧ St w' S tb e q (m :: bs) ∧ OffB tb W w' := by
  obtain ⟨_, hB, va, vi, vb, as_, is_, at_, rfl, h2, h3, h4, h5, h5b, h6, h7, h8⟩ := h.ex
  have hmem := h.mem
  have hall := h.all
  have c3 := hB.cell 3
  have f3 := hB.free 3
  have hlt := hB.lt
  simp only [List.getElem?_toArray, List.getElem?_cons_zero, List.getElem?_cons_succ] at c3
  obtain ⟨i0, hi, hz0, hz1, hz2⟩ := info_parts infoN
  obtain ⟨a, cap, hv⟩ := h4.shape
  simp only [List.length_map, List.length_reverse] at hv
  subst hv
  have hcap : bs.length ≤ cap ∧ (a = none → bs.length = 0 ∧ cap = 0) ∧ (∀ b, a = some b → ∀ j u, (bs.reverse.map fun (n : Nat) => Value.int .i64 (n : Int))[j]? = some u → W.cell? (b.add j) = some u) := by
    rcases h4 with ⟨h4, h4b⟩ | ⟨b, o, cap', g0, g1, g2, g3, g4⟩
    · simp at h4b h4
      obtain ⟨rfl, _, rfl⟩ := h4
      subst h4b
      exact ⟨Nat.le_refl _, fun _ => ⟨rfl, rfl⟩, (fun b hb => by cases hb)⟩
    · simp at g0 g1
      obtain ⟨rfl, rfl⟩ := g0
      refine ⟨g1, (fun hn => by cases hn), fun b' hb j u hj => ?_⟩
      cases hb
      rw [List.getElem?_map] at hj
      cases hx : bs.reverse[j]? with
      | none => rw [hx] at hj; cases hj
      | some n =>
        rw [hx] at hj
        cases hj
        have := g4 j [.int .i64 n] (by rw [List.getElem?_map, hx]; rfl) 0 _ rfl
        cases j with
        | zero => simpa [Addr.add] using this
        | succ j => simpa [Addr.add] using this
  obtain ⟨k1, k2, k3⟩ := hcap
  obtain ⟨N, hN⟩ : ∃ N, bs.length = N := ⟨_, rfl⟩
  rw [hN] at c3 hl k1 k2
  have K3 := Lib.hid k3
  have HN := Lib.hid hN
  have H2 := Lib.hid h2
  have H3 := Lib.hid h3
  have H7 := Lib.hid h7
  have hcl := fun w => clipN_any a N cap k1 k2 w
  clear h2 h3 h4 h7 hN k3
  go_enter Tryd.func72, Tryd.ntmps72
  go_wp2_with (first | (go_at_call 82; refine (hcl _).mono ?_; rintro e w1 ⟨rfl, rfl⟩) | (at_builtin; go_loud (refine wpList_append_grows _ rfl _ _ 63 rfl 3 i0 (.int .i64 0) 1 8 Tryd.underlying63 hi hz0 hz1 hz2 rfl (by decide) a N N (bs.reverse.map fun (n : Nat) => Value.int .i64 (n : Int)) rfl (fun hn => ⟨(k2 hn).1, (k2 hn).1⟩) (by simp [HN.out]) (fun b hb j u hu => cell_on ((Below.refl _ _).alloc (Nat.le_refl _) _) (K3.out b hb j u hu)) ⟨W.heap.size, 0, none⟩ 1 1 [.int .i64 m] rfl rfl ?c1 ?c2 (by omega) (by unfold maxLen; omega) (by omega) ?grow)))
  case c1 => intro j u hj; match j, hj with | 0, hj => simp at hj; subst hj; simp [Addr.add]
  case c2 => intro u hu; simp at hu; subst hu; rfl
  case grow =>
    intro v' w' hown hgrow
    obtain ⟨a', c', rfl⟩ := own_shape hown
    have b1 : Below W.heap.size W w' := ((Below.refl _ _).alloc (Nat.le_refl _) _).grown hgrow (by simp) (fun k h => by cases h)
    have hBw := hB.below b1 hlt
    have f3' := hBw.free 3
    have c3' := hBw.cell 3
    simp only [List.getElem?_toArray, List.getElem?_cons_zero, List.getElem?_cons_succ] at c3'
    have hB' := hBw.set 3 (.slice a' (N + 1) c') (by simp)
    have hO := (OffB.of_below (b := tb) b1).set 3 (.slice a' (N + 1) c')
    have hr : NRd w' S (.slice a' (N + 1) c') (m :: bs).reverse := by
      refine own_rd (n := N + 1) (e := 3) (base := W.heap.size + 1) (by rw [flat1, List.reverse_cons, List.map_append]; simpa using hown) (by simp [HN.out]) (by intro x hx; obtain ⟨n, _, rfl⟩ := List.mem_map.1 hx; rfl) (fun i hi => by have := hall i hi; omega)
    have HR := Lib.hid (show St (w'.setCell ⟨tb, 3, none⟩ (.slice a' (N + 1) c')) S tb e q (m :: bs) from h.of (by have := b1.size; simpa using this) ⟨_, hB', va, vi, .slice a' (N + 1) c', as_, is_, at_, rfl, H2.out.off hO, H3.out.off hO, hr.off ((OffB.refl tb w').set 3 (.slice a' (N + 1) c')), h5, h5b, h6, H7.out, h8⟩)
    clear hB' hBw hown hgrow
    go_wp2
    go_end0
    exact ⟨rfl, HR.out, hO⟩
end Go.Proofs.YtnidkdjapieinaaDoor

namespace Go.Proofs.YtnidkdjapieinaaDoor
open Go.RowKit Go.Shelf
set_option linter.unusedSimpArgs false
set_option linter.unusedVariables false

theorem cells_len (x : It) : x.cells.length = 9 := by cases x <;> rfl
theorem flat_len9 (l : List It) : (l.map It.cells).flatten.length = l.length * 9 := by
  induction l with
  | nil => rfl
  | cons x l ih => simp only [List.map_cons, List.flatten_cons, List.length_append, ih, cells_len, List.length_cons]; omega
theorem rd_olds {W : World} {S : Nat → Prop} {a : Option Addr} {n cap : Nat} {l : List It} (h : IRd W S (.slice a n cap) l) :
    n ≤ cap ∧ (a = none → n = 0 ∧ cap = 0) ∧ (∀ b, a = some b → ∀ j u, ((l.map It.cells).flatten)[j]? = some u → W.cell? (b.add j) = some u) := by
  rcases h with ⟨h4, h4b⟩ | ⟨b, o, cap', g0, g1, g2, g3, g4⟩
  · simp at h4b h4
    obtain ⟨rfl, rfl, rfl⟩ := h4
    exact ⟨Nat.le_refl _, fun _ => ⟨rfl, rfl⟩, (fun b hb => by cases hb)⟩
  · simp at g0 g1
    obtain ⟨rfl, rfl, rfl⟩ := g0
    refine ⟨g1, (fun hn => by cases hn), fun b' hb j u hj => ?_⟩
    cases hb
    have key : ∀ (l : List It) (j : Nat) (u : Value), ((l.map It.cells).flatten)[j]? = some u → ∃ x, l[j / 9]? = some x ∧ x.cells[j % 9]? = some u := by
      intro l
      induction l with
      | nil => intro j u h; simp at h
      | cons x l ih =>
        intro j u h
        simp only [List.map_cons, List.flatten_cons] at h
        rcases Nat.lt_or_ge j 9 with hj | hj
        · rw [List.getElem?_append_left (by rw [cells_len]; exact hj)] at h
          exact ⟨x, by rw [Nat.div_eq_of_lt hj]; rfl, by rw [Nat.mod_eq_of_lt hj]; exact h⟩
        · rw [List.getElem?_append_right (by rw [cells_len]; exact hj), cells_len] at h
          obtain ⟨y, h1, h2⟩ := ih _ _ h
          refine ⟨y, ?_, ?_⟩
          · have : j / 9 = (j - 9) / 9 + 1 := by omega
            rw [this]; exact h1
          · have : j % 9 = (j - 9) % 9 := by omega
            rw [this]; exact h2
    obtain ⟨x, h1, h2⟩ := key l j u hj
    have := g4 (j / 9) x.cells (by rw [List.getElem?_map, h1]; rfl) (j % 9) u h2
    have e : o + j / 9 * 9 + j % 9 = o + j := by omega
    rw [e] at this
    cases j with
    | zero => simpa [Addr.add] using this
    | succ j => simpa [Addr.add] using this

theorem cells9_new (W W' : World) (a b c d e f g h i : Value) (t : TypeId) (hw : W'.heap[W.heap.size]? = (W.alloc (.cells #[a, b, c, d, e, f, g, h, i] t)).heap[W.heap.size]?) : ∀ j u, [a, b, c, d, e, f, g, h, i][j]? = some u → W'.cell? ((⟨W.heap.size, 0, none⟩ : Addr).add j) = some u := by
  intro j u hj
  have h0 := (World.cell?_of_block (a := ⟨W.heap.size, j, none⟩) hw).trans ((Blk.new W #[a, b, c, d, e, f, g, h, i] t).cell j)
  have e : (⟨W.heap.size, 0, none⟩ : Addr).add j = ⟨W.heap.size, j, none⟩ := by
    cases j with
    | zero => simp [Addr.add]
    | succ j => simp [Addr.add]
  rw [e, h0]
  simpa using hj
set_option maxRecDepth 100000 in
set_option maxHeartbeats 8000000 in
theorem put_any {W : World} {S : Nat → Prop} {tb e : Nat} {q : List It} {bs : List Nat} (h : St W S tb e q bs) (hl : q.length ≤ 1000000) (x : It) (k n : Int) (hx : x.cells = [.int .i64 k, .int .i64 n] ++ noTok) (hp : x.plain = true) :
    Calls Tryd.prog 71 #[.pointer (some ⟨tb, 0, none⟩), .agg #[.int .i64 k, .int .i64 n, .int .i64 0, .string ⟨#[]⟩, .int .i64 0, .int .i64 0, .int .i64 0, .int .i64 0, .bool false]] W fun ex w' => ex = .returned (.tuple #[]) ∧ St w' S tb e (x :: q) bs ∧ OffB tb W w' := by
  obtain ⟨_, hB, va, vi, vb, as_, is_, at_, rfl, h2, h3, h4, h5, h5b, h6, h7, h8⟩ := h.ex
  have hmem := h.mem
  have hall := h.all
  have H0 := Lib.hid h
  have hal : as_.length ≤ 1000000 := by rw [h8, List.length_append] at hl; omega
  have hlt := hB.lt
  obtain ⟨i0, hi, hz0, hz1, hz2⟩ := info_parts infoI
  obtain ⟨a, cap, hv⟩ := h2.shape
  simp only [List.length_map, List.length_reverse] at hv
  subst hv
  obtain ⟨k1, k2, k3⟩ := rd_olds h2
  obtain ⟨N, hN⟩ : ∃ N, as_.length = N := ⟨_, rfl⟩
  rw [hN] at hB k1 k2 hal
  have K3 := Lib.hid k3
  have HN := Lib.hid hN
  have H2 := Lib.hid h2
  have H3 := Lib.hid h3
  have H4 := Lib.hid h4
  have H7 := Lib.hid h7
  have Hx := Lib.hid hx
  have H8 := Lib.hid h8
  have hcl := Lib.hid (fun w => clipI_any a N cap k1 k2 w)
  have BX := Blk.new W #[.int .i64 k, .int .i64 n, .int .i64 0, .string ⟨#[]⟩, .int .i64 0, .int .i64 0, .int .i64 0, .int .i64 0, .bool false] 68
  have hB0 := hB.alloc (.cells #[.int .i64 k, .int .i64 n, .int .i64 0, .string ⟨#[]⟩, .int .i64 0, .int .i64 0, .int .i64 0, .int .i64 0, .bool false] 68)
  have b0 : Below W.heap.size W (W.alloc (.cells #[.int .i64 k, .int .i64 n, .int .i64 0, .string ⟨#[]⟩, .int .i64 0, .int .i64 0, .int .i64 0, .int .i64 0, .bool false] 68)) := (Below.refl _ _).alloc (Nat.le_refl _) _
  have hlen : (as_.reverse.map It.cells).flatten.length = N * 9 := by rw [flat_len9, List.length_reverse, hN]
  have Hlen := Lib.hid hlen
  clear h2 h3 h4 h7 h8 hN k3 hx hlen h hl
  go_enter Tryd.func71, Tryd.ntmps71
  go_wp2
  generalize W.alloc (.cells #[.int .i64 k, .int .i64 n, .int .i64 0, .string ⟨#[]⟩, .int .i64 0, .int .i64 0, .int .i64 0, .int .i64 0, .bool false] 68) = W0 at BX hB0 b0 ⊢
  have x0 := BX.cell 0
  have x1 := BX.cell 1
  have x2 := BX.cell 2
  have x3 := BX.cell 3
  have x4 := BX.cell 4
  have x5 := BX.cell 5
  have x6 := BX.cell 6
  have x7 := BX.cell 7
  have x8 := BX.cell 8
  have c0 := hB0.cell 0
  have f0 := hB0.free 0
  simp at x0 x1 x2 x3 x4 x5 x6 x7 x8
  simp only [List.getElem?_toArray, List.getElem?_cons_zero, List.getElem?_cons_succ] at c0
  have hz := b0.size
  have K4 := Lib.hid (fun b hb j u hu => cell_on b0 (K3.out b hb j u hu))
  have hlt0 := hB0.lt
  go_region_law (first | (refine step_append_grows (by rfl) _ _ 62 (by rfl) 68 i0 _ 9 80 Tryd.underlying62 hi hz0 hz1 hz2 rfl (by decide) a N N ((as_.reverse.map It.cells).flatten) (by rfl) (fun hn => ⟨(k2 hn).1, (k2 hn).1⟩) Hlen.out (fun b hb j u hu => cell_on (by ((repeat (first | exact Below.refl _ _ | (refine Below.alloc ?_ (by first | (simp [World.setCell]; done) | (simp [World.setCell]; omega)) _) | (refine Below.setCell ?_ (by first | (simp [World.setCell]; done) | (simp [World.setCell]; omega)) _) | refine Below.drew ?_ | (refine Below.trans ?_ ((below_drewN _ _).mono (by first | (simp [World.setCell]; done) | (simp [World.setCell]; omega)))))))) (K4.out b hb j u hu)) ⟨W0.heap.size, 0, none⟩ 1 1 [.int .i64 k, .int .i64 n, .int .i64 0, .string ⟨#[]⟩, .int .i64 0, .int .i64 0, .int .i64 0, .int .i64 0, .bool false] (by rfl) (by rfl) (cells9_new _ _ _ _ _ _ _ _ _ _ _ 68 rfl) (by simp [Value.oneCell']) (by omega) (by unfold maxLen; omega) (by omega) ?_; intro v' w' hown hgrow; obtain ⟨a', c', rfl⟩ := own_shape hown; have b1 : Below W0.heap.size W0 w' := (Below.grown (B := W0.heap.size) (by ((repeat (first | exact Below.refl _ _ | (refine Below.alloc ?_ (by first | (simp [World.setCell]; done) | (simp [World.setCell]; omega)) _) | (refine Below.setCell ?_ (by first | (simp [World.setCell]; done) | (simp [World.setCell]; omega)) _) | refine Below.drew ?_ | (refine Below.trans ?_ ((below_drewN _ _).mono (by first | (simp [World.setCell]; done) | (simp [World.setCell]; omega)))))))) hgrow (by simp) (fun k h => by cases h)); have hB1 := hB0.below b1 hlt0; have c1 := hB1.cell 0; have f1 := hB1.free 0; simp only [List.getElem?_toArray, List.getElem?_cons_zero, List.getElem?_cons_succ] at c1; clear hgrow) | (go_simp; go_at_call 81; with_reducible refine (hcl.out _).mono ?_; rintro e w1 ⟨rfl, rfl⟩))
  all_goals
    have hB' := hB1.set 0 (.slice a' (N + 1) c') (by simp)
    have hO := (OffB.of_below (b := tb) (b0.trans (b1.mono hz))).set 0 (.slice a' (N + 1) c')
    have hfl : (((x :: as_).reverse.map It.cells).flatten) = (as_.reverse.map It.cells).flatten ++ [.int .i64 k, .int .i64 n, .int .i64 0, .string ⟨#[]⟩, .int .i64 0, .int .i64 0, .int .i64 0, .int .i64 0, .bool false] := by
      rw [List.reverse_cons, List.map_append, List.flatten_append]
      simp only [List.map_cons, List.map_nil, List.flatten_cons, List.flatten_nil, List.append_nil, Hx.out]
      rfl
    have hr : IRd w' S (.slice a' (N + 1) c') (x :: as_).reverse := own_rd (n := N + 1) (e := 68) (base := W0.heap.size + 1) (by rw [hfl]; simpa using hown) (by simp [HN.out]) (by intro y hy; obtain ⟨z, _, rfl⟩ := List.mem_map.1 hy; exact cells_len z) (fun i hi => by have := hall i hi; omega)
    have HR := Lib.hid (show St (w'.setCell ⟨tb, 0, none⟩ (.slice a' (N + 1) c')) S tb e (x :: q) bs from H0.out.of (by have := b1.size; simp; omega) ⟨_, hB', .slice a' (N + 1) c', vi, vb, x :: as_, is_, at_, rfl, hr.off ((OffB.refl tb w').set 0 (.slice a' (N + 1) c')), H3.out.off hO, H4.out.off hO, h5, h5b, h6, (by intro y hy; rcases List.mem_cons.1 hy with rfl | hy; exact hp; exact H7.out y hy), by rw [H8.out]; rfl⟩)
    have HO := Lib.hid hO
    clear hB' hO hr hfl hB1 b1 hown x0 x1 x2 x3 x4 x5 x6 x7 x8 c0 f0 c1 f1
    go_wp2
    go_end0
    exact ⟨rfl, HR.out, HO.out⟩
end Go.Proofs.YtnidkdjapieinaaDoor
