/- The contract of Put. -/
import Derived.Test.YtlmljommgmbckaaHpE
namespace Go.Proofs.Ytlmljommgmbckaa
open Go.RowKit
set_option linter.unusedSimpArgs false

theorem zeroW : Try.prog.underlying 33 = some (.slice 32) := Try.underlying33
theorem run_clear_words (w : World) (ty : TypeId) (g o n c : Nat) (ws : List Wd) (hg : w.heap[g]? = some (.cells (flat ws).toArray 32 (0, 0))) (hn : o + n ≤ ws.length) (h0 : 0 < n) :
    (Builtin.clear_ #[33] ty #[.slice (some ⟨g, o * 2, none⟩) n c]).run Try.prog w = .ok (.tuple #[]) (w.setRow g (flat (ws.take o ++ List.replicate n (0, 0) ++ ws.drop (o + n))).toArray) := by
  have hz : ∀ w, (zeroValue 32).run Try.prog w = .ok (.agg #[.int .i64 0, .int .i64 0]) w := Try.zeroValue32
  have hzc : (Builtin.zeroCells (Value.agg #[.int .i64 0, .int .i64 0]).cells n).toList = flat (List.replicate n (0, 0)) := by
    have e1 : flat (List.replicate n (0, 0)) = List.replicate (n * 2) (Value.int .i64 0) := by
      clear hn h0
      induction n with
      | zero => rfl
      | succ n ih => rw [List.replicate_succ, flat_cons, ih, show (n + 1) * 2 = n * 2 + 1 + 1 by omega, List.replicate_succ, List.replicate_succ]
    have e2 : ∀ i : Nat, (#[Value.int .i64 0, Value.int .i64 0] : Array Value)[i % 2]! = .int .i64 0 := by
      intro i
      rcases Nat.mod_two_eq_zero_or_one i with h | h <;> rw [h] <;> rfl
    rw [e1]
    show ((Array.range (n * 2)).map fun i => (#[Value.int .i64 0, Value.int .i64 0] : Array Value)[i % 2]!).toList = _
    simp only [e2]
    simp [List.map_const']
  obtain ⟨n, rfl⟩ : ∃ m, n = m + 1 := ⟨n - 1, by omega⟩
  have hst := run_storeCells_at (P := Try.prog) g (o * 2) 32 (flat (List.replicate (n + 1) ((0 : Int), (0 : Int)))) 0 (flat ws).toArray w hg (by rw [flat_len, List.length_replicate, List.size_toArray, flat_len]; omega) (flat_one _)
  have hsp := flat_splice ws (List.replicate (n + 1) ((0 : Int), (0 : Int))) o
  rw [List.length_replicate] at hsp
  unfold Builtin.clear_
  simp [run_underlying zeroW, hz, hzc, hst]
  rw [← List.append_assoc, ← List.append_assoc, ← hsp, flat_len, List.length_replicate]

/-- The words behind a Put. -/
def putWs (ws : List Wd) (i s : Nat) (k hv : Int) (v : Wd) : List Wd :=
  let a := ws.set i (k, hv)
  (a.take (i + 1) ++ List.replicate s (0, 0) ++ a.drop (i + 1 + s)).set (i + 1) v

set_option maxRecDepth 100000 in
set_option maxHeartbeats 2000000 in
theorem put_no (b : Nat) (L : HL) (H : HS) (w : World) (h : HInv w b L H) (a : Int) (h1 : -9223372036854775808 ≤ a) (h2 : a ≤ 9223372036854775807) (k n : Int) (h3 : -9223372036854775808 ≤ n) (h4 : n ≤ 9223372036854775807) (P : Pt) (hP : objOf H a = P) (hn : P.ok = false ∨ valueK H k n = false ∨ (P.k ≠ 5 ∧ P.k ≠ 6)) :
    Calls Try.prog 20 #[.pointer (some ⟨b, 0, none⟩), .int .i64 a, .agg #[.int .i64 k, .int .i64 n]] w fun e w' => e = .returned (.int .i64 (if P.ok = true ∧ valueK H k n = true then 13 else 2)) ∧ Below w.heap.size w w' := by
  have kn := fun W hb => none_any b L H W (h.below hb)
  have ko := fun W hb => object_any b L H W (h.below hb) a h1 h2
  have kv := fun W hb => value_any b L H W (h.below hb) k n h3 h4
  have KN := Lib.hid kn
  rw [hP] at ko
  cases hok : P.ok with
  | false =>
    rw [hok] at ko
    have KO := Lib.hid ko
    rw [if_neg (by simp)]
    clear kn ko kv h hP hn hok
    go_enter Try.func20, Try.ntmps20
    go_wp2_with (first | (go_at_call 38; with_reducible refine (KN.out _ ?_).mono ?_; exact ((Below.refl _ _).alloc (Nat.le_refl _) _); rintro e w1 ⟨rfl, rfl⟩) | (go_at_call 39; with_reducible refine (KO.out _ ?_).mono ?_; exact ((Below.refl _ _).alloc (Nat.le_refl _) _); rintro e w2 ⟨rfl, nd, rfl⟩))
    go_ret
    exact ⟨rfl, by ((repeat (first | exact Below.refl _ _ | (refine Below.alloc ?_ (by first | (simp [World.setCell]; done) | (simp [World.setCell]; omega)) _) | (refine Below.setCell ?_ (by first | (simp [World.setCell]; done) | (simp [World.setCell]; omega)) _) | refine Below.drew ?_ | (refine Below.trans ?_ ((below_drewN _ _).mono (by first | (simp [World.setCell]; done) | (simp [World.setCell]; omega)))))))⟩
  | true =>
    rw [hok] at ko
    have KO := Lib.hid ko
    cases hvk : valueK H k n with
    | false =>
      rw [hvk] at kv
      have KV := Lib.hid kv
      rw [if_neg (by simp)]
      clear kn ko kv h hP hn hok hvk
      go_enter Try.func20, Try.ntmps20
      go_wp2_with (first | (go_at_call 38; with_reducible refine (KN.out _ ?_).mono ?_; exact ((Below.refl _ _).alloc (Nat.le_refl _) _); rintro e w1 ⟨rfl, rfl⟩) | (go_at_call 39; with_reducible refine (KO.out _ ?_).mono ?_; exact ((Below.refl _ _).alloc (Nat.le_refl _) _); rintro e w2 ⟨rfl, nd, rfl⟩) | (go_at_call 42; with_reducible refine (KV.out _ ?_).mono ?_; exact (by ((repeat (first | exact Below.refl _ _ | (refine Below.alloc ?_ (by first | (simp [World.setCell]; done) | (simp [World.setCell]; omega)) _) | (refine Below.setCell ?_ (by first | (simp [World.setCell]; done) | (simp [World.setCell]; omega)) _) | refine Below.drew ?_ | (refine Below.trans ?_ ((below_drewN _ _).mono (by first | (simp [World.setCell]; done) | (simp [World.setCell]; omega)))))))); rintro e w3 ⟨rfl, hb3⟩))
      go_ret
      exact ⟨rfl, Below.trans (B := w.heap.size) (by ((repeat (first | exact Below.refl _ _ | (refine Below.alloc ?_ (by first | (simp [World.setCell]; done) | (simp [World.setCell]; omega)) _) | (refine Below.setCell ?_ (by first | (simp [World.setCell]; done) | (simp [World.setCell]; omega)) _) | refine Below.drew ?_ | (refine Below.trans ?_ ((below_drewN _ _).mono (by first | (simp [World.setCell]; done) | (simp [World.setCell]; omega)))))))) (hb3.mono (by simp))⟩
    | true =>
      rw [hvk] at kv
      have KV := Lib.hid kv
      rw [if_pos ⟨rfl, rfl⟩]
      have hk : P.k ≠ 5 ∧ P.k ≠ 6 := by
        rcases hn with q | q | q
        · rw [hok] at q; cases q
        · rw [hvk] at q; cases q
        · exact q
      have d5 : (P.k != 5) = true := by simpa using hk.1
      have d6 : (P.k != 6) = true := by simpa using hk.2
      clear kn ko kv h hP hn hok hvk hk
      go_enter Try.func20, Try.ntmps20
      go_wp2_with (first | (go_at_call 38; with_reducible refine (KN.out _ ?_).mono ?_; exact ((Below.refl _ _).alloc (Nat.le_refl _) _); rintro e w1 ⟨rfl, rfl⟩) | (go_at_call 39; with_reducible refine (KO.out _ ?_).mono ?_; exact ((Below.refl _ _).alloc (Nat.le_refl _) _); rintro e w2 ⟨rfl, nd, rfl⟩) | (go_at_call 42; with_reducible refine (KV.out _ ?_).mono ?_; exact (by ((repeat (first | exact Below.refl _ _ | (refine Below.alloc ?_ (by first | (simp [World.setCell]; done) | (simp [World.setCell]; omega)) _) | (refine Below.setCell ?_ (by first | (simp [World.setCell]; done) | (simp [World.setCell]; omega)) _) | refine Below.drew ?_ | (refine Below.trans ?_ ((below_drewN _ _).mono (by first | (simp [World.setCell]; done) | (simp [World.setCell]; omega)))))))); rintro e w3 ⟨rfl, hb3⟩))
      go_ret
      exact ⟨rfl, Below.trans (B := w.heap.size) (by ((repeat (first | exact Below.refl _ _ | (refine Below.alloc ?_ (by first | (simp [World.setCell]; done) | (simp [World.setCell]; omega)) _) | (refine Below.setCell ?_ (by first | (simp [World.setCell]; done) | (simp [World.setCell]; omega)) _) | refine Below.drew ?_ | (refine Below.trans ?_ ((below_drewN _ _).mono (by first | (simp [World.setCell]; done) | (simp [World.setCell]; omega)))))))) (hb3.mono (by simp))⟩

theorem wpList_clear_words {w : World} {ops : Array Oper} {rest : List Oper} {o : Oper} {a : Act} {Q : Exit → Act → World → Prop} (hgd : o.guard = none) (s : Operand) (ho : o.op = .call { callee := .builtin .clear, args := #[s], argTypes := #[33] })
    (g j n c : Nat) (ws : List Wd) (hg : w.heap[g]? = some (.cells (flat ws).toArray 32 (0, 0))) (hn : j + n ≤ ws.length) (h0 : 0 < n) (hs : a.eval s = .slice (some ⟨g, j * 2, none⟩) n c)
    (h : wpList Try.prog ops Q rest (a.put o.dst (.tuple #[])) (w.setRow g (flat (ws.take j ++ List.replicate n (0, 0) ++ ws.drop (j + n))).toArray)) : wpList Try.prog ops Q (o :: rest) a w := by
  refine wpList_plain hgd fun K hK => ?_
  have hrun := run_clear_words w o.type g j n c ws hg hn h0
  unfold Oper.wp
  simp [execOp, ho, resolve, invoke, builtin, hs, hrun, Result.andThen]
  simp only [List.append_assoc] at h
  exact hK _ _ h
theorem off_row {w W : World} {g : Nat} (hoff : Off (fun k => k = g) w W) (c : Array Value) : Off (fun k => k = g) w (W.setRow g c) :=
  ⟨hoff.os, hoff.tape, hoff.output, by simpa [World.setRow] using hoff.size, fun k hk hn => by
    have hgk : ¬ g = k := fun e => hn e.symm
    rw [show (W.setRow g c).heap[k]? = W.heap[k]? from by unfold World.setRow; simp [Array.getElem?_modify, hgk]]
    exact hoff.block k hk hn⟩

set_option maxRecDepth 100000 in
set_option maxHeartbeats 4000000 in
theorem put_ok (b : Nat) (L : HL) (H : HS) (w : World) (h : HInv w b L H) (g : HGood H) (i : Nat) (hi : (i : Int) ∈ H.st) (k n : Int) (h3 : -9223372036854775808 ≤ n) (h4 : n ≤ 9223372036854775807) (hvk : valueK H k n = true) (P : Pt) (hP : headOf H i = P) (hk : P.k = 5 ∨ P.k = 6) (s : Nat) (hs : P.s = s) :
    Calls Try.prog 20 #[.pointer (some ⟨b, 0, none⟩), .int .i64 i, .agg #[.int .i64 k, .int .i64 n]] w fun e w' => e = .returned (.int .i64 0) ∧ HInv w' b L (H.put (putWs H.ws i s (H.word i).1 (headK 7 P.s 0) (k, n))) ∧ Off (fun k => k = L.g) w w' := by
  obtain ⟨g1, g2, g3, g4⟩ := g.at_ _ hi
  rw [hP] at g3 g4
  have hN := h.len
  have hnur := h.nur; have hold := h.old; have htop := h.top
  obtain ⟨_, hw6⟩ := head_ok (H := H) (i := i) (by rw [hP]; exact g3)
  have hpo := parts_ok (n := (H.word i).2) (by rw [hw6, hP]; exact g3)
  rw [hw6, hP] at hpo
  rw [hs] at g4 hpo
  have hs1 : 1 ≤ s := by omega
  have hiN : i + 1 + s ≤ H.ws.length := by omega
  have kn := fun W hb => none_any b L H W (h.below hb)
  have ko := fun W hb => object_any b L H W (h.below hb) i (by omega) (by omega)
  have kv := fun W hb => value_any b L H W (h.below hb) k n h3 h4
  rw [hvk] at kv
  have e : objOf H (i : Int) = P := by unfold objOf; rw [if_pos hi, hP]
  rw [e, g3, hs] at ko
  obtain ⟨pk, hpk⟩ : ∃ pk, P.k = pk := ⟨_, rfl⟩
  rw [hpk] at ko hk
  have KN := Lib.hid kn; have KO := Lib.hid ko; have KV := Lib.hid kv
  have Hh := Lib.hid h
  have HiN := Lib.hid hiN
  obtain ⟨hv, hhv⟩ : ∃ v, headK 7 (s : Int) 0 = v := ⟨_, rfl⟩
  have hvr : -9223372036854775808 ≤ hv ∧ hv ≤ 9223372036854775807 := by rw [← hhv, headK_in (by omega) (by omega) (by omega) (by omega) (by omega) (by omega)]; omega
  have kh := fun W => head_any 7 s 0 W
  rw [hs]
  rw [hhv] at kh ⊢
  have KH := Lib.hid kh
  have HVr := Lib.hid hvr
  have hlt := h.blk.lt
  have hbg := h.bg
  have hglt := h.wd.lt
  have hNi : i < H.nur := by omega
  have hdn : decide ((H.nur : Int) ≤ (i : Int)) = false := by simp; omega
  have hne : ¬ H.ws.length = i + 1 := by have := h.opos; omega
  have HNl := Lib.hid hN
  have h34 := Lib.hid (And.intro h3 h4)
  clear kn ko kv h hN hP e g1 g2 g3 g4 hi hhv kh hpo hvr hw6 hs hvk hpk g h3 h4
  go_enter Try.func20, Try.ntmps20
  go_upto_region 1 with fail
  generalize hW0 : w.alloc (Obj.cells #[.int .i64 k, .int .i64 n] 32) = W0
  have B0 : Blk W0 w.heap.size #[.int .i64 k, .int .i64 n] := by rw [← hW0]; exact Blk.new w _ _
  have k0 : Below w.heap.size w W0 := by rw [← hW0]; ((repeat (first | exact Below.refl _ _ | (refine Below.alloc ?_ (by first | (simp [World.setCell]; done) | (simp [World.setCell]; omega)) _) | (refine Below.setCell ?_ (by first | (simp [World.setCell]; done) | (simp [World.setCell]; omega)) _) | refine Below.drew ?_)))
  have b0 := B0.cell
  clear hW0
  have hpk5 : (pk != 5 && pk != 6) = false := by rcases hk with rfl | rfl <;> rfl
  have c0 := fun W (hW : HInv W b L H) => hW.blk.cell
  unfold HL.cells at c0
  have C0 := Lib.hid c0
  clear c0
  rcases hk with rfl | rfl
  all_goals
    clear hpk5
    go_upto_region 8 with (first | (go_at_call 38; with_reducible refine (KN.out W0 k0).mono ?_; rintro e w1 ⟨rfl, rfl⟩) | (go_at_call 39; with_reducible refine (KO.out w1 k0).mono ?_; rintro e w2 ⟨rfl, nd, rfl⟩; have k1 := k0.trans (below_drewN' _ nd k0.size); have B1 := B0.drewN nd; have b1 := B1.cell) | (go_at_call 42; with_reducible refine (KV.out _ k1).mono ?_; rintro e w3 ⟨rfl, hb3⟩; have k3 := k1.trans (hb3.mono k1.size); have B3 := B1.below hb3 B1.lt; have b3 := B3.cell))
    have H3 := Hh.out.below k3
    have c3 := C0.out w3 H3
    obtain ⟨d1, d2⟩ := H3.cell (a := i) (by have := HiN.out; omega)
    have f3 := H3.wd.free
    have HH3 := Lib.hid H3
    have hiI : (i : Int) < (H.ws.length : Int) := by have := HiN.out; omega
    clear H3 b0 b1
    go_region_with (go_at_call 10; with_reducible refine (KH.out _).mono ?_; rintro e w4 ⟨rfl, rfl⟩)
  all_goals
    go_upto_region 9 with fail
    have q3 := HH3.out.setN (W := w3) (Off.of_below (Below.refl _ _)) rfl (i := i) (by have := HiN.out; omega) HVr.out
    generalize hW1 : (w3.setCell ⟨L.g, i * 2 + 1, none⟩ (.int .i64 hv)).drew = W1
    obtain ⟨ws1, hws1⟩ : ∃ ws1, H.ws.set i ((H.word i).1, hv) = ws1 := ⟨_, rfl⟩
    rw [hws1] at q3
    have H1 : HInv W1 b L (H.put ws1) := by rw [← hW1]; exact q3.1.drewN 1
    have O1 : Off (fun k => k = L.g) w3 W1 := by rw [← hW1]; exact ⟨q3.2.os, q3.2.tape, q3.2.output, q3.2.size, q3.2.block⟩
    have hgl3 : L.g < w.heap.size := hglt
    have B5 := O1.blk B3 (fun e => by omega)
    have BK5 := O1.blk HH3.out.blk (fun e => hbg e)
    have c5 := BK5.cell
    have HBK5 := Lib.hid BK5
    clear BK5
    unfold HL.cells at c5
    have hl1 : ws1.length = H.ws.length := by rw [← hws1]; simp
    have HL1 := Lib.hid hl1; have HWs1 := Lib.hid hws1; have HH1 := Lib.hid H1
    have hnum1 := H1.num
    have HNum1 := Lib.hid hnum1
    have hh1 := H1.wh
    have HHh := Lib.hid hh1
    have hw1 : IntKind.i64.wrap ((i : Int) + 1) = (i : Int) + 1 := IntWalk.i64_in _ (by omega)
    have hsN : s ≤ 16777216 := by have := HiN.out; have := HNl.out; omega
    have hw2 : IntKind.i64.wrap ((i : Int) + 1 + (s : Int)) = (i : Int) + 1 + (s : Int) := IntWalk.i64_in _ (by omega)
    obtain ⟨N, hNN⟩ : ∃ N, H.ws.length = N := ⟨_, rfl⟩
    have HNN := Lib.hid hNN
    rw [hNN] at hne c5 hiI
    have hiN2 : i + 1 + s ≤ N := by have := HiN.out; rw [HNN.out] at this; exact this
    clear hW1 q3 c3 d1 d2 f3 b3 hws1 hl1 H1 hnum1 hh1 hNN
    have hcl := run_clear_words W1 0 L.g (i + 1) s (N - (i + 1)) ws1 HHh.out (by rw [HL1.out, HNN.out]; exact hiN2) hs1
    generalize hW2 : W1.setRow L.g (flat (ws1.take (i + 1) ++ List.replicate s (0, 0) ++ ws1.drop (i + 1 + s))).toArray = W2 at hcl
    have HW2 := Lib.hid hW2
    clear hW2
    go_upto_region 10 with fail
    obtain ⟨ws2, hws2⟩ : ∃ ws2, ws1.take (i + 1) ++ List.replicate s (0, 0) ++ ws1.drop (i + 1 + s) = ws2 := ⟨_, rfl⟩
    have hl2 : ws2.length = ws1.length := by rw [← hws2]; simp; have := HL1.out; have := HNN.out; omega
    have hnum2 : ∀ x ∈ ws2, -9223372036854775808 ≤ x.2 ∧ x.2 ≤ 9223372036854775807 := by
      rw [← hws2]
      intro x hx
      simp only [List.mem_append, List.mem_replicate] at hx
      rcases hx with (hx | hx) | hx
      · exact HNum1.out x (List.mem_of_mem_take hx)
      · rw [hx.2]; exact ⟨by decide, by decide⟩
      · exact HNum1.out x (List.mem_of_mem_drop hx)
    have O2 : Off (fun k => k = L.g) W1 W2 := by rw [← HW2.out]; exact off_row (Off.of_below (Below.refl _ _)) _
    have H2 : HInv W2 b L (H.put ws2) := HH1.out.row (H := H.put ws1) hl2 hnum2 (by rw [← HW2.out, hws2]; exact setRow_heap _ _ _ _ _ _ HHh.out) O2
    have B6 := O2.blk B5 (fun e => by omega)
    have c6 := (O2.blk HBK5.out (fun e => hbg e)).cell
    unfold HL.cells at c6
    rw [HNN.out] at c6
    have b6 := B6.cell
    have hi2 : i + 1 < (H.put ws2).ws.length := by show i + 1 < ws2.length; rw [hl2, HL1.out, HNN.out]; omega
    obtain ⟨d3, d4⟩ := H2.cell hi2
    have f4 := H2.wd.free
    have HH2 := Lib.hid H2; have HI2 := Lib.hid hi2; have HWs2 := Lib.hid hws2
    have hi1I : (i : Int) + 1 < (N : Int) := by omega
    have O3 := O1.trans O2 (T := fun k => k = L.g) (fun _ h => h) (fun _ h => .inl h)
    have HO3 := Lib.hid O3
    clear hcl c5 hws2 hl2 hnum2 H2 hi2 O2 O3
    go_region_with fail
    all_goals
      go_wp2
      go_ret
      have q5 := HH2.out.set2 (W := W2) (Off.of_below (Below.refl _ _)) rfl HI2.out k h34.out
      have e5 : putWs H.ws i s (H.word i).1 hv (k, n) = ws2.set (i + 1) (k, n) := by unfold putWs; simp only [HWs1.out, HWs2.out]
      refine ⟨rfl, ?_, ?_⟩
      · rw [e5]; exact q5.1.drewN 1
      · have o5 := ((Off.of_below (S := fun k => k = L.g) k3).trans HO3.out (T := fun k => k = L.g) (fun _ h => h) (fun _ h => .inl h)).trans q5.2 (T := fun k => k = L.g) (fun _ h => h) (fun _ h => .inl h)
        exact ⟨o5.os, o5.tape, o5.output, o5.size, o5.block⟩

end Go.Proofs.Ytlmljommgmbckaa
