/- slices.Grow of nil, and slices.Concat of two lists of words: their walks. Conditions: at most 10^9 words. -/
import Derived.Test.YtlmljommgmbckaaHsB
import Derived.Lib.AppendZerosOnto
namespace Go.Proofs.Ytlmljommgmbckaa
open Go.RowKit

/-- append of words that can be read to words of one's own. -/
theorem append_more {w : World} {ops : Array Oper} {rest : List Oper} {o : Oper} {a : Act} {Q : Exit → Act → World → Prop} (hgd : o.guard = none) (s x : Operand) (t : TypeId)
    (ho : o.op = .call { callee := .builtin .append, args := #[s, x], argTypes := #[t, t] }) (i : TypeInfo) (ht : Try.prog.underlying t = some (.slice 32)) (hi : Try.prog.info? 32 = some i)
    (hz : i.zero = some (.agg #[.int .i64 0, .int .i64 0])) (hsize : i.size = 2) (hby : i.bytes = 16) (base : Nat) (v1 : Value) (us : List Wd) (hs : a.eval s = v1) (hown : WOwn w base v1 us)
    (hbase : base ≤ w.heap.size) (v : Value) (hx : a.eval x = v) (ws : List Wd) (hw : WAt w v ws) (hv : v = .slice none 0 0 ∨ ∃ p n c, v = .slice (some p) n c) (hl : us.length + ws.length ≤ 1000000000000)
    (h : ∀ p c w', WOwn w' base (.slice p (us ++ ws).length c) (us ++ ws) → w.grownBy w' v1.ownBlock → wpList Try.prog ops Q rest (a.put o.dst (.slice p (us ++ ws).length c)) w') : wpList Try.prog ops Q (o :: rest) a w := by
  rcases hv with rfl | ⟨p, n, c, rfl⟩
  · obtain ⟨_, _, e, _⟩ := hw
    have hw0 : ws = [] := by
      simp only [Value.slice.injEq] at e
      exact List.length_eq_zero_iff.1 e.2.1.symm
    subst hw0
    rw [List.append_nil] at h
    obtain ⟨p1, c1, rfl⟩ := own_shape hown
    exact wpList_append_own_none hgd s x t ho base 32 i 2 ht hi _ us.length (flat us) hs hown hx (h _ _ w hown (World.grownBy.refl _ _))
  · obtain ⟨a', cap, e, hc⟩ := hw
    simp only [Value.slice.injEq] at e
    obtain ⟨rfl, rfl, rfl⟩ := e
    refine wpList_append_own _ hgd s x t ho base 32 i _ 2 16 ht hi hz hsize hby rfl (by decide) v1 us.length (flat us) hs hown p ws.length c (flat ws) hx (flat_len ws) (fun j u hj => ?_) (flat_one ws) (by unfold maxLen; omega) (by omega) hbase (fun v' w' h1 h2 _ => ?_)
    · have hlt : 0 < ws.length := by
        rcases ws with _ | ⟨x, xs⟩
        · simp [flat] at hj
        · simp
      obtain ⟨b, o, hh, h2, h3⟩ := hc hlt
      cases hh
      have := h3 j u hj
      cases j with
      | zero => simpa [Addr.add] using this
      | succ j => simpa [Addr.add] using this
    · have h1' : WOwn w' base v' (us ++ ws) := by
        show World.ownsRow _ _ _ _ _ _ _
        rw [List.length_append, flat_append]
        exact h1
      obtain ⟨p1, c1, rfl⟩ := own_shape h1'
      exact h _ _ w' h1' h2

theorem wpList_append_run {w : World} {ops : Array Oper} {rest : List Oper} {o : Oper} {a : Act} {Q : Exit → Act → World → Prop} (hgd : o.guard = none) (s x : Operand) (t1 t2 : TypeId) (ho : o.op = .call { callee := .builtin .append, args := #[s, x], argTypes := #[t1, t2] })
    (v1 v2 v : Value) (w' : World) (hs : a.eval s = v1) (hx : a.eval x = v2) (hrun : (Builtin.append_ #[t1, t2] o.type #[v1, v2]).run Try.prog w = .ok v w') (h : wpList Try.prog ops Q rest (a.put o.dst v) w') : wpList Try.prog ops Q (o :: rest) a w := by
  refine wpList_plain hgd fun K hK => ?_
  unfold Oper.wp
  simp only [execOp, ho, resolve, invoke, builtin, Sem.run_bind, Sem.run_pure, Result.andThen_ok, List.map_toArray, List.map_cons, List.map_nil, hs, hx, hrun]
  exact hK _ _ h

set_option maxRecDepth 100000 in
set_option maxHeartbeats 4000000 in
theorem grow_any (n : Nat) (w : World) (hn : n ≤ 1000000000) :
    Calls Try.prog 55 #[.slice none 0 0, .int .i64 n] w fun e w' => ∃ v, e = .returned v ∧ WOwn w' w.heap.size v [] ∧ Below w.heap.size w w' := by
  obtain ⟨i0, hi, hz0, hz1, hz2⟩ := info_parts infoW
  have hw1 : IntKind.i64.wrap ((n : Int) - 0) = n := by rw [Int.sub_zero]; exact IntWalk.i64_in _ (by omega)
  have hn0 : decide ((n : Int) < 0) = false := by simp
  by_cases c : n = 0
  · subst c
    go_enter Try.func55, Try.ntmps55
    go_wp2
    go_ret
    exact ⟨_, rfl, World.ownsRow_nil _ _ _ _, Below.refl _ _⟩
  · have hd : decide (0 < (n : Int)) = true := by simp; omega
    have hd2 : decide (0 < n) = true := by simp; omega
    have hrun := fun ty => Lib.run_append_grow_zeros (P := Try.prog) w 33 3 ty 32 i0 _ .i64 .i64 Try.underlying33 Try.underlying3 hi hz0 none 0 0 [] (run_firstCells_none w.drew i0.size 0 0 0) n (by omega) (by omega) (by omega) (by omega) (by rw [hz2]; omega) (growslice_fits (by omega) (by rw [hz2]; omega))
    have hge := grownCap_ge w (0 + n) 0 32
    have hle := grownCap_le_maxLen w (0 + n) 0 32 (by unfold maxLen; omega)
    rw [Nat.zero_add] at hrun hge hle
    obtain ⟨G, hG⟩ : ∃ G, grownCap w n 0 32 = G := ⟨_, rfl⟩
    rw [hG] at hrun hge hle
    have hle' := hle
    unfold maxLen at hle'
    have hsz : (([].toArray ++ Builtin.zeroCells (Value.agg #[.int .i64 0, .int .i64 0]).cells n ++ Builtin.zeroCells (Value.agg #[.int .i64 0, .int .i64 0]).cells (G - n)) : Array Value).size = G * 2 := by
      simp only [List.size_toArray, List.length_nil, Array.size_append, size_zeroCells]
      show 0 + n * 2 + (G - n) * 2 = G * 2
      omega
    generalize ([].toArray ++ Builtin.zeroCells (Value.agg #[.int .i64 0, .int .i64 0]).cells n ++ Builtin.zeroCells (Value.agg #[.int .i64 0, .int .i64 0]).cells (G - n) : Array Value) = A at hrun hsz
    have HSz := Lib.hid hsz
    have HR := Lib.hid hrun
    clear hG hsz hrun
    go_enter Try.func55, Try.ntmps55
    go_wp2_with (at_builtin; refine wpList_append_run rfl _ _ _ _ rfl (.slice none 0 0) (.int .i64 (n : Int)) _ _ rfl rfl (HR.out _) ?_)
    go_ret
    exact ⟨_, rfl, World.ownsRow_made (w := w.drew) (base := w.heap.size) A G (Nat.le_refl _) hle HSz.out, ((Below.refl _ _).drew).alloc (by simp) _⟩

set_option maxRecDepth 100000 in
set_option maxHeartbeats 4000000 in
theorem concat_any (g : Nat) (p1 p2 : Option Addr) (m1 c1 m2 c2 : Nat) (us1 us2 : List Wd) (w : World) (hB : Blk w g #[.slice p1 m1 c1, .slice p2 m2 c2]) (h1 : WAt w (.slice p1 m1 c1) us1) (h2 : WAt w (.slice p2 m2 c2) us2) (e1 : us1.length = m1) (e2 : us2.length = m2)
    (v1 : p1 = none → c1 = 0) (v2 : p2 = none → c2 = 0) (l1 : m1 ≤ 10000000) (l2 : m2 ≤ 10000000) :
    Calls Try.prog 47 #[.slice (some ⟨g, 0, none⟩) 2 2] w fun e w' => ∃ p c, e = .returned (.slice p (us1 ++ us2).length c) ∧ WOwn w' w.heap.size (.slice p (us1 ++ us2).length c) (us1 ++ us2) ∧ Below w.heap.size w w' := by
  obtain ⟨i0, hi, hz0, hz1, hz2⟩ := info_parts infoW
  have c0 := hB.cell 0
  have c1' := hB.cell 1
  have kg := fun W => grow_any (m1 + m2) W (by omega)
  rw [show (((m1 + m2 : Nat) : Nat) : Int) = (m1 : Int) + (m2 : Int) by omega] at kg
  have hw1 : IntKind.i64.wrap ((m1 : Int) + (m2 : Int)) = (m1 : Int) + (m2 : Int) := IntWalk.i64_in _ (by omega)
  have hw2 : IntKind.i64.wrap (0 + (m1 : Int)) = (m1 : Int) := by rw [Int.zero_add]; exact IntWalk.i64_in _ (by omega)
  have d1 : decide ((m1 : Int) < 0) = false := by simp
  have d2 : decide ((m1 : Int) + (m2 : Int) < 0) = false := by simp; omega
  have hv1 : Value.slice p1 m1 c1 = .slice none 0 0 ∨ ∃ p n c, Value.slice p1 m1 c1 = .slice (some p) n c := by
    cases p1 with
    | none =>
      left
      obtain ⟨a, c, e, hc⟩ := h1
      cases e
      have : us1.length = 0 := by
        rcases Nat.eq_zero_or_pos us1.length with q | q
        · exact q
        · obtain ⟨b, o, q1, _⟩ := hc q; cases q1
      rw [v1 rfl, this]
    | some q => exact .inr ⟨_, _, _, rfl⟩
  have hv2 : Value.slice p2 m2 c2 = .slice none 0 0 ∨ ∃ p n c, Value.slice p2 m2 c2 = .slice (some p) n c := by
    cases p2 with
    | none =>
      left
      obtain ⟨a, c, e, hc⟩ := h2
      cases e
      have : us2.length = 0 := by
        rcases Nat.eq_zero_or_pos us2.length with q | q
        · exact q
        · obtain ⟨b, o, q1, _⟩ := hc q; cases q1
      rw [v2 rfl, this]
    | some q => exact .inr ⟨_, _, _, rfl⟩
  have KG := Lib.hid kg; have H1 := Lib.hid h1; have H2 := Lib.hid h2; have E1 := Lib.hid e1; have E2 := Lib.hid e2; have V1 := Lib.hid hv1; have V2 := Lib.hid hv2; have HB := Lib.hid hB
  clear kg h1 h2 e1 e2 hv1 hv2 v1 v2
  go_enter Try.func47, Try.ntmps47
  go_wp2
  go_loopw [11, 3] (fun i s wr => wr = w ∧ ((i = .int .i64 0 ∧ s = .int .i64 0) ∨ (i = .int .i64 1 ∧ s = .int .i64 (m1 : Int)) ∨ (i = .int .i64 2 ∧ s = .int .i64 ((m1 : Int) + (m2 : Int))))) (fun i _ _ => 2 - (intOf i).toNat)
  case atStart => exact ⟨rfl, .inl ⟨rfl, rfl⟩⟩
  case round =>
    obtain ⟨hwr, hrel⟩ := hrel
    replace hwr := hwr.symm
    subst hwr
    rcases hrel with ⟨rfl, rfl⟩ | ⟨rfl, rfl⟩ | ⟨rfl, rfl⟩
    · go_wp2
      go_roundw
      case rel => simp
      case measure => simp [intOf]
    · go_wp2
      go_roundw
      case rel => simp
      case measure => simp [intOf]
    · clear c0 c1'
      go_wp2_with (go_at_call 55; with_reducible refine (KG.out _).mono ?_; rintro e w1 ⟨v, rfl, o1, hb1⟩)
      go_loopw [27, 6] (fun i v wr => Below w.heap.size w wr ∧ ((i = .int .i64 0 ∧ WOwn wr w.heap.size v []) ∨ (i = .int .i64 1 ∧ WOwn wr w.heap.size v us1) ∨ (i = .int .i64 2 ∧ WOwn wr w.heap.size v (us1 ++ us2)))) (fun i _ _ => 2 - (intOf i).toNat)
      case atStart => exact ⟨hb1, .inl ⟨rfl, o1⟩⟩
      case round =>
        clear o1 hb1
        obtain ⟨hb, hrel⟩ := hrel
        have B2 := HB.out.below hb HB.out.lt
        have c0 := B2.cell 0
        have c1' := B2.cell 1
        rcases hrel with ⟨rfl, o⟩ | ⟨rfl, o⟩ | ⟨rfl, o⟩
        · have HO := Lib.hid o; have hs := hb.size
          clear o
          go_wp2_with (at_builtin; refine append_more rfl _ _ 33 rfl i0 Try.underlying33 hi hz0 hz1 hz2 w.heap.size _ [] rfl HO.out hs (.slice p1 m1 c1) rfl us1 (H1.out.below hb (Nat.le_refl _)) V1.out (by have := E1.out; simp; omega) ?_)
          intro p6 c6 w6 o6 g6
          go_wp2
          go_roundw
          case rel => exact ⟨hb.grown g6 hs (fun i e => own_from HO.out i e), .inr (.inl ⟨rfl, o6⟩)⟩
          case measure => simp [intOf]
        · have HO := Lib.hid o; have hs := hb.size
          clear o
          go_wp2_with (at_builtin; refine append_more rfl _ _ 33 rfl i0 Try.underlying33 hi hz0 hz1 hz2 w.heap.size _ us1 rfl HO.out hs (.slice p2 m2 c2) rfl us2 (H2.out.below hb (Nat.le_refl _)) V2.out (by have := E1.out; have := E2.out; omega) ?_)
          intro p6 c6 w6 o6 g6
          go_wp2
          go_roundw
          case rel => exact ⟨hb.grown g6 hs (fun i e => own_from HO.out i e), .inr (.inr ⟨rfl, o6⟩)⟩
          case measure => simp [intOf]
        · obtain ⟨p, c, rfl⟩ := own_shape o
          have HO := Lib.hid o
          clear o
          go_wp2
          go_ret
          exact ⟨p, c, rfl, HO.out, hb⟩

end Go.Proofs.Ytlmljommgmbckaa
