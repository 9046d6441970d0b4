/- Contracts of kit.Tokens, lex.Join and the document's Join over tokens of any kind. lex.Join and the document's Join over tokens of any kind. -/
import Derived.Test.YtiflklmjmdhfoaaDoorLcC
import Derived.Laws.MakeOwn
namespace Go.Proofs.YtiflklmjmdhfoaaDoor
open Go.RowKit Go.Shelf
set_option linter.unusedSimpArgs false
set_option linter.unusedVariables false

def gflat (gs : List GT) : List Value := gs.flatMap GT.cells
theorem gflat_len : ∀ gs : List GT, (gflat gs).length = gs.length * 7
  | [] => rfl
  | x :: gs => by
    have := gflat_len gs
    simp only [gflat, List.flatMap_cons, List.length_append, List.length_cons] at this ⊢
    rw [this]; simp [GT.cells]; omega
theorem gflat_get : ∀ (gs : List GT) (k : Nat) (x : GT) (h : gs[k]? = some x) (j : Nat), j < 7 → (gflat gs)[k * 7 + j]? = x.cells[j]?
  | y :: gs, 0, x, h, j, hj => by
    cases h
    simp only [gflat, List.flatMap_cons, Nat.zero_mul, Nat.zero_add]
    exact List.getElem?_append_left (by simpa [GT.cells] using hj)
  | y :: gs, k + 1, x, h, j, hj => by
    have e : gflat (y :: gs) = y.cells ++ gflat gs := by simp [gflat]
    rw [e, List.getElem?_append_right (by simp [GT.cells]; omega)]
    have : (k + 1) * 7 + j - y.cells.length = k * 7 + j := by simp [GT.cells]; omega
    rw [this]
    exact gflat_get gs k x (by simpa using h) j hj
theorem gflat_split (gs : List GT) (j : Nat) (u : Value) (h : (gflat gs)[j]? = some u) : ∃ x, gs[j / 7]? = some x ∧ x.cells[j % 7]? = some u := by
  have hl : j < gs.length * 7 := by
    have := (List.getElem?_eq_some_iff.1 h).1
    rwa [gflat_len] at this
  have hk : j / 7 < gs.length := by omega
  refine ⟨_, List.getElem?_eq_getElem hk, ?_⟩
  have := gflat_get gs (j / 7) _ (List.getElem?_eq_getElem hk) (j % 7) (by omega)
  rw [← this, show j / 7 * 7 + j % 7 = j by omega]
  exact h
theorem gflat_one (gs : List GT) : ∀ u ∈ gflat gs, u.oneCell' = true := by
  intro u hu
  obtain ⟨x, _, hx⟩ := List.mem_flatMap.1 hu
  simp only [GT.cells, List.mem_cons, List.not_mem_nil, or_false] at hx
  rcases hx with rfl | rfl | rfl | rfl | rfl | rfl | rfl <;> rfl
theorem infoTok : (Tryd.prog.info? 30).map (fun i => (i.zero, i.size, i.bytes)) = some (some (.agg #[.int .i64 0, .string ⟨#[]⟩, .int .i64 0, .int .i64 0, .int .i64 0, .int .i64 0, .bool false]), 7, 64) := by kernel_rfl

theorem own_grd {W : World} {base : Nat} {v : Value} {gs : List GT} (h : W.ownsRow base 30 7 v gs.length (gflat gs)) : GRd W v gs := by
  have h0 := h
  rcases h.2 with ⟨rfl, h1⟩ | ⟨g, cap, cur, rfl, hg, hb, _⟩
  · exact ⟨none, 0, by rw [h1], fun h => by omega⟩
  · refine ⟨_, cap, rfl, fun _ => ⟨g, 0, rfl, (Array.getElem?_eq_some_iff.1 hb).1, fun k x hx j c hj => ?_⟩⟩
    have hj7 : j < 7 := by
      have := (List.getElem?_eq_some_iff.1 hj).1
      simpa [GT.cells] using this
    have := h0.cells (g := g) rfl (k * 7 + j) c (by rw [gflat_get gs k x hx j hj7]; exact hj)
    rw [Nat.zero_add]
    cases hm : k * 7 + j with
    | zero => rw [hm] at this; simpa [Addr.add] using this
    | succ m => rw [hm] at this; simpa [Addr.add] using this

theorem append_toks {w : World} {ops : Array Oper} {rest : List Oper} {o : Oper} {a : Act} {Q : Exit → Act → World → Prop} (hgd : o.guard = none) (s x : Operand) (t : TypeId)
    (ho : o.op = .call { callee := .builtin .append, args := #[s, x], argTypes := #[t, t] }) (i : TypeInfo) (ht : Tryd.prog.underlying t = some (.slice 30)) (hi : Tryd.prog.info? 30 = some i)
    (hz : i.zero = some (.agg #[.int .i64 0, .string ⟨#[]⟩, .int .i64 0, .int .i64 0, .int .i64 0, .int .i64 0, .bool false])) (hsize : i.size = 7) (hby : i.bytes = 64) (base g cap : Nat) (hs : a.eval s = .slice (some ⟨g, 0, none⟩) 0 cap) (hown : w.ownsRow base 30 7 (.slice (some ⟨g, 0, none⟩) 0 cap) 0 [])
    (hbase : base ≤ w.heap.size) (v : Value) (hx : a.eval x = v) (gs : List GT) (hw : GRd w v gs) (hv : v = .slice none 0 0 ∨ ∃ p n c, v = .slice (some p) n c) (hl : gs.length ≤ 1000000)
    (h : ∀ v' w', w'.ownsRow base 30 7 v' gs.length (gflat gs) → w.grownBy w' (some g) → wpList Tryd.prog ops Q rest (a.put o.dst v') w') : wpList Tryd.prog ops Q (o :: rest) a w := by
  have hg0 : w.grownBy w (some g) := World.grownBy.refl _ _
  rcases hv with rfl | ⟨p, n, c, rfl⟩
  · obtain ⟨_, _, e, _⟩ := hw
    have hw0 : gs = [] := by
      simp only [Value.slice.injEq] at e
      exact List.length_eq_zero_iff.1 e.2.1.symm
    subst hw0
    exact wpList_append_own_none hgd s x t ho base 30 i 7 ht hi _ 0 [] hs hown hx (h _ w hown hg0)
  · obtain ⟨a', cap', e, hc⟩ := hw
    simp only [Value.slice.injEq] at e
    obtain ⟨rfl, rfl, rfl⟩ := e
    refine wpList_append_own _ hgd s x t ho base 30 i _ 7 64 ht hi hz hsize hby rfl (by decide) _ 0 [] hs hown p gs.length c (gflat gs) hx (gflat_len gs) (fun j u hj => ?_) (gflat_one gs) (by unfold maxLen; omega) (by omega) hbase (fun v' w' h1 h2 _ => ?_)
    · obtain ⟨x, hk, hxj⟩ := gflat_split gs j u hj
      have hlt : 0 < gs.length := by
        have := (List.getElem?_eq_some_iff.1 hk).1
        omega
      obtain ⟨b, o, hh, h2, h3⟩ := hc hlt
      cases hh
      have := h3 _ _ hk _ _ hxj
      rw [add_eq, show o + j = o + j / 7 * 7 + j % 7 by omega]
      exact this
    · have h1' : w'.ownsRow base 30 7 v' gs.length (gflat gs) := by simpa using h1
      exact h v' w' h1' h2

set_option maxRecDepth 100000 in
set_option maxHeartbeats 8000000 in
theorem tokens_any (v : Value) (gs : List GT) (w : World) (h : GRd w v gs) (hv : v = .slice none 0 0 ∨ ∃ p n c, v = .slice (some p) n c) (hn : gs.length ≤ 100000) :
    Calls Tryd.prog 18 #[v] w fun e w' => ∃ v', e = .returned v' ∧ GRd w' v' gs ∧ Below w.heap.size w w' := by
  obtain ⟨i0, hinf, hz0, hz1, hz2⟩ := info_parts infoTok
  obtain ⟨w1, hmk, own1, hg1⟩ := run_make_own (P := Tryd.prog) w w.heap.size 23 30 i0 _ 7 Tryd.underlying23 hinf hz0 hz1 .i64 .i64 (gs.length + 2) (by rw [hz2]; omega) (by unfold maxLen; omega) (Nat.le_refl _)
  have hB1 : Below w.heap.size w w1 := grown_below (v := .slice none 0 0) (e := 30) (size := 7) (n := 0) (base := w.heap.size) (xs := []) (Below.refl _ _) hg1 (World.ownsRow_nil _ _ _ _) (Nat.le_refl _) (Nat.le_refl _)
  have h1 := h.below hB1
  obtain ⟨a, cap, rfl, _⟩ := h
  obtain ⟨N, hN⟩ : ∃ N, gs.length = N := ⟨_, rfl⟩
  have hi : IntKind.i64.wrap ((N : Int) + 2) = (N : Int) + 2 := IntWalk.i64_in _ (by omega)
  rw [hN, show ((N + 2 : Nat) : Int) = (N : Int) + 2 by omega] at hmk
  rw [hN] at own1 h1 hv ⊢
  have hNl : gs.length ≤ 1000000 := by omega
  have Hlen := Lib.hid hN
  clear hN
  go_enter Tryd.func18, Tryd.ntmps18
  go_wp2_with (at_builtin; refine append_toks rfl _ _ 23 rfl i0 Tryd.underlying23 hinf hz0 hz1 hz2 w.heap.size w.heap.size (N + 2) rfl own1 hB1.size _ rfl gs h1 hv hNl ?_; intro v3 w3 own3 hgrow3; have hB3 := grown_below hB1 hgrow3 own1 hB1.size (Nat.le_refl _))
  go_ret
  exact ⟨_, rfl, own_grd own3, hB3⟩
end Go.Proofs.YtiflklmjmdhfoaaDoor

namespace Go.Proofs.YtiflklmjmdhfoaaDoor
open Go.RowKit Go.Shelf
set_option linter.unusedSimpArgs false
set_option linter.unusedVariables false

def gtx (x : GT) : List UInt8 := txtI x.kind x.num x.text.data.toList
theorem gat {W W' : World} {b o k : Nat} {gs : List GT} (hat : ∀ k x, gs[k]? = some x → ∀ j c, x.cells[j]? = some c → W.cell? ⟨b, o + k * 7 + j, none⟩ = some c) (key : ∀ o, W'.cell? ⟨b, o, none⟩ = W.cell? ⟨b, o, none⟩) (x : GT) (hx : gs[k]? = some x) :
    W'.cell? ⟨b, o + k * 7, none⟩ = some (.int .i64 x.kind) ∧ W'.cell? ⟨b, o + k * 7 + 1, none⟩ = some (.string x.text) ∧ W'.cell? ⟨b, o + k * 7 + 2, none⟩ = some (.int .i64 x.num) ∧ W'.cell? ⟨b, o + k * 7 + 3, none⟩ = some (.int .i64 x.at_) ∧ W'.cell? ⟨b, o + k * 7 + 4, none⟩ = some (.int .i64 x.line) ∧ W'.cell? ⟨b, o + k * 7 + 5, none⟩ = some (.int .i64 x.col) ∧ W'.cell? ⟨b, o + k * 7 + 6, none⟩ = some (.bool x.first) :=
  ⟨(key _).trans (hat k x hx 0 _ rfl), (key _).trans (hat k x hx 1 _ rfl), (key _).trans (hat k x hx 2 _ rfl), (key _).trans (hat k x hx 3 _ rfl), (key _).trans (hat k x hx 4 _ rfl), (key _).trans (hat k x hx 5 _ rfl), (key _).trans (hat k x hx 6 _ rfl)⟩
theorem rtext_known (kind num : Int) (u : ByteArray) (x3 x4 x5 : Int) (x6 : Bool) (r : List UInt8) (hr : txtI kind num u.data.toList = r) (w : World) (hu : u.size ≤ 1000000) (hn : num ≤ 9223372036854775807) :
    Calls Tryd.prog 17 #[.agg #[.int .i64 kind, .string u, .int .i64 num, .int .i64 x3, .int .i64 x4, .int .i64 x5, .bool x6]] w fun e w' => e = .returned (.string ⟨r.toArray⟩) ∧ Below w.heap.size w w' := by
  rw [← hr]; exact rtext_of kind num u x3 x4 x5 x6 w hu hn

set_option maxRecDepth 100000 in
set_option maxHeartbeats 8000000 in
theorem gjoin_any (v : Value) (gs : List GT) (w : World) (h : GRd w v gs) (hn : gs.length ≤ 100000) (hu : ∀ x ∈ gs, x.text.size ≤ 100000 ∧ x.num ≤ 9223372036854775807) (hz : (joinL (gs.map gtx)).length ≤ 1000000000000) (ht : Tab w) :
    Calls Tryd.prog 19 #[v] w fun e w' => e = .returned (.string ⟨(joinL (gs.map gtx)).toArray⟩) ∧ Below w.heap.size w w' := by
  obtain ⟨a, cap, rfl, hc⟩ := h
  obtain ⟨i0, hinf, hz0, hz1, hz2⟩ := info_parts infoS
  obtain ⟨N, hN⟩ : ∃ N, gs.length = N := ⟨_, rfl⟩
  have HN := Lib.hid hN
  have Hc := Lib.hid hc
  have Hu := Lib.hid hu
  have Hz := Lib.hid hz
  have Htb := Lib.hid ht
  rw [hN] at hn ⊢
  clear hN hc hu hz ht
  go_enter Tryd.func19, Tryd.ntmps19
  go_wp2
  go_loopw [3, 8] (fun x i wr => ∃ k : Nat, i = .int .i64 k ∧ k ≤ N ∧ wr.ownsRow w.heap.size 9 1 x k (strs ((gs.take k).map gtx)) ∧ Below w.heap.size w wr) (fun _ i _ => N - (intOf i).toNat)
  case atStart => exact ⟨0, rfl, Nat.zero_le _, World.ownsRow_nil _ _ _ _, Below.refl _ _⟩
  case round =>
    obtain ⟨k, rfl, hk, hown, hB⟩ := hrel
    by_cases hlt : k < N
    · have hlt2 : decide ((k : Int) < (N : Int)) = true := by simp; omega
      have hlt3 : decide (k < N) = true := by simp; omega
      have hkl : k < gs.length := by rw [HN.out]; exact hlt
      obtain ⟨b, o, rfl, hbl, hat⟩ := Hc.out (by omega)
      have key : ∀ o, wr.cell? ⟨b, o, none⟩ = w.cell? ⟨b, o, none⟩ := fun o => hB.cell (p := ⟨b, o, none⟩) hbl
      have hnext : strs ((gs.take (k + 1)).map gtx) = strs ((gs.take k).map gtx) ++ [.string ⟨(gtx gs[k]).toArray⟩] := by
        unfold strs
        rw [List.take_succ_eq_append_getElem hkl, List.map_append, List.map_append]
        rfl
      obtain ⟨u1, u2⟩ := Hu.out gs[k] (List.getElem_mem hkl)
      obtain ⟨c0, c1, c2, c3, c4, c5, c6⟩ := gat hat key gs[k] (List.getElem?_eq_getElem hkl)
      generalize gs[k] = x at c0 c1 c2 c3 c4 c5 c6 hnext u1 u2
      obtain ⟨tk, tt, tn, pa, pl, pc, pf⟩ := x
      simp only [gtx] at c0 c1 c2 c3 c4 c5 c6 hnext u1 u2
      obtain ⟨r, hr⟩ : ∃ r, txtI tk tn tt.data.toList = r := ⟨_, rfl⟩
      have Ht := Lib.hid (fun w ht => text_known tk tn tt pa pl pc pf r hr w (by omega) u2 ht)
      rw [hr] at hnext
      have Hnext := Lib.hid hnext
      have hBa := hB.alloc hB.size (.cells #[.int .i64 tk, .string tt, .int .i64 tn, .int .i64 pa, .int .i64 pl, .int .i64 pc, .bool pf] 30)
      have hta := Tab.on Htb.out hBa
      have Hta := Lib.hid hta
      clear hnext hr hat key hta u1 u2
      go_wp2_with (first | (go_at_call 16; refine (Ht.out _ Hta.out).mono ?_; rintro e w1 ⟨rfl, b1⟩; have own1 := own_on (hown.alloc _) b1 (own_lt (hown.alloc _)); have hB1 := chain hBa b1) | (at_builtin; refine wpList_append_own _ rfl _ _ 32 rfl w.heap.size 9 i0 (.string ⟨#[]⟩) 1 16 Tryd.underlying32 hinf hz0 hz1 hz2 rfl (by decide) _ _ _ rfl (own1.alloc _) ⟨w1.heap.size, 0, none⟩ 1 1 [.string ⟨r.toArray⟩] rfl rfl (cells_new w1 _ _) (by simp [Value.oneCell']) (by unfold maxLen; omega) (by omega) (by have := hB1.size; simp; omega) ?_; intro v3 w3 own3 hgrow3 _; have hB3 := grown_below (hB1.alloc hB1.size _) hgrow3 (own1.alloc _) (by have := hB1.size; simp; omega) (Nat.le_refl _)))
      go_roundw
      case rel => exact ⟨k + 1, by go_num, by omega, by rw [Hnext.out]; exact own3, hB3⟩
      case measure => simp [intOf]; omega
    · have hlt2 : decide ((k : Int) < (N : Int)) = false := by simp; omega
      have hlt3 : decide (k < N) = false := by simp; omega
      have hkN : k = N := by omega
      have hall : gs.take k = gs := List.take_of_length_le (by rw [HN.out]; omega)
      rw [hall] at hown
      obtain ⟨va, vc, rfl⟩ := own_shape hown
      have hown' : wr.ownsRow w.heap.size 9 1 (.slice va k vc) (gs.map gtx).length (strs (gs.map gtx)) := by
        rw [List.length_map, HN.out, ← hkN]; exact hown
      have Hj := Lib.hid (join_strs wr w.heap.size _ _ hown' (by rw [List.length_map, HN.out]; omega) Hz.out)
      clear hall hown hown' hkN
      go_wp2_with (go_at_call 41; refine Hj.out.mono ?_; rintro e w1 ⟨rfl, b1⟩)
      go_ret
      exact ⟨rfl, chain hB b1⟩

theorem joinL_snoc : ∀ (l : List (List UInt8)) (x : List UInt8), joinL (l ++ [x]) = if l = [] then x else joinL l ++ 32 :: x
  | [], x => by simp [joinL, Lib.join, List.intercalate]
  | [y], x => by
    rw [if_neg (by simp)]
    show joinL [y, x] = _
    rw [join_cons]
    simp [joinL, Lib.join, List.intercalate]
  | y :: z :: l, x => by
    have ih := joinL_snoc (z :: l) x
    rw [if_neg (by simp)] at ih ⊢
    rw [List.cons_append, List.cons_append, join_cons, ← List.cons_append, ih, join_cons]
    simp
theorem str_cells (r : List UInt8) : Lib.strCells ⟨r.toArray⟩ = bV r := by simp [Lib.strCells, bV]

theorem joinL_le (B : Nat) : ∀ l : List (List UInt8), (∀ x ∈ l, x.length ≤ B) → (joinL l).length ≤ l.length * (B + 1) := fun l h => Nat.le_trans (joinL_len l) (by
  induction l with
  | nil => simp
  | cons x l ih =>
    have h1 := h x (by simp)
    have h2 := ih fun y hy => h y (List.mem_cons_of_mem _ hy)
    rw [List.map_cons, List.sum_cons, List.length_cons, Nat.add_mul]; omega)

set_option maxRecDepth 100000 in
set_option maxHeartbeats 8000000 in
theorem rjoin_any (v : Value) (gs : List GT) (w : World) (h : GRd w v gs) (hn : gs.length ≤ 300) (hu : ∀ x ∈ gs, x.text.size ≤ 4000 ∧ x.num ≤ 9223372036854775807 ∧ (gtx x).length ≤ 200000) :
    Calls Tryd.prog 20 #[v] w fun e w' => e = .returned (.string ⟨(joinL (gs.map gtx)).toArray⟩) ∧ Below w.heap.size w w' := by
  obtain ⟨a, cap, rfl, hc⟩ := h
  obtain ⟨i0, hinf, hz0, hz1, hz2⟩ := info_parts info5
  obtain ⟨N, hN⟩ : ∃ N, gs.length = N := ⟨_, rfl⟩
  have HN := Lib.hid hN
  have Hc := Lib.hid hc
  have Hu := Lib.hid hu
  rw [hN] at hn ⊢
  clear hN hc hu
  go_enter Tryd.func20, Tryd.ntmps20
  go_wp2
  go_loopw [3, 4] (fun x i wr => ∃ k : Nat, i = .int .i64 k ∧ k ≤ N ∧ BOwn wr w.heap.size x (joinL ((gs.take k).map gtx)) ∧ Below w.heap.size w wr) (fun _ i _ => N - (intOf i).toNat)
  case atStart => exact ⟨0, rfl, Nat.zero_le _, World.ownsRow_nil _ _ _ _, Below.refl _ _⟩
  case round =>
    obtain ⟨k, rfl, hk, hown, hB⟩ := hrel
    have hlen := joinL_le 200000 ((gs.take k).map gtx) (fun y hy => by
      obtain ⟨x, hx, rfl⟩ := List.mem_map.1 hy
      exact (Hu.out x (List.mem_of_mem_take hx)).2.2)
    rw [List.length_map, List.length_take] at hlen
    have hlen2 : (joinL ((gs.take k).map gtx)).length ≤ 300 * 200001 := Nat.le_trans hlen (Nat.mul_le_mul_right _ (by omega))
    clear hlen
    have hB8 := hB.size
    by_cases hlt : k < N
    · have hlt2 : decide ((k : Int) < (N : Int)) = true := by simp; omega
      have hlt3 : decide (k < N) = true := by simp; omega
      have hkl : k < gs.length := by rw [HN.out]; exact hlt
      obtain ⟨b, o, rfl, hbl, hat⟩ := Hc.out (by omega)
      have key : ∀ o, wr.cell? ⟨b, o, none⟩ = w.cell? ⟨b, o, none⟩ := fun o => hB.cell (p := ⟨b, o, none⟩) hbl
      have hnext : joinL ((gs.take (k + 1)).map gtx) = if k = 0 then gtx gs[k] else joinL ((gs.take k).map gtx) ++ 32 :: gtx gs[k] := by
        rw [List.take_succ_eq_append_getElem hkl, List.map_append, List.map_singleton, joinL_snoc]
        have : (List.map gtx (List.take k gs) = []) = (k = 0) := by
          rw [List.map_eq_nil_iff, List.take_eq_nil_iff]
          simp only [eq_iff_iff]
          constructor
          · rintro (h | h)
            · exact h
            · rw [h] at hkl; simp at hkl
          · exact .inl
        simp only [this]
      obtain ⟨u1, u2, u3⟩ := Hu.out gs[k] (List.getElem_mem hkl)
      obtain ⟨c0, c1, c2, c3, c4, c5, c6⟩ := gat hat key gs[k] (List.getElem?_eq_getElem hkl)
      have hX := List.getElem?_eq_getElem hkl
      generalize gs[k] = x at c0 c1 c2 c3 c4 c5 c6 hnext u1 u2 u3 hX
      obtain ⟨tk, tt, tn, pa, pl, pc, pf⟩ := x
      simp only [gtx] at c0 c1 c2 c3 c4 c5 c6 u1 u2 u3
      rw [show gtx ⟨tk, tt, tn, pa, pl, pc, pf⟩ = txtI tk tn tt.data.toList from rfl] at hnext
      obtain ⟨r, hr⟩ : ∃ r, txtI tk tn tt.data.toList = r := ⟨_, rfl⟩
      have K := fun w => rtext_known tk tn tt pa pl pc pf r hr w (by omega) u2
      rw [hr] at hnext u3
      obtain ⟨u, hu⟩ : ∃ u : ByteArray, ⟨r.toArray⟩ = u := ⟨_, rfl⟩
      have hul := len_of hu u3
      have hul2 : u.size = r.length := by rw [← hu]; show r.toArray.size = _; simp
      have huc : Lib.strCells u = bV r := by rw [← hu]; exact str_cells r
      rw [hu] at K
      have Ht := Lib.hid K
      obtain ⟨bs, hbs⟩ : ∃ bs, joinL ((gs.take k).map gtx) = bs := ⟨_, rfl⟩
      rw [hbs] at hown hlen2 hnext
      by_cases hk0 : k = 0
      · rw [if_pos hk0] at hnext
        subst hk0
        rw [Nat.zero_mul, Nat.add_zero] at c0 c1 c2 c3 c4 c5 c6
        have hbs0 : bs = [] := by rw [← hbs]; rfl
        subst hbs0
        have fin : ∀ (W : World) (v' : Value), W.ownsRow w.heap.size 5 1 v' (([] : List UInt8).length + u.size) (bV [] ++ Lib.strCells u) → BOwn W w.heap.size v' (joinL ((gs.take (0 + 1)).map gtx)) := fun W v' hW => by
          rw [hnext]
          rw [hul2, huc, List.length_nil, Nat.zero_add] at hW
          exact hW
        have Fin := Lib.hid fin
        have hBa := hB.alloc hB.size (.cells #[.int .i64 tk, .string tt, .int .i64 tn, .int .i64 pa, .int .i64 pl, .int .i64 pc, .bool pf] 30)
        clear hnext hr hat key u1 u2 u3 hu huc hbs fin hul2
        go_wp2_with (first | (go_at_call 17; refine (Ht.out _).mono ?_; rintro e w1 ⟨rfl, b1⟩; have own1 := own_on hown b1 (own_lt hown); have hB1 := chain hB b1) | (at_builtin; refine Lib.wpList_append_own_string _ rfl _ _ 56 9 rfl w.heap.size 5 i0 Tryd.underlying56 Tryd.underlying9 hinf hz0 hz1 hz2 _ _ _ rfl own1 u rfl (by unfold maxLen; simp; omega) (by simp; omega) hB1.size ?_; intro v5 w5 own5 hgrow5 _; have hB5 := grown_below hB1 hgrow5 own1 hB1.size (Nat.le_refl _)))
        go_roundw
        case rel => exact ⟨1, by go_num, by omega, Fin.out _ _ own5, hB5⟩
        case measure => simp [intOf]; omega
      · rw [if_neg hk0] at hnext
        have d5 : decide ((0 : Int) < (k : Int)) = true := decide_eq_true (by omega)
        have d6 : decide (0 < k) = true := decide_eq_true (by omega)
        have fin : ∀ (W : World) (v' : Value), W.ownsRow w.heap.size 5 1 v' (bs.length + 1 + u.size) (bV bs ++ [.int .u8 32] ++ Lib.strCells u) → BOwn W w.heap.size v' (joinL ((gs.take (k + 1)).map gtx)) := fun W v' hW => by
          rw [hnext]
          rw [hul2, huc] at hW
          show W.ownsRow _ _ _ _ _ _
          have e1 : (bs ++ 32 :: r).length = bs.length + 1 + r.length := by simp; omega
          have e2 : bV (bs ++ 32 :: r) = bV bs ++ [.int .u8 32] ++ bV r := by simp [bV]
          rw [e1, e2]; exact hW
        have Fin := Lib.hid fin
        have Hat := Lib.hid (fun W (hW : Below w.heap.size w W) => gat (W' := W) hat (fun o => hW.cell (p := ⟨b, o, none⟩) hbl) _ hX)
        clear hnext hr hat key u1 u2 u3 hu huc hbs fin hul2 hX c0 c1 c2 c3 c4 c5 c6
        go_wp2_with (first | (at_builtin; refine wpList_append_own _ rfl _ _ 56 rfl w.heap.size 5 i0 (.int .u8 0) 1 1 Tryd.underlying56 hinf hz0 hz1 hz2 rfl (by decide) _ _ _ rfl (hown.alloc _) ⟨wr.heap.size, 0, none⟩ 1 1 [.int .u8 32] rfl rfl (cells_new wr _ _) (by simp [Value.oneCell']) (by unfold maxLen; omega) (by omega) (by have := hB.size; simp; omega) ?_; intro v3 w3 own3 hgrow3 _; have hB3 := grown_below (hB.alloc hB.size _) hgrow3 (hown.alloc _) (by have := hB.size; simp; omega) (Nat.le_refl _); obtain ⟨c0, c1, c2, c3, c4, c5, c6⟩ := Hat.out _ hB3) | (go_at_call 17; refine (Ht.out _).mono ?_; rintro e w1 ⟨rfl, b1⟩; have own1 := own_on own3 b1 (own_lt own3); have hB1 := chain hB3 b1) | (at_builtin; refine Lib.wpList_append_own_string _ rfl _ _ 56 9 rfl w.heap.size 5 i0 Tryd.underlying56 Tryd.underlying9 hinf hz0 hz1 hz2 _ _ _ rfl own1 u rfl (by unfold maxLen; omega) (by omega) hB1.size ?_; intro v5 w5 own5 hgrow5 _; have hB5 := grown_below hB1 hgrow5 own1 hB1.size (Nat.le_refl _)))
        go_roundw
        case rel => exact ⟨k + 1, by go_num, by omega, Fin.out _ _ own5, hB5⟩
        case measure => simp [intOf]; omega
    · have hlt2 : decide ((k : Int) < (N : Int)) = false := by simp; omega
      have hlt3 : decide (k < N) = false := by simp; omega
      have hall : gs.take k = gs := List.take_of_length_le (by rw [HN.out]; omega)
      rw [hall] at hown
      have hcv := run_back wr w.heap.size _ _ hown
      obtain ⟨va, vc, rfl⟩ := own_shape hown
      clear hall hown
      go_wp2
      go_ret
      exact ⟨rfl, hB⟩
end Go.Proofs.YtiflklmjmdhfoaaDoor
