/- The marks of a heap's objects: a map of whole numbers, looked into and added to; the contracts of head, ask, object. -/
import Derived.Test.YtlmljommgmbckaaHpB
import Derived.Test.YtlmljommgmbckaaEvW
namespace Go.Proofs.Ytlmljommgmbckaa
open Go.RowKit

theorem keyD : Ev.keyDesc Try.prog 2 = some (.int .i64) := by kernel_rfl
theorem same_int (a b : Int) : Instr.sameNow (.int .i64) (.int .i64 a) (.int .i64 b) = some (decide (a = b)) := by simp [Instr.sameNow]; rfl
theorem marks_none {ms : List MapEntry} {l : List Int} (h : ms.map (·.key) = l.map (fun a => Value.int .i64 a)) {a : Int} (ha : a ∉ l) : Instr.findNow (.int .i64) (.int .i64 a) ms 0 = some none := by
  refine Ev.findNow_none fun m hm => ?_
  have : m.key ∈ ms.map (·.key) := List.mem_map_of_mem hm
  rw [h] at this
  obtain ⟨b, hb, e⟩ := List.mem_map.1 this
  rw [← e, same_int]
  have : a ≠ b := fun q => ha (q ▸ hb)
  simp [this]
theorem marks_lookup {w : World} {m : Nat} {l : List Int} (h : Marks w m l) (a : Int) : (Instr.lookup 65 (.map (some m)) (.int .i64 a) false).run Try.prog w = .ok (.bool (decide (a ∈ l))) w := by
  obtain ⟨ms, ck, h1, h2, h3, _⟩ := h
  by_cases ha : a ∈ l
  · have hs := Ev.findNow_some (d := .int .i64) (x := .int .i64 a) (R := fun v => v = .bool true) (ms := ms.toList) (i := 0) (fun m hm => by
      have : m.key ∈ ms.toList.map (·.key) := List.mem_map_of_mem hm
      rw [h2] at this
      obtain ⟨b, hb, e⟩ := List.mem_map.1 this
      rw [← e, same_int]
      by_cases q : a = b
      · exact .inr ⟨by simp [q], h3 m hm⟩
      · exact .inl (by simp [q])) (by
      have : Value.int .i64 a ∈ l.map (fun a => Value.int .i64 a) := List.mem_map.2 ⟨a, ha, rfl⟩
      rw [← h2] at this
      obtain ⟨m, hm, e⟩ := List.mem_map.1 this
      exact ⟨m, hm, by rw [e, same_int]; simp⟩)
    obtain ⟨j, y, k1, rfl⟩ := hs
    simp only [Instr.lookup, Sem.run_bind, run_underlying Try.underlying65, Result.andThen_ok, Ev.run_getMap h1, Sem.run_pure, Ev.run_checkKey keyD]
    simp [Ev.run_findKey keyD k1, ha]
  · simp only [Instr.lookup, Sem.run_bind, run_underlying Try.underlying65, Result.andThen_ok, Ev.run_getMap h1, Sem.run_pure, Ev.run_checkKey keyD]
    simp [Ev.run_findKey keyD (marks_none h2 ha), ha]

theorem wpList_mark {w : World} {ops : Array Oper} {rest : List Oper} {o : Oper} {a : Act} {Q : Exit → Act → World → Prop} (hg : o.guard = none) (hd : o.dst = none) (mo x v : Operand) (hop : o.op = Op.mapUpdate 65 mo x v)
    (m : Nat) (l : List Int) (h : Marks w m l) (k : Int) (hn : k ∉ l) (hm : a.eval mo = .map (some m)) (hx : a.eval x = .int .i64 k) (hv : a.eval v = .bool true)
    (hK : ∀ w', Only m w w' → Marks w' m (l ++ [k]) → wpList Try.prog ops Q rest a w') : wpList Try.prog ops Q (o :: rest) a w := by
  refine wpList_plain hg fun K' hK' => ?_
  obtain ⟨ms, ck, h1, h2, h3, h4⟩ := h
  have hkk : ∀ x ∈ ms.toList, x.key ≠ .int .i64 k := by
    intro x hx e
    have : x.key ∈ ms.toList.map (·.key) := List.mem_map_of_mem hx
    rw [h2] at this
    obtain ⟨b, hb, e2⟩ := List.mem_map.1 this
    rw [e] at e2
    cases e2
    exact hn hb
  have hrun : (execOp a.eval o).run Try.prog w = .ok .skip { w with heap := w.heap.setIfInBounds m (.map (ms.push { key := .int .i64 k, val := .bool true, born := ck }) (ck + 1)) } := by
    obtain ⟨dst, op, type, pos, after, guard⟩ := o
    simp only at hop
    subst hop
    simp only [execOp, hm, hx, hv]
    simp [Instr.mapUpdate, run_underlying Try.underlying65, Ev.run_getMap h1, Ev.run_checkKey keyD, Ev.run_findKey keyD (marks_none h2 hn), Ev.run_setMap h1]
  have hlt := (Array.getElem?_eq_some_iff.1 h1).1
  unfold Oper.wp
  rw [hrun, Oper.upon_skip, hd]
  refine hK' _ _ (hK _ ⟨rfl, rfl, rfl, by simp, fun j hj => ?_⟩ ⟨_, _, Array.getElem?_setIfInBounds_self_of_lt hlt, ?_, ?_, MapKept.stamped_push h4 hkk⟩)
  · exact Array.getElem?_setIfInBounds_ne (fun e => hj e.symm)
  · rw [Array.toList_push, List.map_append, List.map_append, h2]; rfl
  · intro e he
    rw [Array.toList_push, List.mem_append] at he
    rcases he with he | he
    · exact h3 e he
    · rw [List.mem_singleton] at he; subst he; rfl

set_option maxRecDepth 100000 in
set_option maxHeartbeats 1000000 in
theorem head_at (b : Nat) (L : HL) (H : HS) (w : World) (h : HInv w b L H) (a : Int) (h1 : -9223372036854775808 ≤ a) (h2 : a ≤ 9223372036854775807) :
    Calls Try.prog 48 #[.pointer (some ⟨b, 0, none⟩), .int .i64 a] w fun e w' => e = .returned (.tuple #[.int .i64 (headOf H a).k, .int .i64 (headOf H a).s, .int .i64 (headOf H a).i, .bool (headOf H a).ok]) ∧ ∃ n, w' = w.drewN n := by
  have ke := end_any b L H w h a h1 h2
  have c := h.blk.cell
  unfold HL.cells at c
  by_cases c1 : 0 ≤ a ∧ a < H.top
  · rw [if_pos c1] at ke
    obtain ⟨i, rfl⟩ := Int.eq_ofNat_of_zero_le c1.1
    have hin : i < H.ws.length := by have := h.len; have := h.top; omega
    obtain ⟨d1, d2⟩ := h.cell hin
    have hnum := h.num (H.word i) (by unfold HS.word; rw [List.getD_eq_getElem?_getD, List.getElem?_eq_getElem hin]; exact List.getElem_mem _)
    have e : headOf H (i : Int) = if (H.word i).1 = 6 then partsK (H.word i).2 else ⟨0, 0, 0, false⟩ := by
      unfold headOf
      simp only [Int.toNat_natCast]
      by_cases q : (H.word i).1 = 6
      · rw [if_pos ⟨c1.1, c1.2, q⟩, if_pos q]
      · rw [if_neg (fun h => q h.2.2), if_neg q]
    rw [e]
    obtain ⟨x, hx⟩ : ∃ x, H.word i = x := ⟨_, rfl⟩
    rw [hx] at d1 d2 hnum ⊢
    obtain ⟨N, hN⟩ : ∃ N, H.ws.length = N := ⟨_, rfl⟩
    rw [hN] at hin c
    have hinI : (i : Int) < (N : Int) := by omega
    have KE := Lib.hid ke
    have kp := fun W => parts_any x.2 W hnum.1 hnum.2
    have KP := Lib.hid kp
    have htp : decide ((H.top : Int) < 0) = false := by simp
    clear e hx hN ke kp c1 h hnum
    by_cases c2 : x.1 = 6
    · rw [if_pos c2]
      rw [c2] at d1
      clear c2
      go_enter Try.func48, Try.ntmps48
      go_wp2_with (first | (go_at_call 56; with_reducible refine KE.out.mono ?_; rintro e w1 ⟨rfl, n1, rfl⟩) | (go_at_call 57; with_reducible refine (KP.out _).mono ?_; rintro e w2 ⟨rfl, rfl⟩))
      exact bodyPost_ret (v := .tuple #[.int .i64 (partsK x.2).k, .int .i64 (partsK x.2).s, .int .i64 (partsK x.2).i, .bool (partsK x.2).ok]) (by simp [results, Try.results48, go_sem]) rfl ⟨rfl, _, rfl⟩
    · rw [if_neg c2]
      have c3 : decide (x.1 = 6) = false := by simpa using c2
      have c4 : (x.1 != 6) = true := by simpa using c2
      go_enter Try.func48, Try.ntmps48
      go_wp2_with (first | (go_at_call 56; with_reducible refine KE.out.mono ?_; rintro e w1 ⟨rfl, n1, rfl⟩))
      exact bodyPost_ret (v := .tuple #[.int .i64 0, .int .i64 0, .int .i64 0, .bool false]) (by simp [results, Try.results48, go_sem]) rfl ⟨rfl, _, rfl⟩
  · rw [if_neg c1] at ke
    have e : headOf H a = ⟨0, 0, 0, false⟩ := by unfold headOf; rw [if_neg (fun h => c1 ⟨h.1, h.2.1⟩)]
    rw [e]
    have KE := Lib.hid ke
    clear e ke c1 h c
    go_enter Try.func48, Try.ntmps48
    go_wp2_with (first | (go_at_call 56; with_reducible refine KE.out.mono ?_; rintro e w1 ⟨rfl, n1, rfl⟩))
    exact bodyPost_ret (v := .tuple #[.int .i64 0, .int .i64 0, .int .i64 0, .bool false]) (by simp [results, Try.results48, go_sem]) rfl ⟨rfl, _, rfl⟩

set_option maxRecDepth 100000 in
set_option maxHeartbeats 1000000 in
theorem ask_any (b : Nat) (L : HL) (H : HS) (w : World) (h : HInv w b L H) : Calls Try.prog 45 #[.pointer (some ⟨b, 0, none⟩)] w fun e w' => e = .returned (.tuple #[]) ∧ w' = w := by
  have c := h.blk.cell
  unfold HL.cells at c
  clear h
  go_enter Try.func45, Try.ntmps45
  go_wp2
  exact bodyPost_ret (v := .tuple #[]) (by simp [results, Try.results45, go_sem]) rfl ⟨rfl, rfl⟩

/-- What object tells. -/
def objOf (H : HS) (a : Int) : Pt := if a ∈ H.st then headOf H a else ⟨0, 0, 0, false⟩

set_option maxRecDepth 100000 in
set_option maxHeartbeats 1000000 in
theorem object_any (b : Nat) (L : HL) (H : HS) (w : World) (h : HInv w b L H) (a : Int) (h1 : -9223372036854775808 ≤ a) (h2 : a ≤ 9223372036854775807) :
    Calls Try.prog 39 #[.pointer (some ⟨b, 0, none⟩), .int .i64 a] w fun e w' => e = .returned (.tuple #[.int .i64 (objOf H a).k, .int .i64 (objOf H a).s, .int .i64 (objOf H a).i, .bool (objOf H a).ok]) ∧ ∃ n, w' = w.drewN n := by
  have ka := ask_any b L H w h
  have kh := head_at b L H w h a h1 h2
  have c := h.blk.cell
  unfold HL.cells at c
  have km := marks_lookup h.mks a
  unfold objOf
  by_cases c1 : a ∈ H.st
  · rw [if_pos c1]
    have e1 : decide (a ∈ H.st) = true := by simpa using c1
    rw [e1] at km
    obtain ⟨x, hx⟩ : ∃ x, headOf H a = x := ⟨_, rfl⟩
    rw [hx] at kh ⊢
    have KA := Lib.hid ka; have KH := Lib.hid kh
    clear ka kh hx h c1 e1
    go_enter Try.func39, Try.ntmps39
    go_wp2_with (first | (go_at_call 45; with_reducible refine KA.out.mono ?_; rintro e w1 ⟨rfl, rfl⟩) | (go_at_call 48; with_reducible refine KH.out.mono ?_; rintro e w2 ⟨rfl, n, rfl⟩))
    exact bodyPost_ret (v := .tuple #[.int .i64 x.k, .int .i64 x.s, .int .i64 x.i, .bool x.ok]) (by simp [results, Try.results39, go_sem]) rfl ⟨rfl, _, rfl⟩
  · rw [if_neg c1]
    have e1 : decide (a ∈ H.st) = false := by simpa using c1
    rw [e1] at km
    have KA := Lib.hid ka
    clear ka kh h c1 e1
    go_enter Try.func39, Try.ntmps39
    go_wp2_with (first | (go_at_call 45; with_reducible refine KA.out.mono ?_; rintro e w1 ⟨rfl, rfl⟩))
    exact bodyPost_ret (v := .tuple #[.int .i64 0, .int .i64 0, .int .i64 0, .bool false]) (by simp [results, Try.results39, go_sem]) rfl ⟨rfl, 0, rfl⟩

end Go.Proofs.Ytlmljommgmbckaa
