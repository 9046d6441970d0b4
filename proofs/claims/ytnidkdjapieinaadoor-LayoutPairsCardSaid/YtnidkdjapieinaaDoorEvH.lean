/- The little machine's ranges, arithmetic, comparisons and conversions. No program is walked here. -/
import Derived.Test.YtnidkdjapieinaaDoorEvG
noncomputable section
namespace Go.Proofs.YtnidkdjapieinaaDoor.Ev
open Go.RowKit
set_option linter.unusedSimpArgs false
set_option linter.unusedVariables false

section
variable {P : Program}
variable {ν : Nat → Value} {B : Zone} {w0 w : World} {E : Env} {M : Mem}

/-! ### ranges -/
variable (P) in
def arange (t : TypeId) (v : AV) (M : Mem) : Option (AV × Mem) :=
  match v with
  | .str l => match P.underlying t with
    | some .string => some (.ptr M.k 0, M.new (.siter l 0))
    | _ => none
  | .nmap => match P.underlying t with
    | some (.map _ _) => some (.ptr M.k 0, M.new (.miter none 0 [] 0))
    | _ => none
  | .map b => match P.underlying t, M.get b with
    | some (.map _ _), some (.map _ clock) => some (.ptr M.k 0, M.new (.miter (some b) clock [] clock))
    | _, _ => none
  | _ => none
theorem arange_ok (h : MR ν B w0 E M w) {t : TypeId} {v : AV} {x : Value} (hv : V ν E v x) {r : AV × Mem} (hr : arange P t v M = some r) : Good P ν B w0 E M w (Instr.range t x) r := by
  have key : ∀ (O : Obj) (o : AObj), (Instr.range t x).run P w = .ok (.pointer (some ⟨w.heap.size, 0, none⟩)) (w.alloc O) → OR ν (E.put M.k (w.heap.size, 0, 0)) o (w.heap.size, 0, 0) (w.alloc O) → Good P ν B w0 E M w (Instr.range t x) (.ptr M.k 0, M.new o) :=
    fun O o hrun ho => ⟨_, _, _, h.ext_put _, hrun, by simp only [V]; exact ⟨_, Env.put_self _ _ _, rfl⟩, h.new o O 0 ho⟩
  unfold arange at hr
  split at hr
  · rename_i l
    have hall := hv.str_all
    have := hv.str_inv; subst this
    split at hr
    case h_2 => cases hr
    rename_i hu
    simp only [Option.some.injEq] at hr; subst hr
    exact key (.stringIter (bytes l) 0) _ (by simp [Instr.range, run_underlying hu]) ⟨heap_alloc_new w _, rfl, hall⟩
  · have : x = .map none := by simpa only [V] using hv
    subst this
    split at hr
    case h_2 => cases hr
    rename_i k e hu
    simp only [Option.some.injEq] at hr; subst hr
    exact key (.mapIter none 0 #[] 0) _ (by simp [Instr.range, run_underlying hu]) ⟨none, heap_alloc_new w _, rfl, rfl⟩
  · rename_i b
    obtain ⟨p, hp, rfl⟩ := hv.map_inv
    split at hr
    case h_2 => cases hr
    rename_i k e es clock hu hb
    simp only [Option.some.injEq] at hr; subst hr
    obtain ⟨q, e2, r'⟩ := h.obj b _ hb
    rw [hp] at e2
    simp at e2; subst e2
    obtain ⟨ms, hms, _⟩ := r'
    exact key (.mapIter (some p.1) clock #[] clock) _ (by simp [Instr.range, run_underlying hu, run_getMap hms]) ⟨some p.1, heap_alloc_new w _, rfl, p, h.le_put _ _ _ hp, rfl⟩
  · cases hr

def hasNat : List Nat → Nat → Bool
  | [], _ => false
  | a :: as, b => match Nat.beq a b with
    | true => true
    | false => hasNat as b
theorem hasNat_iff : ∀ {l : List Nat} {b : Nat}, hasNat l b = l.contains b
  | [], b => by simp [hasNat]
  | a :: as, b => by
    simp only [hasNat, List.contains_cons]
    cases e : Nat.beq a b with
    | true => have := Nat.eq_of_beq_eq_true e; subst this; simp
    | false =>
      have := Nat.ne_of_beq_eq_false e
      rw [hasNat_iff]
      have : (b == a) = false := by simp; exact fun h => this h.symm
      simp [this]
/-- The entries that are still to come. -/
def leftOf (seen : List Nat) : List (AV × AV × Nat) → List (AV × AV × Nat)
  | [] => []
  | e :: es => match hasNat seen e.2.2 with
    | true => leftOf seen es
    | false => e :: leftOf seen es
def allOld (since : Nat) : List (AV × AV × Nat) → Bool
  | [] => true
  | e :: es => match Nat.blt e.2.2 since with
    | true => allOld since es
    | false => false
def steps (M : Mem) (it : Nat) (m since clock : Nat) (seen : List Nat) : List (AV × AV × Nat) → List (AV × Mem)
  | [] => []
  | e :: es => (.tup [.bool true, e.1, e.2.1], M.put it (.miter (some m) since (seen ++ [e.2.2]) clock)) :: steps M it m since clock seen es
def anext (v : AV) (isString : Bool) (M : Mem) : Option (List (AV × Mem)) :=
  match v with
  | .ptr it 0 => match M.get it, isString with
    | some (.siter l pos), true => match l[pos]? with
      | none => some [(.tup [.bool false], M)]
      | some c => match Nat.blt c 128 with
        | true => some [(.tup [.bool true, .int .i64 (Int.ofNat pos), .int .i32 (Int.ofNat c)], M.put it (.siter l (pos + 1)))]
        | false => none
    | some (.miter none _ _ _), false => some [(.tup [.bool false], M)]
    | some (.miter (some m) since seen last), false => match M.get m with
      | some (.map es clock) => match allOld since es, Nat.ble since last with
        | true, true => match leftOf seen es with
          | [] => some [(.tup [.bool false], M)]
          | l => some (steps M it m since clock seen l)
        | _, _ => none
      | _ => none
    | _, _ => none
  | _ => none
/-- One of several ends. -/
def GoodAny (P : Program) (ν : Nat → Value) (B : Zone) (w0 : World) (E : Env) (M : Mem) (w : World) (s : Sem Value) (l : List (AV × Mem)) : Prop := ∃ r ∈ l, Good P ν B w0 E M w s r

theorem V.tup1 {a : AV} {x : Value} (ha : V ν E a x) : V ν E (.tup [a]) (.tuple #[x]) := by
  simp only [V]
  exact ⟨_, rfl, VL.cons_mk ha (by simp only [VL])⟩
theorem V.tup3 {a b c : AV} {x y z : Value} (ha : V ν E a x) (hb : V ν E b y) (hc : V ν E c z) : V ν E (.tup [a, b, c]) (.tuple #[x, y, z]) := by
  simp only [V]
  exact ⟨_, rfl, VL.cons_mk ha (VL.cons_mk hb (VL.cons_mk hc (by simp only [VL])))⟩
theorem leftOf_ok {seen : List Nat} : ∀ {es : List (AV × AV × Nat)} {ms : List MapEntry}, ME ν E es ms → ME ν E (leftOf seen es) (ms.filter fun e => !seen.contains e.born)
  | [], ms, h => by simp only [ME] at h; subst h; simp [leftOf, ME]
  | e :: es, ms, h => by
    simp only [ME] at h
    obtain ⟨m, ms', rfl, h1, h2, h3, h4⟩ := h
    simp only [leftOf]
    rw [hasNat_iff, ← h3]
    cases hc : seen.contains m.born with
    | true => simp only [List.filter_cons, hc]; simpa using leftOf_ok h4
    | false =>
      simp only [List.filter_cons, hc]
      simp only [Bool.not_false, if_true, ME]
      exact ⟨m, _, rfl, h1, h2, h3, leftOf_ok h4⟩
theorem allOld_ok {since : Nat} : ∀ {es : List (AV × AV × Nat)} {ms : List MapEntry}, ME ν E es ms → allOld since es = true → ∀ m ∈ ms, m.born < since
  | [], ms, h, _ => by simp only [ME] at h; subst h; intro m hm; cases hm
  | e :: es, ms, h, ha => by
    simp only [ME] at h
    obtain ⟨m, ms', rfl, h1, h2, h3, h4⟩ := h
    simp only [allOld] at ha
    split at ha
    · rename_i hb
      have hb := blt_iff.1 hb
      intro m' hm'
      rcases List.mem_cons.1 hm' with rfl | hm'
      · omega
      · exact allOld_ok h4 ha m' hm'
    · cases ha
theorem steps_mem {M : Mem} {it m since clock : Nat} {seen : List Nat} : ∀ {l : List (AV × AV × Nat)} {i : Nat} {e : AV × AV × Nat}, l[i]? = some e → (.tup [.bool true, e.1, e.2.1], M.put it (.miter (some m) since (seen ++ [e.2.2]) clock)) ∈ steps M it m since clock seen l
  | [], i, e, h => by simp at h
  | u :: us, 0, e, h => by simp at h; subst h; simp [steps]
  | u :: us, i + 1, e, h => by simp at h; simp only [steps, List.mem_cons]; exact .inr (steps_mem h)
theorem MR.obj' (h : MR ν B w0 E M w) {b : Nat} {o : AObj} (hb : M.get b = some o) {p : Nat × Nat × Nat} (hp : E b = some p) : OR ν E o p w := by
  obtain ⟨q, e, r⟩ := h.obj b _ hb
  rw [hp] at e
  simp at e; subst e
  exact r
theorem run_getIter {r : Nat} {O : Obj} (h : w.heap[r]? = some O) (hO : ∀ c t f, O ≠ .cells c t f) : (getObj r).run P w = .ok O w := by
  simp only [getObj, Sem.run, h]
theorem run_setIter {r : Nat} {O O' : Obj} (h : w.heap[r]? = some O) (hO : ∀ c t f, O ≠ .cells c t f) : (setObj r O').run P w = .ok () { w with heap := w.heap.setIfInBounds r O' } := by
  simp only [setObj, Sem.run, h]
theorem decode_small (l : List Nat) (pos c : Nat) (hc : l[pos]? = some c) (h : c < 128) : Utf8.decode (bytes l) pos = (c, 1) := by
  have hlt := (List.getElem?_eq_some_iff.1 hc).1
  have hg : ((bytes l).get! pos).toNat = c := by
    have h2 : pos < (bytes l).data.size := by show pos < (bytes l).size; rw [size_bytes]; exact hlt
    show ((bytes l).data[pos]!).toNat = c
    rw [getElem!_pos (bytes l).data pos h2]
    simp only [bytes, List.getElem_toArray, List.getElem_map]
    rw [(List.getElem?_eq_some_iff.1 hc).2, u8_back (by omega)]
  unfold Utf8.decode
  simp only [Nat.add_zero, hg]
  rw [if_pos h]

theorem anext_ok (h : MR ν B w0 E M w) {t : TypeId} {v : AV} {x : Value} (hv : V ν E v x) {isString : Bool} {l : List (AV × Mem)} (hr : anext v isString M = some l) : GoodAny P ν B w0 E M w (Instr.next x isString t) l := by
  have over : ∀ E, V ν E (.tup [.bool false]) (.tuple #[.bool false]) := fun E => V.tup1 (by simp only [V])
  unfold anext at hr
  split at hr
  case h_2 => cases hr
  rename_i it
  obtain ⟨p, hp, rfl⟩ := hv.ptr_inv
  split at hr
  · rename_i s pos hb
    obtain ⟨g1, g2, g3⟩ := h.obj' hb hp
    have hget := run_getIter (P := P) g1 (by intro c t f; simp)
    rw [g2]
    split at hr
    · rename_i hnone
      simp only [Option.some.injEq] at hr; subst hr
      refine ⟨_, List.mem_singleton.2 rfl, Good.same h (x := .tuple #[.bool false]) ?_ (over E)⟩
      have hge : ¬ pos < s.length := by intro hlt; rw [List.getElem?_eq_getElem hlt] at hnone; cases hnone
      simp [Instr.next, hget, size_bytes, hge]
    · rename_i c hc
      split at hr
      case h_2 => cases hr
      rename_i hlt
      have hlt := blt_iff.1 hlt
      have hpos := (List.getElem?_eq_some_iff.1 hc).1
      simp only [Option.some.injEq] at hr; subst hr
      refine ⟨_, List.mem_singleton.2 rfl, E, .tuple #[.bool true, .int .i64 (Int.ofNat pos), .int .i32 (Int.ofNat c)], _, Ext.refl M E, ?_, V.tup3 (by simp only [V]) (by simp only [V]) (by simp only [V]), h.setMap hb hp (O := .stringIter (bytes s) (pos + 1)) (fun w' hw' => ⟨hw', g2, g3⟩)⟩
      simp [Instr.next, hget, size_bytes, hpos, decode_small s pos c hc hlt, run_setIter (P := P) (O' := .stringIter (bytes s) (pos + 1)) g1 (by intro c t f; simp), goInt]
  · rename_i m since seen last hb
    obtain ⟨m', g1, g2, g3⟩ := h.obj' hb hp
    simp only at g3
    subst g3
    have hget := run_getIter (P := P) g1 (by intro c t f; simp)
    rw [g2]
    simp only [Option.some.injEq] at hr; subst hr
    refine ⟨_, List.mem_singleton.2 rfl, Good.same h (x := .tuple #[.bool false]) ?_ (over E)⟩
    simp [Instr.next, hget]
  · rename_i m since seen last hb
    obtain ⟨m', g1, g2, q, hq, rfl⟩ := h.obj' hb hp
    have hget := run_getIter (P := P) g1 (by intro c t f; simp)
    rw [g2]
    split at hr
    case h_2 => cases hr
    rename_i es clock hm
    obtain ⟨ms, hms, hME⟩ := h.obj' hm hq
    have hgm := run_getMap (P := P) hms
    split at hr
    case h_2 => cases hr
    rename_i hold hsl
    have hsl := Nat.le_of_ble_eq_true hsl
    have hborn := allOld_ok hME hold
    have hleft := leftOf_ok (seen := seen) hME
    have hnoall : ¬ ((!seen.toArray.isEmpty && !ms.isEmpty && ms.all (fun e => decide (e.born ≥ last))) = true) := by
      intro hc
      simp only [Bool.and_eq_true] at hc
      obtain ⟨⟨_, h2⟩, h3⟩ := hc
      cases hl : ms.toList with
      | nil =>
        have : ms = #[] := by simpa using hl
        subst this; simp at h2
      | cons a as =>
        have ha : a ∈ ms := by rw [← Array.mem_toList_iff, hl]; simp
        have h4 := (Array.all_eq_true'.1 h3) a ha
        have h5 := hborn a (by rw [hl]; simp)
        simp at h4
        omega
    have hfil : (ms.filter fun e => !seen.toArray.contains e.born).toList = ms.toList.filter fun e => !seen.contains e.born := by
      rw [Array.toList_filter]
      simp
    have hfil2 : ∀ a ∈ (ms.filter fun e => !seen.toArray.contains e.born), a.born < since := by
      intro a ha
      rw [← Array.mem_toList_iff, hfil] at ha
      exact hborn a (List.mem_filter.1 ha).1
    have ho : ((ms.filter fun e => !seen.toArray.contains e.born).filter fun e => decide (e.born < since)) = ms.filter fun e => !seen.toArray.contains e.born := by
      rw [Array.filter_eq_self]
      intro a ha
      simpa using hfil2 a ha
    have hn : ((ms.filter fun e => !seen.toArray.contains e.born).filter fun e => decide (e.born ≥ since)) = #[] := by
      rw [Array.filter_eq_empty_iff]
      intro a ha
      have := hfil2 a ha
      simp; omega
    generalize hL : (ms.filter fun e => !seen.toArray.contains e.born) = L at *
    have hLl : ME ν E (leftOf seen es) L.toList := by rw [hfil]; exact hleft
    split at hr
    · rename_i hemp
      simp only [Option.some.injEq] at hr; subst hr
      rw [hemp] at hLl
      simp only [ME] at hLl
      have hL0 : L = #[] := by simpa using hLl
      subst hL0
      refine ⟨_, List.mem_singleton.2 rfl, Good.same h (x := .tuple #[.bool false]) ?_ (over E)⟩
      simp only [Instr.next, Sem.run_bind, hget, hgm, Result.andThen_ok]
      rw [if_neg hnoall]
      simp only [hL, ho, hn]
      simp [Question.forced]
    · rename_i hne
      simp only [Option.some.injEq] at hr; subst hr
      have hlen := hLl.length
      simp only [Array.length_toList] at hlen
      have hpos : 0 < L.size := by
        rw [hlen]
        cases e : leftOf seen es with
        | nil => exact absurd e hne
        | cons => simp
      have hLne : L.isEmpty = false := by
        rw [Array.isEmpty_eq_false_iff]; intro e; subst e; simp at hpos
      let k := if (Question.mapNext L.size).forced then 0 else (Question.mapNext L.size).cut (w.tape w.drawn (.mapNext L.size))
      have hk : k < L.size := by
        simp only [k]
        split
        · exact hpos
        · exact Nat.mod_lt _ hpos
      obtain ⟨e, he⟩ : ∃ e, (leftOf seen es)[k]? = some e := ⟨_, List.getElem?_eq_getElem (by omega)⟩
      obtain ⟨m, q1, q2, q3, q4⟩ := hLl.get he
      have q1' : L[k]? = some m := by simpa using q1
      let W := if (Question.mapNext L.size).forced then w else w.drew
      have hWh : W.heap = w.heap := by simp only [W]; split <;> rfl
      have hW : MR ν B w0 E M W := by simp only [W]; split; exact h; exact h.drew
      refine ⟨_, steps_mem he, E, .tuple #[.bool true, m.key, m.val], { W with heap := W.heap.setIfInBounds p.1 (.mapIter (some q.1) since (seen.toArray.push m.born) clock) }, Ext.refl M E, ?_, V.tup3 (by simp only [V]) q2 q3, hW.setMap hb hp (O := .mapIter (some q.1) since (seen.toArray.push m.born) clock) (fun w' hw' => ⟨some q.1, by rw [hw', ← q4]; simp, g2, q, hq, rfl⟩)⟩
      have hch : (choose (.mapNext L.size)).run P w = .ok k W := by
        rw [run_choose]
        simp only [k, W]
        split <;> simp
      simp only [Instr.next, Sem.run_bind, hget, hgm, Result.andThen_ok]
      rw [if_neg hnoall]
      simp only [hL, ho, hn, hLne, Bool.false_eq_true, if_false, Array.append_empty, Array.empty_append, Array.size_map, hch, Result.andThen_ok, Sem.run_bind, Array.getElem?_map, q1', Option.map_some]
      rw [run_setIter (P := P) (w := W) (by rw [hWh]; exact g1) (by intro c t f; simp)]
      simp
  · cases hr
end

end Go.Proofs.YtnidkdjapieinaaDoor.Ev
