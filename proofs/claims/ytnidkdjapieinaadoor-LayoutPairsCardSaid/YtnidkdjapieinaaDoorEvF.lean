/- The little machine's copy, clear, len, and its maps. No program is walked here. -/
import Derived.Test.YtnidkdjapieinaaDoorEvE
noncomputable section
namespace Go.Proofs.YtnidkdjapieinaaDoor.Ev
open Go.RowKit
set_option linter.unusedSimpArgs false
set_option linter.unusedVariables false

section
variable {P : Program}
variable {ν : Nat → Value} {B : Zone} {w0 w : World} {E : Env} {M : Mem}

theorem V.nslice_inv {x : Value} (h : V ν E .nslice x) : x = .slice none 0 0 := by simpa only [V] using h
theorem V.emp_inv {x : Value} (h : V ν E .emp x) : ∃ a, x = .slice (some a) 0 0 ∧ a.spot = none := by simpa only [V] using h

/-- The block of a slice, and where it begins. -/
def abase : AV → Option (Nat × Nat × Nat)
  | .slice b o n _ => some (b, o, n)
  | .slic b o n _ => some (b, o, n)
  | _ => none
theorem abase_ok {v : AV} {x : Value} (hv : V ν E v x) {b o n : Nat} (h : abase v = some (b, o, n)) (hn : 0 < n) : ∃ p c, E b = some p ∧ x = .slice (some ⟨p.1, p.2.1 + o, none⟩) n c := by
  unfold abase at h
  split at h
  · simp only [Option.some.injEq, Prod.mk.injEq] at h; obtain ⟨rfl, rfl, rfl⟩ := h
    obtain ⟨p, hp, rfl⟩ := hv.slice_inv
    exact ⟨p, _, hp, rfl⟩
  · simp only [Option.some.injEq, Prod.mk.injEq] at h; obtain ⟨rfl, rfl, rfl⟩ := h
    obtain ⟨p, c, o', hp, rfl, hnc, hcz, hzp, ho⟩ := hv.slic_inv
    rw [ho (by omega)]
    exact ⟨p, c, hp, rfl⟩
  · cases h
/-- Whatever a slice is, it is one. -/
theorem alen_slice {v : AV} {x : Value} (hv : V ν E v x) {n : Nat} (hn : alen v = some n) (hs : ∀ l, v ≠ .str l) : ∃ a c, x = .slice a n c := by
  unfold alen at hn
  split at hn
  · obtain ⟨p, _, rfl⟩ := hv.slice_inv; simp at hn; subst hn; exact ⟨_, _, rfl⟩
  · obtain ⟨p, c, o', _, rfl, _⟩ := hv.slic_inv; simp at hn; subst hn; exact ⟨_, _, rfl⟩
  · have := hv.nslice_inv; subst this; simp at hn; subst hn; exact ⟨_, _, rfl⟩
  · obtain ⟨a, rfl, _⟩ := hv.emp_inv; simp at hn; subst hn; exact ⟨_, _, rfl⟩
  · exact absurd rfl (hs _)
  · cases hn
def isStr : AV → Bool
  | .str _ => true
  | _ => false

variable (P) in
def acopy (dT : TypeId) (d s : AV) (M : Mem) : Option (AV × Mem) :=
  match P.underlying dT with
  | some (.slice e) => match tsize P e, alen d, alen s, isStr d with
    | some sz, some dn, some sn, false => match acells M sz (Nat.min sn dn) s with
      | none => none
      | some l => match Nat.beq (Nat.min sn dn) 0 with
        | true => some (.int .i64 0, M)
        | false => match abase d, oneAll l with
          | some (b, o, _), true => match M.get b with
            | some (.cells K) => match Nat.ble (o + l.length) K.m with
              | true => some (.int .i64 (Int.ofNat (Nat.min sn dn)), M.put b (.cells (Blk.setL l o K)))
              | false => none
            | _ => none
          | _, _ => none
    | _, _, _, _ => none
  | _ => none
theorem acopy_ok (h : MR ν B w0 E M w) {dT sT ty : TypeId} {d s : AV} {x y : Value} (hd : V ν E d x) (hs : V ν E s y) {r : AV × Mem} (hr : acopy P dT d s M = some r) : Good P ν B w0 E M w (Builtin.copy_ #[dT, sT] ty #[x, y]) r := by
  unfold acopy at hr
  split at hr
  case h_2 => cases hr
  rename_i e he
  split at hr
  case h_2 => cases hr
  rename_i sz dn sn hsz hdn hsn hstr
  split at hr
  · cases hr
  rename_i l hl
  have hstr' : ∀ q, d ≠ .str q := fun q e => by subst e; simp [isStr] at hstr
  obtain ⟨xs, hxV, hxrun, hxl⟩ := acells_ok (P := P) h hs hl (fun m hm => by rw [hsn] at hm; simp at hm; subst hm; exact Nat.min_le_left _ _)
  have hlen := fun w => alen_ok (P := P) hs hsn w
  have hrun0 : ∀ (a : Option Addr) (c : Nat), (Builtin.copy_ #[dT, sT] ty #[.slice a dn c, y]).run P w = (match a with | some a => ((Go.storeCells a xs).run P w).andThen fun _ w => .ok (goInt (Nat.min sn dn)) w | none => .ok (goInt (Nat.min sn dn)) w) := by
    intro a c
    simp only [Builtin.copy_, List.getElem?_toArray, List.getElem?_cons_zero, List.getElem?_cons_succ, Sem.run_bind, run_underlying he, Result.andThen_ok, run_sizeOf' hsz, Sem.run_pure, hlen, hxrun]
    cases a <;> simp
  split at hr
  · rename_i h0
    have h0 := Nat.eq_of_beq_eq_true h0
    simp only [Option.some.injEq] at hr; subst hr
    obtain ⟨a, c, rfl⟩ := alen_slice hd hdn hstr'
    have hx0 : xs = [] := by have := hxV.length; rw [hxl, h0] at this; simpa using this
    subst hx0
    refine Good.same h (x := .int .i64 0) ?_ (by simp only [V])
    rw [hrun0, h0]
    cases a <;> rfl
  · rename_i h0
    have h0 := Nat.ne_of_beq_eq_false h0
    split at hr
    case h_2 => cases hr
    rename_i b o n hb hone
    split at hr
    case h_2 => cases hr
    rename_i K hK
    split at hr
    case h_2 => cases hr
    rename_i hm
    have hm := Nat.le_of_ble_eq_true hm
    simp only [Option.some.injEq] at hr; subst hr
    have hn : n = dn := by
      unfold abase at hb; unfold alen at hdn
      split at hb <;> simp_all
    subst hn
    have hpos : 0 < n := by
      have := Nat.min_le_right sn n
      change sn.min n ≤ n at this
      omega
    obtain ⟨p, c, hp, rfl⟩ := abase_ok hd hb hpos
    have hml := h.m_le hK hp
    obtain ⟨w', hrun, hM⟩ := MR.storeCells P hp o l xs 0 M w K h hK (by omega) hxV hone
    refine ⟨E, .int .i64 (Int.ofNat (Nat.min sn n)), w', Ext.refl M E, ?_, by simp only [V], hM⟩
    rw [hrun0]
    simp only [hrun, Result.andThen_ok]
    rfl

variable (P) in
def aclear (t : TypeId) (v : AV) (M : Mem) : Option (AV × Mem) :=
  match v with
  | .nslice => match P.underlying t with
    | some (.slice _) => some (.tup [], M)
    | _ => none
  | .nmap => match P.underlying t with
    | some (.map _ _) => some (.tup [], M)
    | _ => none
  | .map b => match P.underlying t, M.get b with
    | some (.map _ _), some (.map _ clock) => some (.tup [], M.put b (.map [] clock))
    | _, _ => none
  | v => match P.underlying t with
    | some (.slice e) => match alen v, isStr v with
      | some 0, false => some (.tup [], M)
      | some n, false => match abase v, tzero P e with
        | some (b, o, _), some z => match M.get b with
          | some (.cells K) => match Nat.ble (o + n * z.cells.length) K.m, oneAll z.cells, Nat.blt 0 z.cells.length with
            | true, true, true => some (.tup [], M.put b (.cells (Blk.setL (repl z.cells (n * z.cells.length)) o K)))
            | _, _, _ => none
          | _ => none
        | _, _ => none
      | _, _ => none
    | _ => none
theorem oneAll_mem {l : List AV} (h : oneAll l = true) : ∀ v ∈ l, v.one = true := by
  induction l with
  | nil => intro v hv; cases hv
  | cons u us ih =>
    simp only [oneAll, Bool.and_eq_true] at h
    intro v hv
    rcases List.mem_cons.1 hv with rfl | hv
    · exact h.1
    · exact ih h.2 v hv
theorem oneAll_of {l : List AV} (h : ∀ v ∈ l, v.one = true) : oneAll l = true := by
  induction l with
  | nil => rfl
  | cons u us ih =>
    simp only [oneAll, Bool.and_eq_true]
    exact ⟨h u (by simp), ih fun v hv => h v (by simp [hv])⟩
theorem oneAll_repl {z : List AV} (h : oneAll z = true) (n : Nat) : oneAll (repl z n) = true := by
  refine oneAll_of fun v hv => ?_
  unfold repl at hv
  obtain ⟨i, _, rfl⟩ := List.mem_map.1 hv
  cases e : z[i % z.length]? with
  | none => rfl
  | some u => exact oneAll_mem h u (List.mem_of_getElem? e)
theorem MR.setMap (h : MR ν B w0 E M w) {b : Nat} {o : AObj} (hb : M.get b = some o) {p : Nat × Nat × Nat} (hp : E b = some p) {O : Obj} {o' : AObj} (ho : ∀ w', w'.heap[p.1]? = some O → OR ν E o' p w') : MR ν B w0 E (M.put b o') { w with heap := w.heap.setIfInBounds p.1 O } := by
  have hr := h.rng b p hp
  obtain ⟨q, e, r⟩ := h.obj b _ hb
  rw [hp] at e
  simp at e; subst e
  have hlt := r.lt
  refine h.turn hb hp ⟨rfl, rfl, rfl, by simp, fun k hk => ?_⟩ (by simp) (fun k hk _ => ?_) (ho _ ?_)
  · show (w.heap.setIfInBounds p.1 O)[k]? = _
    rw [Array.getElem?_setIfInBounds_ne (by omega)]
  · show (w.heap.setIfInBounds p.1 O)[k]? = _
    rw [Array.getElem?_setIfInBounds_ne (fun e => hk e.symm)]
  · show (w.heap.setIfInBounds p.1 O)[p.1]? = _
    rw [Array.getElem?_setIfInBounds_self_of_lt hlt]
theorem run_getMap {r : Nat} {ms : Array MapEntry} {clock : Nat} (h : w.heap[r]? = some (.map ms clock)) : (getObj r).run P w = .ok (.map ms clock) w := by
  simp [getObj, Sem.run, h]
theorem run_setMap {r : Nat} {ms : Array MapEntry} {clock : Nat} (h : w.heap[r]? = some (.map ms clock)) (O : Obj) : (setObj r O).run P w = .ok () { w with heap := w.heap.setIfInBounds r O } := by
  simp [setObj, Sem.run, h]
theorem aclear_ok (h : MR ν B w0 E M w) {t ty : TypeId} {v : AV} {x : Value} (hv : V ν E v x) {r : AV × Mem} (hr : aclear P t v M = some r) : Good P ν B w0 E M w (Builtin.clear_ #[t] ty #[x]) r := by
  have hu0 : ∀ E, V ν E (.tup []) (.tuple #[]) := fun E => by simp only [V]; exact ⟨_, rfl, by simp only [VL]⟩
  unfold aclear at hr
  split at hr
  · have := hv.nslice_inv; subst this
    split at hr
    case h_2 => cases hr
    rename_i e he
    simp only [Option.some.injEq] at hr; subst hr
    refine Good.same h (x := .tuple #[]) ?_ (hu0 _)
    simp [Builtin.clear_, run_underlying he]
  · have : x = .map none := by simpa only [V] using hv
    subst this
    split at hr
    case h_2 => cases hr
    rename_i k e he
    simp only [Option.some.injEq] at hr; subst hr
    refine Good.same h (x := .tuple #[]) ?_ (hu0 _)
    simp [Builtin.clear_, run_underlying he]
  · rename_i b
    obtain ⟨p, hp, rfl⟩ := hv.map_inv
    split at hr
    case h_2 => cases hr
    rename_i k e es clock he hb
    simp only [Option.some.injEq] at hr; subst hr
    obtain ⟨q, e2, r⟩ := h.obj b _ hb
    rw [hp] at e2
    simp at e2; subst e2
    obtain ⟨ms, hms, _⟩ := r
    refine ⟨E, .tuple #[], _, Ext.refl M E, ?_, hu0 _, h.setMap hb hp (O := .map #[] clock) (fun w' hw' => ⟨#[], hw', by simp only [ME]⟩)⟩
    simp [Builtin.clear_, run_underlying he, run_getMap hms, run_setMap hms]
  · split at hr
    case h_2 => cases hr
    rename_i e he
    split at hr
    · rename_i hn hstr
      have hstr' : ∀ q, v ≠ .str q := fun q e => by subst e; simp [isStr] at hstr
      obtain ⟨a, c, rfl⟩ := alen_slice hv hn hstr'
      simp only [Option.some.injEq] at hr; subst hr
      refine Good.same h (x := .tuple #[]) ?_ (hu0 _)
      cases a <;> simp [Builtin.clear_, run_underlying he]
    · rename_i n hn0 hn hstr
      have hstr' : ∀ q, v ≠ .str q := fun q e => by subst e; simp [isStr] at hstr
      split at hr
      case h_2 => cases hr
      rename_i b o n' z hb hz
      split at hr
      case h_2 => cases hr
      rename_i K hK
      split at hr
      case h_2 => cases hr
      rename_i c1 c2 c3
      have c1 := Nat.le_of_ble_eq_true c1
      have c3 := blt_iff.1 c3
      simp only [Option.some.injEq] at hr; subst hr
      have hnn : n' = n := by
        unfold abase at hb; unfold alen at hn
        split at hb <;> simp_all
      subst hnn
      have hpos : 0 < n' := by
        rcases Nat.eq_zero_or_pos n' with e0 | e0
        · exact (hn0 e0).elim
        · exact e0
      obtain ⟨p, c, hp, rfl⟩ := abase_ok hv hb hpos
      have hml := h.m_le hK hp
      obtain ⟨zv, hzv, hzV⟩ := run_zero (ν := ν) hz w
      have hrep := repl_ok (hzV E).cells c3 (n' * z.cells.length)
      have hzl := (hzV E).cells.length
      simp only [Array.length_toList] at hzl
      obtain ⟨w', hrun, hM⟩ := MR.storeCells P hp o _ _ 0 M w K h hK (by simp [repl]; omega) hrep (oneAll_repl c2 _)
      refine ⟨E, .tuple #[], w', Ext.refl M E, ?_, hu0 _, hM⟩
      have hn1 : n' ≠ 0 := by omega
      obtain ⟨m, rfl⟩ : ∃ m, n' = m + 1 := ⟨n' - 1, by omega⟩
      simp only [Builtin.clear_, List.getElem?_toArray, List.getElem?_cons_zero, Sem.run_bind, run_underlying he, Result.andThen_ok, hzv, Builtin.zeroCells, Sem.run_pure]
      rw [hzl]
      rw [hzl] at hrun
      simp only [hrun, Result.andThen_ok]
    · cases hr

variable (P) in
def alenOf (t : TypeId) (v : AV) (M : Mem) : Option AV :=
  match P.underlying t with
  | some .string => match v with
    | .str l => some (.int .i64 (Int.ofNat l.length))
    | _ => none
  | some (.array n _) => some (.int .i64 (Int.ofNat n))
  | some (.pointer a) => match P.underlying a with
    | some (.array n _) => some (.int .i64 (Int.ofNat n))
    | _ => none
  | some (.slice _) => match alen v, isStr v with
    | some n, false => some (.int .i64 (Int.ofNat n))
    | _, _ => none
  | some (.map _ _) => match v with
    | .nmap => some (.int .i64 0)
    | .map b => match M.get b with
      | some (.map es _) => some (.int .i64 (Int.ofNat es.length))
      | _ => none
    | _ => none
  | _ => none
theorem ME.length : ∀ {es : List (AV × AV × Nat)} {ms : List MapEntry}, ME ν E es ms → ms.length = es.length
  | [], ms, h => by simp only [ME] at h; subst h; rfl
  | e :: es, ms, h => by
    simp only [ME] at h
    obtain ⟨m, ms', rfl, _, _, _, k⟩ := h
    simp [ME.length k]
theorem alenOf_ok (h : MR ν B w0 E M w) {t ty : TypeId} {v : AV} {x : Value} (hv : V ν E v x) {r : AV} (hr : alenOf P t v M = some r) : ∃ y, (Builtin.len_ #[t] ty #[x]).run P w = .ok y w ∧ V ν E r y := by
  unfold alenOf at hr
  split at hr
  · rename_i hu
    split at hr
    case h_2 => cases hr
    have := hv.str_inv; subst this
    simp only [Option.some.injEq] at hr; subst hr
    exact ⟨_, by simp [Builtin.len_, run_underlying hu, goInt, size_bytes]; rfl, by simp only [V]; rfl⟩
  · rename_i n e hu
    simp only [Option.some.injEq] at hr; subst hr
    exact ⟨.int .i64 (Int.ofNat n), by simp [Builtin.len_, run_underlying hu, goInt], by simp only [V]⟩
  · rename_i a hu
    split at hr
    case h_2 => cases hr
    rename_i n e hu2
    simp only [Option.some.injEq] at hr; subst hr
    exact ⟨.int .i64 (Int.ofNat n), by simp [Builtin.len_, run_underlying hu, run_underlying hu2, goInt], by simp only [V]⟩
  · rename_i e hu
    split at hr
    case h_2 => cases hr
    rename_i n hn hstr
    have hstr' : ∀ q, v ≠ .str q := fun q e => by subst e; simp [isStr] at hstr
    obtain ⟨a, c, rfl⟩ := alen_slice hv hn hstr'
    simp only [Option.some.injEq] at hr; subst hr
    exact ⟨.int .i64 (Int.ofNat n), by simp [Builtin.len_, run_underlying hu, goInt], by simp only [V]⟩
  · rename_i k e hu
    split at hr
    · have : x = .map none := by simpa only [V] using hv
      subst this
      simp only [Option.some.injEq] at hr; subst hr
      exact ⟨.int .i64 0, by simp [Builtin.len_, run_underlying hu, goInt], by simp only [V]⟩
    · rename_i b
      obtain ⟨p, hp, rfl⟩ := hv.map_inv
      split at hr
      case h_2 => cases hr
      rename_i es clock hb
      simp only [Option.some.injEq] at hr; subst hr
      obtain ⟨q, e2, r⟩ := h.obj b _ hb
      rw [hp] at e2
      simp at e2; subst e2
      obtain ⟨ms, hms, hME⟩ := r
      have hl := hME.length
      simp only [Array.length_toList] at hl
      exact ⟨.int .i64 (Int.ofNat es.length), by simp [Builtin.len_, run_underlying hu, goInt, run_getMap hms, hl], by simp only [V]⟩
    · cases hr
  · cases hr
variable (P) in
def acapOf (t : TypeId) (v : AV) : Option AV :=
  match P.underlying t with
  | some (.slice _) => match v with
    | .slice _ _ _ c => some (.int .i64 (Int.ofNat c))
    | .nslice => some (.int .i64 0)
    | .emp => some (.int .i64 0)
    | _ => none
  | _ => none
theorem acapOf_ok {t ty : TypeId} {v : AV} {x : Value} (hv : V ν E v x) {r : AV} (hr : acapOf P t v = some r) : ∃ y, (∀ w, (Builtin.cap_ #[t] ty #[x]).run P w = .ok y w) ∧ V ν E r y := by
  unfold acapOf at hr
  split at hr
  case h_2 => cases hr
  rename_i e hu
  split at hr
  · rename_i c
    obtain ⟨p, hp, rfl⟩ := hv.slice_inv
    simp only [Option.some.injEq] at hr; subst hr
    exact ⟨.int .i64 (Int.ofNat c), fun w => by simp [Builtin.cap_, run_underlying hu, goInt], by simp only [V]⟩
  · have := hv.nslice_inv; subst this
    simp only [Option.some.injEq] at hr; subst hr
    exact ⟨.int .i64 0, fun w => by simp [Builtin.cap_, run_underlying hu, goInt], by simp only [V]⟩
  · obtain ⟨a, rfl, _⟩ := hv.emp_inv
    simp only [Option.some.injEq] at hr; subst hr
    exact ⟨.int .i64 0, fun w => by simp [Builtin.cap_, run_underlying hu, goInt], by simp only [V]⟩
  · cases hr
end

end Go.Proofs.YtnidkdjapieinaaDoor.Ev
