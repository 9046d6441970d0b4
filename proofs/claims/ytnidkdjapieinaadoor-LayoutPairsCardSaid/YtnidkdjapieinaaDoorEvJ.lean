/- The little machine's append of a fresh row of zeros, its entries, and all its operations together. No program is walked here. -/
import Derived.Test.YtnidkdjapieinaaDoorEvI
import Derived.Laws.IdiomStrings
noncomputable section
namespace Go.Proofs.YtnidkdjapieinaaDoor.Ev
open Go.RowKit
set_option linter.unusedSimpArgs false
set_option linter.unusedVariables false

section
variable {P : Program}
variable {ν : Nat → Value} {B : Zone} {w0 w : World} {E : Env} {M : Mem}

theorem run_append_zeros {sT xT e ty : TypeId} {i : TypeInfo} {k0 k : IntKind} {n : Nat} (hu : P.underlying sT = some (.slice e)) (hx : P.underlying xT = some (.int k0)) (hi : P.info? e = some i) (hn0 : 0 < n) (hneed : n ≤ 1099511627776) (hbn : n * i.bytes ≤ 2 ^ 48)
    (hbig : Builtin.nextslicecap n 0 * i.bytes ≤ 2 ^ 48) (hsz : 0 < i.size)
    {z : Value} (hz : ∀ w, (zeroValue e).run P w = .ok z w) (hzs : z.cells.size = i.size) (w : World) :
    ∃ c rest, n ≤ c ∧ rest.length = (c - n) * i.size ∧ (Builtin.append_ #[sT, xT] ty #[.slice none 0 0, .int k (Int.ofNat n)]).run P w = .ok (.slice (some ⟨w.heap.size, 0, none⟩) n c) (w.drew.alloc (.cells ((Builtin.zeroCells z.cells n).toList ++ rest).toArray e)) := by
  have hs : tsize P e = some i.size := by unfold tsize; rw [hi]
  let c := (Question.appendCap n 0 e).cut (w.tape w.drawn (.appendCap n 0 e))
  refine ⟨c, (Builtin.zeroCells z.cells (c - (0 + n))).toList, by simp only [c, Question.cut]; omega, by simp [Builtin.zeroCells, hzs], ?_⟩
  have hw := wrap_small (n := Int.ofNat n) (by simp) (by simp; omega)
  have h1 : ¬ (Int.ofNat n < 0) := by simp
  have h2 : ¬ (Int.ofNat n * (i.bytes : Int) > 2 ^ 48) := by
    have : Int.ofNat n * (i.bytes : Int) = ((n * i.bytes : Nat) : Int) := by simp
    rw [this]
    omega
  have h3 : (Int.ofNat n).toNat = n := by simp
  have hmax : ¬ (((0 + n : Nat) : Int) > IntKind.i64.max ∧ (True ∨ i.bytes = 0)) := by
    have : IntKind.i64.max = 9223372036854775807 := by decide
    rw [this]
    omega
  have hbig' : ¬ (Builtin.nextslicecap (0 + n) 0 * i.bytes > 2 ^ 48) := by rw [Nat.zero_add]; omega
  have hnf : ¬ (0 + n ≤ 0) := by omega
  have hforced : (Question.appendCap (0 + n) 0 e).forced = false := rfl
  have hne : ¬ (n * i.size = 0) := by
    have := Nat.mul_pos hn0 hsz
    omega
  have hfc : ∀ w, (Builtin.firstCells i.size 0 (.slice none 0 0)).run P w = .ok #[] w := fun w => by simp [Builtin.firstCells]
  simp only [Builtin.append_, List.getElem?_toArray, List.getElem?_cons_zero, List.getElem?_cons_succ, Sem.run_bind, run_underlying hu, run_underlying hx, Result.andThen_ok, run_sizeOf' hs, Sem.run_pure, if_true, asInt, asIntOf, hw, h1, if_false, run_info hi, h2, h3, hnf, hbig', run_choose, hforced, Bool.false_eq_true, run_askRoom, World.drew_eq, hfc, hz, Bool.not_true, hne, newRow, run_newObj]
  first
    | rw [if_neg hmax]
    | skip
  simp only [Sem.run_bind, run_info hi, Result.andThen_ok, hbig', if_false, run_choose, hforced, Bool.false_eq_true, run_askRoom, World.drew_eq, hfc, hz, Bool.not_true, hne, newRow, run_newObj, Sem.run_pure]
  have ea : ((Builtin.zeroCells z.cells n).toList ++ (Builtin.zeroCells z.cells (c - (0 + n))).toList).toArray = #[] ++ Builtin.zeroCells z.cells n ++ Builtin.zeroCells z.cells (c - (0 + n)) := by
    apply Array.ext'
    simp
  rw [ea, ← World.alloc_eq, show (0 + n) = n from by omega]
  rfl

variable (P) in
def aappendZ (sT xT : TypeId) (s x : AV) (M : Mem) : Option (AV × Mem) :=
  match P.underlying sT, P.underlying xT with
  | some (.slice e), some (.int _) => match P.info? e, tzero P e with
    | some i, some z => match s, x with
      | .nslice, .int _ (.ofNat n) => match Nat.blt 0 n, Nat.ble (n * i.bytes) 281474976710656, Nat.beq z.cells.length i.size with
        | true, true, true => agrow P e i [] (repl z.cells (n * z.cells.length)) n (Builtin.nextslicecap n 0) M
        | _, _, _ => none
      | _, _ => none
    | _, _ => none
  | _, _ => none
theorem aappendZ_ok (h : MR ν B w0 E M w) {sT xT ty : TypeId} {s u : AV} {x y : Value} (hs : V ν E s x) (hu : V ν E u y) {r : AV × Mem} (hr : aappendZ P sT xT s u M = some r) : Good P ν B w0 E M w (Builtin.append_ #[sT, xT] ty #[x, y]) r := by
  unfold aappendZ at hr
  split at hr
  case h_2 => cases hr
  rename_i e k0 he hx
  split at hr
  case h_2 => cases hr
  rename_i i z hi hz
  split at hr
  case h_2 => cases hr
  rename_i k n
  have := hs.nslice_inv; subst this
  have := hu.int_inv; subst this
  split at hr
  case h_2 => cases hr
  rename_i c1 c2 c3
  have c1 := blt_iff.1 c1
  have c2 := Nat.le_of_ble_eq_true c2
  have c3 := Nat.eq_of_beq_eq_true c3
  have hr0 := hr
  unfold agrow at hr
  rw [hz] at hr
  simp only at hr
  split at hr
  case h_2 => cases hr
  rename_i d1 d2 d3 d4
  have d2 := blt_iff.1 d2
  have d3 := Nat.le_of_ble_eq_true d3
  have d4 := Nat.le_of_ble_eq_true d4
  simp only [Option.some.injEq, List.nil_append] at hr; subst hr
  obtain ⟨zv, hzv, hzV⟩ := run_zero (ν := ν) hz w
  have hz' : ∀ w, (zeroValue e).run P w = .ok zv w := by
    intro w'
    obtain ⟨z2, h2, _⟩ := run_zero (ν := ν) hz w'
    have : z2 = zv := by
      simp only [zeroValue, typeInfo, Sem.run_bind, run_program, Result.andThen_ok, hi, Sem.run_pure] at h2 hzv
      cases e3 : i.zero with
      | none => rw [e3] at h2; simp at h2
      | some q => rw [e3] at h2 hzv; simp at h2 hzv; rw [← h2, ← hzv]
    rw [this] at h2; exact h2
  have hzl := (hzV E).cells.length
  simp only [Array.length_toList] at hzl
  obtain ⟨c, rest, k1, k2, k3⟩ := run_append_zeros (P := P) (ty := ty) (k := k) he hx hi c1 d4 (by omega) (by omega) d2 hz' (by omega) w
  have hd := h.drew
  have hrep := repl_ok (hzV E).cells (by omega) (n * z.cells.length)
  have hrl := hrep.length
  have hM := hd.newCells (Blk.ofList (repl z.cells (n * z.cells.length))) ((Builtin.zeroCells zv.cells n).toList ++ rest).toArray e (by simp [Blk.ofList, Builtin.zeroCells, repl, hzl]) (fun j v hv => by
    rw [Blk.get_ofList] at hv
    obtain ⟨y, hy, hV⟩ := hrep.get hv
    refine ⟨y, ?_, hV⟩
    have hj := (List.getElem?_eq_some_iff.1 hy).1
    simp only [List.getElem?_toArray]
    have hq : (Builtin.zeroCells zv.cells n).toList = ((Array.range (n * z.cells.length)).map (zv.cells[· % zv.cells.size]!)).toList := by
      simp only [Builtin.zeroCells, hzl]
    rw [hq, List.getElem?_append_left hj]
    exact hy)
  refine ⟨_, _, _, hd.ext_put _, k3, ?_, hM⟩
  simp only [V]
  refine ⟨_, c, 0, Env.put_self _ _ _, rfl, k1, ?_, d2, fun _ => rfl⟩
  simp only [List.size_toArray, List.length_append]
  simp only [Builtin.zeroCells, Array.toList_map, List.length_map, Array.length_toList, Array.size_range]
  rw [hzl, k2, c3, Nat.zero_add, ← Nat.add_mul]
  congr 1
  omega

/-! ### entries -/
def lastOf : List Nat → Option Nat
  | [] => none
  | [a] => some a
  | _ :: b :: l => lastOf (b :: l)
theorem lastOf_eq : ∀ (l : List Nat), lastOf l = l.getLast?
  | [] => rfl
  | [a] => rfl
  | a :: b :: l => by rw [lastOf, lastOf_eq (b :: l)]; simp
def atBorn (s : Nat) : List (AV × AV × Nat) → Option (AV × AV)
  | [] => none
  | e :: es => match Nat.beq e.2.2 s with
    | true => some (e.1, e.2.1)
    | false => atBorn s es
theorem atBorn_ok {s : Nat} : ∀ {es : List (AV × AV × Nat)} {ms : List MapEntry} {k v : AV}, ME ν E es ms → atBorn s es = some (k, v) → ∃ m, ms.find? (fun e => e.born == s) = some m ∧ V ν E k m.key ∧ V ν E v m.val
  | [], ms, k, v, h, hr => by simp only [atBorn] at hr; cases hr
  | e :: es, ms, k, v, h, hr => by
    simp only [ME] at h
    obtain ⟨m, ms', rfl, h1, h2, h3, h4⟩ := h
    simp only [atBorn] at hr
    split at hr
    · rename_i hb
      have hb := Nat.eq_of_beq_eq_true hb
      simp only [Option.some.injEq, Prod.mk.injEq] at hr
      obtain ⟨rfl, rfl⟩ := hr
      exact ⟨m, by simp [h3, hb], h1, h2⟩
    · rename_i hb
      have hb := Nat.ne_of_beq_eq_false hb
      obtain ⟨m', g1, g2, g3⟩ := atBorn_ok h4 hr
      exact ⟨m', by simp [h3, hb, g1], g2, g3⟩
def aentry (v : AV) (M : Mem) : Option AV :=
  match v with
  | .ptr it 0 => match M.get it with
    | some (.miter (some m) _ seen last) => match lastOf seen, M.get m with
      | some s, some (.map es clock) => match Nat.beq clock last, atBorn s es with
        | true, some (k, v) => some (.tup [k, v])
        | _, _ => none
      | _, _ => none
    | _ => none
  | _ => none
theorem aentry_ok (h : MR ν B w0 E M w) {v : AV} {x : Value} (hv : V ν E v x) {r : AV} (hr : aentry v M = some r) : ∃ y, (Instr.entry x).run P w = .ok y w ∧ V ν E r y := by
  unfold aentry at hr
  split at hr
  case h_2 => cases hr
  rename_i it
  obtain ⟨p, hp, rfl⟩ := hv.ptr_inv
  split at hr
  case h_2 => cases hr
  rename_i m since seen last hb
  obtain ⟨m', g1, g2, q, hq, rfl⟩ := h.obj' hb hp
  have hget := run_getIter (P := P) g1 (by intro c t f; simp)
  split at hr
  case h_2 => cases hr
  rename_i s es clock hl hm
  obtain ⟨ms, hms, hME⟩ := h.obj' hm hq
  have hgm := run_getMap (P := P) hms
  split at hr
  case h_2 => cases hr
  rename_i k v hc hab
  have hc := Nat.eq_of_beq_eq_true hc
  subst hc
  obtain ⟨me, h1, h2, h3⟩ := atBorn_ok hME hab
  simp only [Option.some.injEq] at hr; subst hr
  refine ⟨.tuple #[me.key, me.val], ?_, V.tup2 h2 h3⟩
  have hback : seen.toArray.back? = some s := by
    rw [lastOf_eq] at hl
    simpa [Array.back?_eq_getElem?, List.getLast?_eq_getElem?] using hl
  have hfind : ms.find? (fun e => e.born == s) = some me := by rw [← Array.find?_toList]; exact h1
  rw [g2]
  simp [Instr.entry, hget, hback, hgm, hfind]
/-! ### bytes and strings -/
theorem toBytes_ok : ∀ {l : List AV} {bs : List Nat} {xs : List Value}, toBytes l = some bs → VL ν E l xs → xs = bs.map (fun n => Value.int .u8 (Int.ofNat n)) ∧ ∀ b ∈ bs, b < 256
  | [], bs, xs, h, hx => by
    simp only [toBytes, Option.some.injEq] at h; subst h
    simp only [VL] at hx; subst hx
    simp
  | v :: vs, bs, xs, h, hx => by
    simp only [VL] at hx
    obtain ⟨y, ys, rfl, h1, h2⟩ := hx
    unfold toBytes at h
    split at h
    · rename_i heq; cases heq
    · rename_i n vs' heq
      cases heq
      split at h
      · rename_i b l' hb hl
        simp only [Option.some.injEq] at h; subst h
        obtain ⟨e1, e2⟩ := toBytes_ok hl h2
        have := h1.int_inv; subst this
        refine ⟨by rw [e1]; rfl, fun b hb' => ?_⟩
        rcases List.mem_cons.1 hb' with rfl | hb'
        · exact blt_iff.1 hb
        · exact e2 b hb'
      · cases h
    · cases h
variable (P) in
def aconvMem (s d : TypeId) (v : AV) (M : Mem) : Option (AV × Mem) :=
  match P.underlying s, P.underlying d with
  | some .string, some (.slice e) => match P.underlying e, v with
    | some (.int .u8), .str l => some (.slic M.k 0 l.length 1, M.new (.cells (Blk.ofList (l.map fun c => .int .u8 (Int.ofNat c)))))
    | _, _ => none
  | some (.slice e), some .string => match P.underlying e, alen v, isStr v with
    | some (.int .u8), some n, false => match acells M 1 n v with
      | some l => match toBytes l with
        | some bs => some (.str bs, M)
        | none => none
      | none => none
    | _, _, _ => none
  | some (.slice e), some (.slice e') => match Nat.beq s d, P.underlying e' with
    | true, some (.int .u8) => match (match v with | .slice b _ _ _ => some b | .slic b _ _ _ => some b | _ => none) with
      | some b => match M.get b with
        | some (.cells _) => some (v, M)
        | _ => none
      | none => none
    | _, _ => none
  | _, _ => none
/-- A mark behind a block's last cell. -/
theorem MR.mark (h : MR ν B w0 E M w) {b : Nat} {K : Blk} (hb : M.get b = some (.cells K)) {p : Nat × Nat × Nat} (hp : E b = some p) (o : Nat) :
    ∃ w', (markStringish ⟨p.1, o, none⟩).run P w = .ok () w' ∧ MR ν B w0 E M w' := by
  obtain ⟨q, e, r⟩ := h.obj b _ hb
  rw [hp] at e
  simp at e; subst e
  obtain ⟨cs, t, fr, h1, h2, h3, h4, h5⟩ := r
  have hsh : w.shape? p.1 = some (t, cs.size) := by unfold World.shape?; rw [h1]
  refine ⟨w.freeze ⟨p.1, cs.size, none⟩ 1, by simp [markStringish, hsh], ?_⟩
  have hlt := (Array.getElem?_eq_some_iff.1 h1).1
  have hne : ∀ k, k ≠ p.1 → (w.freeze ⟨p.1, cs.size, none⟩ 1).heap[k]? = w.heap[k]? := fun k hk => by
    simp only [World.freeze, Nat.one_ne_zero, if_false]
    rw [Array.getElem?_modify, if_neg (fun e => hk e.symm)]
  have hself : ∃ fr', (w.freeze ⟨p.1, cs.size, none⟩ 1).heap[p.1]? = some (.cells cs t fr') ∧ (fr'.1 = fr'.2 ∨ cs.size ≤ fr'.1) := by
    obtain ⟨lo, hi⟩ := fr
    refine ⟨if lo == hi then (cs.size, cs.size + 1) else (min lo cs.size, max hi (cs.size + 1)), ?_, ?_⟩
    · simp only [World.freeze, Nat.one_ne_zero, if_false]
      rw [Array.getElem?_modify, if_pos rfl, h1]
      rfl
    · simp only at h4
      by_cases e : lo = hi
      · simp [e]
      · rw [if_neg (by simpa using e)]
        right
        simp only
        rcases h4 with h4 | h4
        · exact absurd h4 e
        · omega
  obtain ⟨fr', k1, k2⟩ := hself
  have hsz : (w.freeze ⟨p.1, cs.size, none⟩ 1).heap.size = w.heap.size := by simp [World.freeze]
  have hn := h.rng b p hp
  have hM := h.turn (o' := .cells K) hb hp (w' := w.freeze ⟨p.1, cs.size, none⟩ 1) ⟨rfl, rfl, rfl, by rw [hsz]; exact Nat.le_refl _, fun k hk => hne k (by omega)⟩ (by rw [hsz]; exact Nat.le_refl _) (fun k hk _ => hne k hk)
    ⟨cs, t, fr', k1, h2, h3, k2, h5⟩
  refine hM.congr (fun c oc k => ?_) (by rw [Mem.put_n]; exact Nat.le_refl _) (by have := hM.free; rw [Mem.put_k] at this; exact this)
  rw [Mem.get_put]
  split
  · rename_i e; subst e; rw [hb] at k; exact k
  · exact k
theorem aconvMem_ok (h : MR ν B w0 E M w) {s d : TypeId} {v : AV} {x : Value} (hv : V ν E v x) {r : AV × Mem} (hr : aconvMem P s d v M = some r) : Good P ν B w0 E M w (convert s d x) r := by
  unfold aconvMem at hr
  split at hr
  · rename_i e hs hd
    split at hr
    case h_2 => cases hr
    rename_i l he
    simp only [Option.some.injEq] at hr; subst hr
    have hall := hv.str_all
    have := hv.str_inv; subst this
    have hM := h.drew
    have hcap : l.length ≤ grownCap w (bytes l).size 0 e := by
      rw [size_bytes]; simp only [grownCap, Question.cut]; omega
    have hsz : (bytesRow (bytes l) (grownCap w (bytes l).size 0 e)).size = grownCap w (bytes l).size 0 e := by
      simp only [bytesRow, Array.size_append, Array.size_map, Array.size_replicate]
      have h1 : (bytes l).data.size = l.length := by simp [bytes]
      have h2 := size_bytes l
      omega
    have hrow : ∀ i u, (Blk.ofList (l.map fun c => AV.int .u8 (Int.ofNat c))).get i = some u → ∃ x, (bytesRow (bytes l) (grownCap w (bytes l).size 0 e))[i]? = some x ∧ ∀ E, V ν E u x := by
      intro i u hu
      rw [Blk.get_ofList, List.getElem?_map] at hu
      cases ec : l[i]? with
      | none => rw [ec] at hu; cases hu
      | some c =>
        rw [ec] at hu
        simp only [Option.map_some, Option.some.injEq] at hu; subst hu
        have hi := (List.getElem?_eq_some_iff.1 ec).1
        refine ⟨.int .u8 (Int.ofNat c), ?_, fun E => by simp only [V]⟩
        simp only [bytesRow]
        rw [Array.getElem?_append_left (by simp [bytes]; exact hi)]
        have := hall c (List.mem_of_getElem? ec)
        simp [bytes, ec]
        exact congrArg Int.ofNat (u8_back this)
    have hnew := hM.new (.cells (Blk.ofList (l.map fun c => AV.int .u8 (Int.ofNat c)))) (.cells (bytesRow (bytes l) (grownCap w (bytes l).size 0 e)) e ((bytesRow (bytes l) (grownCap w (bytes l).size 0 e)).size, (bytesRow (bytes l) (grownCap w (bytes l).size 0 e)).size + 1)) (grownCap w (bytes l).size 0 e)
      ⟨_, e, _, heap_alloc_new _ _, by simp only; rw [hsz]; omega, by simp only [Blk.ofList, List.length_map]; omega, Or.inr (Nat.le_refl _), fun i u hu => by
        obtain ⟨y, h1, h2⟩ := hrow i u hu
        exact ⟨y, by simpa using h1, h2 _⟩⟩
    refine ⟨_, _, _, hM.ext_put _, run_bytes_of_string w s d e (bytes l) hs hd he, ?_, hnew⟩
    simp only [V]
    refine ⟨_, grownCap w (bytes l).size 0 e, 0, Env.put_self _ _ _, ?_, hcap, by simp, by omega, fun _ => rfl⟩
    rw [size_bytes]; rfl
  · rename_i e hs hd
    split at hr
    case h_2 => cases hr
    rename_i n he hn hst
    split at hr
    case h_2 => cases hr
    rename_i l hl
    split at hr
    case h_2 => cases hr
    rename_i bs hbs
    simp only [Option.some.injEq] at hr; subst hr
    obtain ⟨xs, hx, hrun, hlen⟩ := acells_ok (P := P) h hv hl (fun m hm => by rw [hn] at hm; simp at hm; omega)
    obtain ⟨exs, hlt⟩ := toBytes_ok hbs hx
    obtain ⟨a, c, rfl⟩ := alen_slice hv hn (fun l e => by subst e; simp [isStr] at hst)
    have hV : V ν E (.str bs) (.string (bytes bs)) := by simp only [V]; exact ⟨trivial, hlt⟩
    refine Good.same h (x := .string (bytes bs)) ?_ hV
    have hl0 := hx.length
    cases a with
    | none =>
      have hb : bs = [] := by
        have hn0 : n = 0 := by
          cases v <;> simp only [V] at hv
          case nslice => simp only [alen, Option.some.injEq] at hn; omega
          case str => simp [isStr] at hst
          all_goals first
            | (cases hv; done)
            | (obtain ⟨_, _, e1⟩ := hv; cases e1; done)
            | (obtain ⟨_, e1, _⟩ := hv; cases e1; done)
            | (obtain ⟨_, _, _, _, e1, _⟩ := hv; cases e1; done)
            | (obtain ⟨_, _, e1, _⟩ := hv; cases e1; done)
            | simp [alen] at hn
        rw [exs, List.length_map, hlen, hn0] at hl0
        exact List.length_eq_zero_iff.1 (by omega)
      subst hb
      rw [run_convert_bytes_string w s d e _ n c hs he hd]
      simp [Conv.bytesToString, bytes]
      rfl
    | some a =>
      rw [run_convert_bytes_string w s d e _ n c hs he hd]
      have hn1 : n = bs.length := by rw [exs, List.length_map, hlen] at hl0; omega
      have hld : (loadCells a n).run P w = .ok ((bs.map (fun n => (Int.ofNat n))).map (Value.int .u8)).toArray w := by
        have : (loadCells a (n * 1)).run P w = .ok xs.toArray w := hrun
        rw [Nat.mul_one] at this
        rw [this, exs, List.map_map]
        rfl
      rw [run_bytesToString w a n c _ hld]
      have : (bs.map (fun n => (Int.ofNat n))) = (bs.map UInt8.ofNat).map (fun b => (b.toNat : Int)) := by
        rw [List.map_map]
        refine List.map_congr_left fun b hb => ?_
        simp only [Function.comp]
        rw [u8_back (hlt b hb)]; rfl
      rw [this, foldl_push_byteCells]
      have he0 : ByteArray.empty.data = #[] := rfl
      rw [he0]
      simp [bytes]
  · rename_i e e' hs hd
    split at hr
    case h_2 => cases hr
    rename_i hsd he
    have hsd := Nat.eq_of_beq_eq_true hsd
    subst hsd
    obtain rfl : e = e' := by rw [hs] at hd; simpa using hd
    split at hr
    case h_2 => cases hr
    rename_i b hvb
    split at hr
    case h_2 => cases hr
    rename_i K hK
    simp only [Option.some.injEq] at hr; subst hr
    have key : ∀ (p : Nat × Nat × Nat) (o n c : Nat), E b = some p → x = .slice (some ⟨p.1, o, none⟩) n c → Good P ν B w0 E M w (convert s s x) (v, M) := by
      intro p o n c hp hx
      obtain ⟨w', h1, h2⟩ := h.mark (P := P) hK hp o
      refine ⟨E, x, w', Ext.refl M E, ?_, hv, h2⟩
      subst hx
      have : ∀ (w : World), (convert s s (.slice (some ⟨p.1, o, none⟩) n c)).run P w = (do markStringish ⟨p.1, o, none⟩; pure (.slice (some ⟨p.1, o, none⟩) n c) : Sem Value).run P w := fun w => by
        simp [convert, run_underlying hs, run_underlying hd, run_underlying he]
      rw [this]
      simp [h1]
    split at hvb
    · rename_i b' o n c
      simp only [Option.some.injEq] at hvb; subst hvb
      obtain ⟨p, hp, hx⟩ := hv.slice_inv
      exact key p _ _ _ hp hx
    · rename_i b' o n z
      simp only [Option.some.injEq] at hvb; subst hvb
      obtain ⟨p, c, o', hp, hx, _⟩ := hv.slic_inv
      exact key p _ _ _ hp hx
    · cases hvb
  · cases hr
end

end Go.Proofs.YtnidkdjapieinaaDoor.Ev
