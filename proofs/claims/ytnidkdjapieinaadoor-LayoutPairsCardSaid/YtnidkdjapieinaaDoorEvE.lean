/- The little machine's append, copy, clear and len. No program is walked here. -/
import Derived.Test.YtnidkdjapieinaaDoorEvD
noncomputable section
namespace Go.Proofs.YtnidkdjapieinaaDoor.Ev
open Go.RowKit
set_option linter.unusedSimpArgs false
set_option linter.unusedVariables false

section
variable {P : Program}
variable {ν : Nat → Value} {B : Zone} {w0 w : World} {E : Env} {M : Mem}

theorem Blk.setL_get : ∀ (l : List AV) (i : Nat) (K : Blk) (j : Nat), i + l.length ≤ K.m → (Blk.setL l i K).get j = if i ≤ j ∧ j < i + l.length then l[j - i]? else K.get j
  | [], i, K, j, _ => by simp only [Blk.setL, List.length_nil]; rw [if_neg (by omega)]
  | v :: vs, i, K, j, h => by
    simp only [Blk.setL]
    simp only [List.length_cons] at h ⊢
    rw [Blk.setL_get vs (i + 1) (K.set i v) j (by rw [Blk.m_set]; omega), Blk.get_set _ _ _ _ (by omega)]
    by_cases h1 : i = j
    · subst h1
      rw [if_neg (by omega), if_pos rfl, if_pos (by omega)]
      simp
    · by_cases h2 : i + 1 ≤ j ∧ j < i + 1 + vs.length
      · rw [if_pos h2, if_pos (by omega)]
        rw [show j - i = (j - (i + 1)) + 1 from by omega]
        simp
      · rw [if_neg h2, if_neg h1, if_neg (by omega)]

/-- How long a slice or a string is. -/
def alen : AV → Option Nat
  | .slice _ _ n _ => some n
  | .slic _ _ n _ => some n
  | .nslice => some 0
  | .emp => some 0
  | .str l => some l.length
  | _ => none
theorem alen_ok {v : AV} {x : Value} (hv : V ν E v x) {n : Nat} (hn : alen v = some n) (w : World) : (Builtin.lenOf x).run P w = .ok n w := by
  unfold alen at hn
  split at hn
  · obtain ⟨p, _, rfl⟩ := hv.slice_inv; simp at hn; subst hn; simp [Builtin.lenOf]
  · obtain ⟨p, c, o', _, rfl, _⟩ := hv.slic_inv; simp at hn; subst hn; simp [Builtin.lenOf]
  · have : x = .slice none 0 0 := by simpa only [V] using hv
    subst this; simp at hn; subst hn; simp [Builtin.lenOf]
  · have : ∃ a, x = .slice (some a) 0 0 ∧ a.spot = none := by simpa only [V] using hv
    obtain ⟨a, rfl, _⟩ := this
    simp at hn; subst hn; simp [Builtin.lenOf]
  · have := hv.str_inv; subst this; simp at hn; subst hn; simp [Builtin.lenOf, size_bytes]
  · cases hn

/-- The first cells of a slice or a string. -/
def acells (M : Mem) (size n : Nat) (v : AV) : Option (List AV) :=
  match v with
  | .slice b o _ _ => match M.get b with
    | some (.cells K) => K.getL (n * size) o
    | _ => none
  | .slic b o len _ => match Nat.beq n 0, Nat.ble n len with
    | true, _ => some []
    | false, true => match M.get b with
      | some (.cells K) => K.getL (n * size) o
      | _ => none
    | _, _ => none
  | .nslice => match n with
    | 0 => some []
    | _ => none
  | .emp => match n with
    | 0 => some []
    | _ => none
  | .str l => match Nat.beq size 1 with
    | true => some ((l.take n).map fun c => .int .u8 (Int.ofNat c))
    | false => none
  | _ => none
theorem u8_back {c : Nat} (h : c < 256) : (UInt8.ofNat c).toNat = c := by
  simp; omega
theorem acells_ok (h : MR ν B w0 E M w) {size n : Nat} {v : AV} {x : Value} (hv : V ν E v x) {l : List AV} (hl : acells M size n v = some l) (hn : ∀ m, alen v = some m → n ≤ m) :
    ∃ xs, VL ν E l xs ∧ (Builtin.firstCells size n x).run P w = .ok xs.toArray w ∧ l.length = n * size := by
  have zero : ∀ a : Addr, (Builtin.firstCells size 0 (.slice (some a) n n)).run P w = .ok #[] w := fun a => by simp [Builtin.firstCells, loadCells, loadCellsFrom]
  unfold acells at hl
  split at hl
  · rename_i b o m c
    obtain ⟨p, hp, rfl⟩ := hv.slice_inv
    split at hl
    case h_2 => cases hl
    rename_i K hK
    obtain ⟨xs, hx, hrun⟩ := h.loadCells P hK hp hl
    exact ⟨xs, hx, by simpa [Builtin.firstCells] using hrun, Blk.getL_len hl⟩
  · rename_i b o m z
    obtain ⟨p, c, o', hp, rfl, hnc, hcz, hzp, ho⟩ := hv.slic_inv
    split at hl
    · rename_i h0
      have h0 := Nat.eq_of_beq_eq_true h0
      subst h0
      simp only [Option.some.injEq] at hl; subst hl
      exact ⟨[], by simp only [VL], by simp [Builtin.firstCells, loadCells, loadCellsFrom], by simp⟩
    · rename_i h0 h1
      have h0 := Nat.ne_of_beq_eq_false h0
      have h1 := Nat.le_of_ble_eq_true h1
      split at hl
      case h_2 => cases hl
      rename_i K hK
      have := ho (by omega)
      subst this
      obtain ⟨xs, hx, hrun⟩ := h.loadCells P hK hp hl
      exact ⟨xs, hx, by simpa [Builtin.firstCells] using hrun, Blk.getL_len hl⟩
    · cases hl
  · have : x = .slice none 0 0 := by simpa only [V] using hv
    subst this
    split at hl
    case h_2 => cases hl
    simp only [Option.some.injEq] at hl; subst hl
    exact ⟨[], by simp only [VL], by simp [Builtin.firstCells], by simp⟩
  · have : ∃ a, x = .slice (some a) 0 0 ∧ a.spot = none := by simpa only [V] using hv
    obtain ⟨a, rfl, _⟩ := this
    split at hl
    case h_2 => cases hl
    simp only [Option.some.injEq] at hl; subst hl
    exact ⟨[], by simp only [VL], by simp [Builtin.firstCells, loadCells, loadCellsFrom], by simp⟩
  · rename_i s
    have hall := hv.str_all
    have := hv.str_inv; subst this
    split at hl
    case h_2 => cases hl
    rename_i h1
    have h1 := Nat.eq_of_beq_eq_true h1
    simp only [Option.some.injEq] at hl; subst hl
    have hns := hn _ rfl
    refine ⟨(s.take n).map fun c => .int .u8 (Int.ofNat c), ?_, ?_, by simp [h1]; omega⟩
    · refine VL.of_get (by simp) fun i v x h1 h2 => ?_
      simp only [List.getElem?_map] at h1 h2
      cases e : (s.take n)[i]? with
      | none => rw [e] at h1; simp at h1
      | some c =>
        rw [e] at h1 h2
        simp at h1 h2
        subst h1; subst h2
        simp only [V]
    · simp only [Builtin.firstCells, Sem.run_pure]
      congr 1
      have e := extract_bytes s 0 n
      simp only [List.drop_zero, Nat.sub_zero] at e
      rw [e]
      simp only [bytes, List.map_toArray, List.map_map]
      congr 1
      refine List.map_congr_left fun c hc => ?_
      have := hall c (List.mem_of_mem_take hc)
      simp only [Function.comp]
      rw [u8_back this]
      rfl
  · cases hl

variable (P) in
def argOk (t : TypeId) : Bool := match P.underlying t with
  | some (.slice _) => true
  | some .string => true
  | _ => false

theorem growBy_le (n : Nat) : ∀ (r c : Nat), Builtin.growBy n r c ≤ max c (n + (n + 768) / 4)
  | 0, c => by simp only [Builtin.growBy]; omega
  | r + 1, c => by
    simp only [Builtin.growBy]
    split
    · omega
    · have := growBy_le n r (c + (c + 768) / 4)
      omega
theorem nextcap_le {n c : Nat} (h : c < n) : Builtin.nextslicecap n c ≤ 2 * n + 768 := by
  unfold Builtin.nextslicecap
  split
  · omega
  · split
    · omega
    · have := growBy_le n 4 c
      omega

variable (P) in
/-- A new block for old and new cells. -/
def agrow (e : TypeId) (i : TypeInfo) (old new : List AV) (need cap : Nat) (M : Mem) : Option (AV × Mem) :=
  match tzero P e with
  | none => none
  | some z => match Nat.beq z.cells.length i.size, Nat.blt 0 i.size, Nat.ble (cap * i.bytes) 281474976710656, Nat.ble need 1099511627776 with
    | true, true, true, true => some (.slic M.k 0 need i.size, M.new (.cells (Blk.ofList (old ++ new))))
    | _, _, _, _ => none
variable (P) in
def aappend (sT xT : TypeId) (s x : AV) (M : Mem) : Option (AV × Mem) :=
  match P.underlying sT with
  | some (.slice e) => match P.info? e, argOk P xT, alen x with
    | some i, true, some n => match acells M i.size n x with
      | none => none
      | some new => match oneAll new with
        | false => none
        | true => match s with
          | .nslice => match Nat.beq n 0 with
            | true => some (.nslice, M)
            | false => agrow P e i [] new n (Builtin.nextslicecap n 0) M
          | .emp => match Nat.beq n 0 with
            | true => some (.emp, M)
            | false => agrow P e i [] new n (Builtin.nextslicecap n 0) M
          | .slice b o len cap => match Nat.ble (len + n) cap, M.get b with
            | true, some (.cells K) => match Nat.ble (o + len * i.size + new.length) K.m with
              | true => some (.slice b o (len + n) cap, M.put b (.cells (Blk.setL new (o + len * i.size) K)))
              | false => none
            | false, some (.cells K) => match K.getL (len * i.size) o with
              | some old => agrow P e i old new (len + n) (Builtin.nextslicecap (len + n) cap) M
              | none => none
            | _, _ => none
          | .slic b o len z => match Nat.beq n 0 with
            | true => some (.slic b o len z, M)
            | false => match Nat.beq z i.size, M.get b with
              | true, some (.cells K) => match K.getL (len * i.size) o with
                | some old => agrow P e i old new (len + n) (2 * (len + n) + 768) (M.drop b)
                | none => none
              | _, _ => none
          | _ => none
    | _, _, _ => none
  | _ => none

theorem argOk_cases {xT : TypeId} (h : argOk P xT = true) : (∃ d, P.underlying xT = some (.slice d)) ∨ P.underlying xT = some .string := by
  unfold argOk at h
  cases e : P.underlying xT with
  | none => rw [e] at h; cases h
  | some d => rw [e] at h; cases d <;> simp_all
theorem run_append_in {sT xT e ty : TypeId} {i : TypeInfo} {x : Value} {n : Nat} (hu : P.underlying sT = some (.slice e)) (hi : P.info? e = some i) (hx : argOk P xT = true) (hn : ∀ w, (Builtin.lenOf x).run P w = .ok n w) (base : Option Addr) (sLen sCap : Nat) (w : World) (hfit : sLen + n ≤ sCap)
    {xs : List Value} (hxs : (Builtin.firstCells i.size n x).run P w = .ok xs.toArray w) {w' : World} (hst : match base with | some a => (Go.storeCells (a.add (sLen * i.size)) xs).run P w = .ok () w' | none => w' = w) :
    (Builtin.append_ #[sT, xT] ty #[.slice base sLen sCap, x]).run P w = .ok (.slice base (sLen + n) sCap) w' := by
  have hs : tsize P e = some i.size := by unfold tsize; rw [hi]
  rcases argOk_cases hx with ⟨d, hd⟩ | hd
  all_goals
    simp only [Builtin.append_, List.getElem?_toArray, List.getElem?_cons_zero, List.getElem?_cons_succ, Sem.run_bind, run_underlying hu, run_underlying hd, Result.andThen_ok, run_sizeOf' hs, Sem.run_pure, Bool.false_eq_true, if_false, hn, Bool.not_false, if_true, hfit, hxs]
    cases base with
    | none => simp only at hst; subst hst; rfl
    | some a => simp only at hst; simp only [Sem.run_bind, hst, Result.andThen_ok, Sem.run_pure]
theorem run_append_grow {sT xT e ty : TypeId} {i : TypeInfo} {x : Value} {n : Nat} (hu : P.underlying sT = some (.slice e)) (hi : P.info? e = some i) (hx : argOk P xT = true) (hn : ∀ w, (Builtin.lenOf x).run P w = .ok n w) (base : Option Addr) (sLen sCap : Nat) (w : World) (hfit : sCap < sLen + n)
    (hbig : Builtin.nextslicecap (sLen + n) sCap * i.bytes ≤ 2 ^ 48) (hneed : sLen + n ≤ 1099511627776)
    {xs ys : List Value} (hys : (Builtin.firstCells i.size sLen (.slice base sLen sCap)).run P w.drew = .ok ys.toArray w.drew) (hxs : (Builtin.firstCells i.size n x).run P w.drew = .ok xs.toArray w.drew)
    {z : Value} (hz : ∀ w, (zeroValue e).run P w = .ok z w) (hzs : z.cells.size = i.size) :
    ∃ c rest, sLen + n ≤ c ∧ rest.length = (c - (sLen + n)) * i.size ∧ (Builtin.append_ #[sT, xT] ty #[.slice base sLen sCap, x]).run P w = .ok (.slice (some ⟨w.heap.size, 0, none⟩) (sLen + n) c) (w.drew.alloc (.cells (ys ++ xs ++ rest).toArray e)) := by
  have hs : tsize P e = some i.size := by unfold tsize; rw [hi]
  let c := (Question.appendCap (sLen + n) sCap e).cut (w.tape w.drawn (.appendCap (sLen + n) sCap e))
  refine ⟨c, (Builtin.zeroCells z.cells (c - (sLen + n))).toList, by simp only [c, Question.cut]; omega, by simp [Builtin.zeroCells, hzs], ?_⟩
  have hmax : ¬ ((((sLen + n : Nat)) : Int) > IntKind.i64.max ∧ (False ∨ i.bytes = 0)) := by
    have : IntKind.i64.max = 9223372036854775807 := by decide
    rw [this]
    omega
  have hbig' : ¬ (Builtin.nextslicecap (sLen + n) sCap * i.bytes > 2 ^ 48) := by omega
  have hnf : ¬ (sLen + n ≤ sCap) := by omega
  have hforced : (Question.appendCap (sLen + n) sCap e).forced = false := rfl
  rcases argOk_cases hx with ⟨d, hd⟩ | hd
  all_goals
    simp only [Builtin.append_, List.getElem?_toArray, List.getElem?_cons_zero, List.getElem?_cons_succ, Sem.run_bind, run_underlying hu, run_underlying hd, Result.andThen_ok, run_sizeOf' hs, Sem.run_pure, Bool.false_eq_true, if_false, hn, Bool.not_false, if_true, hnf, run_info hi, hmax, hbig', run_choose, hforced, run_askRoom, World.drew_eq, hys, hxs, hz, newRow, run_newObj]
    have ea : (ys ++ xs ++ (Builtin.zeroCells z.cells (c - (sLen + n))).toList).toArray = ys.toArray ++ xs.toArray ++ Builtin.zeroCells z.cells (c - (sLen + n)) := by
      apply Array.ext'
      simp
    rw [ea, ← World.alloc_eq]
    rfl

variable (P) in
theorem agrow_ok (h : MR ν B w0 E M w) {sT xT e ty : TypeId} {i : TypeInfo} {x : Value} {n : Nat} (hu : P.underlying sT = some (.slice e)) (hi : P.info? e = some i) (hx : argOk P xT = true) (hn : ∀ w, (Builtin.lenOf x).run P w = .ok n w) (base : Option Addr) (sLen sCap : Nat) (hfit : sCap < sLen + n)
    {capv : Nat} (hcap : Builtin.nextslicecap (sLen + n) sCap ≤ capv)
    {old new : List AV} {xs ys : List Value} (ho : VL ν E old ys) (hnw : VL ν E new xs) (hol : old.length = sLen * i.size) (hnl : new.length = n * i.size)
    (hys : (Builtin.firstCells i.size sLen (.slice base sLen sCap)).run P w.drew = .ok ys.toArray w.drew) (hxs : (Builtin.firstCells i.size n x).run P w.drew = .ok xs.toArray w.drew)
    {r : AV × Mem} (hr : agrow P e i old new (sLen + n) capv M = some r) : Good P ν B w0 E M w (Builtin.append_ #[sT, xT] ty #[.slice base sLen sCap, x]) r := by
  unfold agrow at hr
  split at hr
  · cases hr
  rename_i z hz
  split at hr
  case h_2 => cases hr
  rename_i c1 c2 c3 c4
  have c1 := Nat.eq_of_beq_eq_true c1
  have c2 := blt_iff.1 c2
  have c3 := Nat.le_of_ble_eq_true c3
  have c4 := Nat.le_of_ble_eq_true c4
  simp only [Option.some.injEq] at hr; subst hr
  obtain ⟨zv, hzv, hzV⟩ := run_zero (ν := ν) hz w
  have hz' : ∀ w, (zeroValue e).run P w = .ok zv w := by
    intro w'
    obtain ⟨z2, h2, _⟩ := run_zero (ν := ν) hz w'
    have : z2 = zv := by
      simp only [zeroValue, typeInfo, Sem.run_bind, run_program, Result.andThen_ok, hi, Sem.run_pure] at h2 hzv
      cases e3 : i.zero with
      | none => rw [e3] at h2; simp at h2
      | some q => rw [e3] at h2 hzv; simp at h2 hzv; rw [← h2, ← hzv]
    rw [this] at h2; exact h2
  have hsz : zv.cells.size = i.size := by
    have := (hzV E).cells.length
    simp only [Array.length_toList] at this
    omega
  have hb : Builtin.nextslicecap (sLen + n) sCap * i.bytes ≤ 2 ^ 48 := Nat.le_trans (Nat.mul_le_mul_right _ hcap) (by omega)
  obtain ⟨c, rest, k1, k2, k3⟩ := run_append_grow (ty := ty) hu hi hx hn base sLen sCap w hfit hb c4 hys hxs hz' hsz
  have hd := h.drew
  have hyl := ho.length
  have hxl := hnw.length
  have hM := hd.newCells (Blk.ofList (old ++ new)) (ys ++ xs ++ rest).toArray e (by simp [Blk.ofList]; omega) (fun j v hv => by
    rw [Blk.get_ofList] at hv
    obtain ⟨y, hy, hV⟩ := (ho.append hnw).get hv
    refine ⟨y, ?_, hV⟩
    have hj := (List.getElem?_eq_some_iff.1 hy).1
    simp only [List.getElem?_toArray]
    rw [List.getElem?_append_left hj]
    exact hy)
  refine ⟨_, _, _, hd.ext_put _, k3, ?_, hM⟩
  simp only [V]
  refine ⟨_, c, 0, Env.put_self _ _ _, rfl, k1, ?_, c2, fun _ => rfl⟩
  simp only [List.size_toArray, List.length_append]
  rw [hyl, hxl, k2, hol, hnl, Nat.zero_add, ← Nat.add_mul, ← Nat.add_mul]
  congr 1
  omega

theorem V.slice_shape {v : AV} {x : Value} (hv : V ν E v x) : (∀ b o n c, v = .slice b o n c → ∃ a, x = .slice (some a) n c) := by
  intro b o n c e
  subst e
  obtain ⟨p, _, rfl⟩ := hv.slice_inv
  exact ⟨_, rfl⟩
theorem oneAll_append {a b : List AV} (ha : oneAll a = true) (hb : oneAll b = true) : oneAll (a ++ b) = true := by
  induction a with
  | nil => exact hb
  | cons v vs ih =>
    simp only [oneAll, Bool.and_eq_true, List.cons_append] at ha ⊢
    exact ⟨ha.1, ih ha.2⟩

theorem agrow_inv {e : TypeId} {i : TypeInfo} {old new : List AV} {need cap : Nat} {M : Mem} {r : AV × Mem} (hr : agrow P e i old new need cap M = some r) : 0 < i.size ∧ r = (.slic M.k 0 need i.size, M.new (.cells (Blk.ofList (old ++ new)))) := by
  unfold agrow at hr
  split at hr
  · cases hr
  rename_i z hz
  split at hr
  case h_2 => cases hr
  rename_i c1 c2 c3 c4
  simp only [Option.some.injEq] at hr
  exact ⟨blt_iff.1 c2, by rw [← hr]⟩
theorem MR.dropped (h : MR ν B w0 E M w) (b : Nat) : MR ν B w0 E (M.drop b) w := h.congr (fun c oc k => by
  rw [Mem.get_drop] at k
  split at k
  · cases k
  · exact k) (Nat.le_refl _) h.free

theorem aappend_ok (h : MR ν B w0 E M w) {sT xT ty : TypeId} {s u : AV} {x y : Value} (hs : V ν E s x) (hu : V ν E u y) {r : AV × Mem} (hr : aappend P sT xT s u M = some r) : Good P ν B w0 E M w (Builtin.append_ #[sT, xT] ty #[x, y]) r := by
  unfold aappend at hr
  split at hr
  case h_2 => cases hr
  rename_i e he
  split at hr
  case h_2 => cases hr
  rename_i i n hi ha hn
  split at hr
  · cases hr
  rename_i new hnew
  split at hr
  · cases hr
  rename_i hone
  have hln := fun w => alen_ok (P := P) hu hn w
  have hle : ∀ m, alen u = some m → n ≤ m := fun m hm => by rw [hn] at hm; simp at hm; omega
  obtain ⟨xs, hxV, hxrun, hxl⟩ := acells_ok (P := P) h hu hnew hle
  obtain ⟨xsd, hxdV, hxdrun, _⟩ := acells_ok (P := P) h.drew hu hnew hle
  have hs' : ∀ k, tsize P e = some k → k = i.size := fun k hk => by unfold tsize at hk; rw [hi] at hk; simp at hk; omega
  split at hr
  · -- nil
    have : x = .slice none 0 0 := by simpa only [V] using hs
    subst this
    split at hr
    · rename_i h0
      have h0 := Nat.eq_of_beq_eq_true h0
      subst h0
      simp only [Option.some.injEq] at hr; subst hr
      refine Good.same h (x := .slice none 0 0) ?_ (by simp only [V])
      exact run_append_in (w' := w) he hi ha hln none 0 0 w (by omega) hxrun rfl
    · rename_i h0
      have h0 := Nat.ne_of_beq_eq_false h0
      have := agrow_ok (P := P) (ty := ty) h he hi ha hln none 0 0 (by omega) (capv := Builtin.nextslicecap n 0) (by simp) (old := []) (ys := []) (by simp only [VL]) hxdV (by simp) hxl (by simp [Builtin.firstCells]) hxdrun (r := r) (by simpa using hr)
      simpa using this
  · -- empty
    have : ∃ a, x = .slice (some a) 0 0 ∧ a.spot = none := by simpa only [V] using hs
    obtain ⟨a, rfl, hsp⟩ := this
    split at hr
    · rename_i h0
      have h0 := Nat.eq_of_beq_eq_true h0
      subst h0
      simp only [Option.some.injEq] at hr; subst hr
      refine Good.same h (x := .slice (some a) 0 0) ?_ (by simp only [V]; exact ⟨a, rfl, hsp⟩)
      have hx0 : xs = [] := by have := hxV.length; rw [hxl] at this; simpa using this
      subst hx0
      exact run_append_in (w' := w) he hi ha hln (some a) 0 0 w (by omega) hxrun rfl
    · rename_i h0
      have h0 := Nat.ne_of_beq_eq_false h0
      have := agrow_ok (P := P) (ty := ty) h he hi ha hln (some a) 0 0 (by omega) (capv := Builtin.nextslicecap n 0) (by simp) (old := []) (ys := []) (by simp only [VL]) hxdV (by simp) hxl (by simp [Builtin.firstCells, loadCells, loadCellsFrom]) hxdrun (r := r) (by simpa using hr)
      simpa using this
  · rename_i b o len cap
    have hs0 := hs
    obtain ⟨p, hp, rfl⟩ := hs.slice_inv
    split at hr
    · rename_i K hc hK
      have hc := Nat.le_of_ble_eq_true hc
      split at hr
      case h_2 => cases hr
      rename_i hm
      have hm := Nat.le_of_ble_eq_true hm
      simp only [Option.some.injEq] at hr; subst hr
      have hml := h.m_le hK hp
      obtain ⟨w', hrun, hM⟩ := MR.storeCells P hp (o + len * i.size) new xs 0 M w K h hK (by omega) hxV hone
      refine ⟨E, .slice (some ⟨p.1, p.2.1 + o, none⟩) (len + n) cap, w', Ext.refl M E, ?_, by simp only [V]; exact ⟨p, hp, rfl⟩, hM⟩
      exact run_append_in (w' := w') he hi ha hln _ len cap w hc hxrun (by simp only; rw [add_at, Nat.add_assoc]; exact hrun)
    · rename_i K hc hK
      split at hr
      case h_2 => cases hr
      rename_i old hold
      have hc : cap < len + n := by
        have := Nat.not_le_of_not_ble_eq_true (n := len + n) (m := cap) (by rw [hc]; simp)
        omega
      obtain ⟨ys, hyV, hyrun⟩ := h.drew.loadCells P hK hp hold
      exact agrow_ok (P := P) (ty := ty) h he hi ha hln _ len cap hc (Nat.le_refl _) hyV hxdV (Blk.getL_len hold) hxl (by simpa [Builtin.firstCells] using hyrun) hxdrun hr
    · cases hr
  · rename_i b o len z
    have hs0 := hs
    obtain ⟨p, c, o', hp, rfl, hnc, hcz, hzp, ho⟩ := hs.slic_inv
    split at hr
    · rename_i h0
      have h0 := Nat.eq_of_beq_eq_true h0
      subst h0
      simp only [Option.some.injEq] at hr; subst hr
      refine Good.same h (x := .slice (some ⟨p.1, o', none⟩) len c) ?_ hs0
      have hx0 : xs = [] := by have := hxV.length; rw [hxl] at this; simpa using this
      subst hx0
      exact run_append_in (w' := w) he hi ha hln _ len c w (by omega) hxrun rfl
    · rename_i h0
      have h0 := Nat.ne_of_beq_eq_false h0
      split at hr
      case h_2 => cases hr
      rename_i K hz hK
      have hz := Nat.eq_of_beq_eq_true hz
      subst hz
      split at hr
      case h_2 => cases hr
      rename_i old hold
      by_cases hfit : len + n ≤ c
      · -- in place: the block goes on under a new number
        have ho' := ho (by omega)
        subst ho'
        obtain ⟨hzpos, rfl⟩ := agrow_inv hr
        have hol := Blk.getL_len hold
        have hroom : o + (len + n) * i.size ≤ p.2.2 := by
          have : (len + n) * i.size ≤ c * i.size := Nat.mul_le_mul_right _ hfit
          omega
        have hsum : (len + n) * i.size = len * i.size + n * i.size := Nat.add_mul _ _ _
        let K1 : Blk := Blk.setL old o ⟨[], 1, o + (len + n) * i.size, .nil⟩
        have hK1m : K1.m = o + (len + n) * i.size := Blk.m_setL _ _ _
        have hK1 : ∀ j, K1.get j = if o ≤ j ∧ j < o + len * i.size then old[j - o]? else none := by
          intro j
          have := Blk.setL_get old o ⟨[], 1, o + (len + n) * i.size, .nil⟩ j (by simp only; omega)
          rw [hol] at this
          rw [this]
          congr 1
          unfold Blk.get
          simp only [T.get_nil]
          cases Nat.blt j (o + (len + n) * i.size) <;> simp
        have hw1 := h.weaken hK hp (K' := K1) (by omega) (fun j v hv => by
          rw [hK1] at hv
          split at hv
          · rename_i hj
            have := Blk.getL_get hold (j - o) (by omega)
            rw [show o + (j - o) = j from by omega] at this
            rw [this]; exact hv
          · cases hv)
        have hget1 : (M.put b (.cells K1)).get b = some (.cells K1) := by rw [Mem.get_put, if_pos rfl]
        obtain ⟨w', hrun, hM⟩ := MR.storeCells P hp (o + len * i.size) new xs 0 _ w K1 hw1 hget1 (by omega) hxV hone
        have hget2 : ((M.put b (.cells K1)).put b (.cells (Blk.setL new (o + len * i.size + 0) K1))).get b = some (.cells (Blk.setL new (o + len * i.size + 0) K1)) := by rw [Mem.get_put, if_pos rfl]
        have hmv := hM.move hget2 hp (o := o) (K' := Blk.ofList (old ++ new)) (by omega) (by simp [Blk.ofList]; omega) (fun j v hv => by
          rw [Blk.get_ofList] at hv
          rw [Nat.add_zero, Blk.setL_get new _ K1 _ (by rw [hK1m, hxl]; omega), hxl]
          have hj := (List.getElem?_eq_some_iff.1 hv).1
          rw [List.length_append, hol, hxl] at hj
          by_cases hj1 : j < len * i.size
          · rw [if_neg (by omega), hK1, if_pos (by omega)]
            rw [List.getElem?_append_left (by omega)] at hv
            rw [show o + j - o = j from by omega]; exact hv
          · rw [if_pos (by omega)]
            rw [List.getElem?_append_right (by omega)] at hv
            rw [show o + j - (o + len * i.size) = j - old.length from by omega]; exact hv)
        refine ⟨E.put M.k (p.1, p.2.1 + o, p.2.2 - o), .slice (some ⟨p.1, p.2.1 + o, none⟩) (len + n) c, w', h.ext_put _, ?_, ?_, ?_⟩
        · exact run_append_in (w' := w') he hi ha hln _ len c w hfit hxrun (by simp only; rw [add_at, Nat.add_assoc]; exact hrun)
        · simp only [V]
          exact ⟨_, c, p.2.1 + o, Env.put_self _ _ _, rfl, hfit, by simp only; omega, hzpos, fun _ => rfl⟩
        · refine hmv.congr (fun c' oc k => ?_) (Nat.le_refl _) hmv.free
          rw [Mem.get_new] at k ⊢
          change (if M.k = c' then _ else _) = some oc at k
          change (if M.k = c' then _ else _) = some oc
          split at k
          · rename_i e1
            rw [if_pos e1]; exact k
          · rename_i e1
            rw [if_neg e1]
            rw [Mem.get_drop] at k ⊢
            split at k
            · cases k
            · rename_i e2
              rw [if_neg e2, Mem.get_put, if_neg e2, Mem.get_put, if_neg e2]; exact k
      · have hlt : c < len + n := by omega
        obtain ⟨ys, hyV, hyrun⟩ : ∃ ys, VL ν E old ys ∧ (Builtin.firstCells i.size len (.slice (some ⟨p.1, o', none⟩) len c)).run P w.drew = .ok ys.toArray w.drew := by
          by_cases hc0 : 0 < c
          · have := ho hc0
            subst this
            obtain ⟨ys, hyV, hyrun⟩ := h.drew.loadCells P hK hp hold
            exact ⟨ys, hyV, by simpa [Builtin.firstCells] using hyrun⟩
          · have hl0 : len = 0 := by omega
            subst hl0
            refine ⟨[], ?_, by simp [Builtin.firstCells, loadCells, loadCellsFrom]⟩
            have hol := Blk.getL_len hold
            rw [Nat.zero_mul] at hol
            have : old = [] := by simpa using hol
            subst this
            simp only [VL]
        exact agrow_ok (P := P) (ty := ty) (h.dropped b) he hi ha hln _ len c hlt (nextcap_le hlt) hyV hxdV (Blk.getL_len hold) hxl hyrun hxdrun hr
  · cases hr
end

end Go.Proofs.YtnidkdjapieinaaDoor.Ev
