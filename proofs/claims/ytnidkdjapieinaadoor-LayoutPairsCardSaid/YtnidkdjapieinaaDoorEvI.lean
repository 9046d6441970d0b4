/- The little machine's arithmetic, comparisons and conversions. No program is walked here. -/
import Derived.Test.YtnidkdjapieinaaDoorEvH
noncomputable section
namespace Go.Proofs.YtnidkdjapieinaaDoor.Ev
open Go.RowKit
set_option linter.unusedSimpArgs false
set_option linter.unusedVariables false

section
variable {P : Program}
variable {ν : Nat → Value} {B : Zone} {w0 w : World} {E : Env} {M : Mem}

def wrapq (k : IntKind) (x : Int) : Int :=
  match x with
  | .ofNat n => match Nat.blt n 128 with
    | true => .ofNat n
    | false => match k with
      | .i64 => match Nat.blt n 9223372036854775808 with
        | true => .ofNat n
        | false => k.wrap x
      | k => k.wrap x
  | x => k.wrap x
theorem wrapq_eq (k : IntKind) (x : Int) : wrapq k x = k.wrap x := by
  unfold wrapq
  split
  · rename_i n
    split
    · rename_i h
      have h := blt_iff.1 h
      unfold IntKind.wrap
      have e : ∀ m : Nat, n < m → (Int.ofNat n) % (m : Int) = Int.ofNat n := fun m hm => Int.emod_eq_of_lt (by simp) (by simpa using hm)
      cases k <;> simp [IntKind.bits, IntKind.signed] <;> omega
    · split
      · split
        · rename_i h
          have h := blt_iff.1 h
          unfold IntKind.wrap
          simp [IntKind.bits, IntKind.signed]
          omega
        · rfl
      · rfl
  · rfl

def intLt (a b : Int) : Bool := match a, b with
  | .ofNat a, .ofNat b => Nat.blt a b
  | .ofNat _, .negSucc _ => false
  | .negSucc _, .ofNat _ => true
  | .negSucc a, .negSucc b => Nat.blt b a
theorem intLt_eq (a b : Int) : intLt a b = decide (a < b) := by
  unfold intLt
  rw [Bool.eq_iff_iff, decide_eq_true_iff]
  cases a <;> cases b <;> simp only [blt_iff, Int.ofNat_eq_natCast, Int.negSucc_eq, Bool.false_eq_true, false_iff, true_iff] <;> omega

def natsLess : List Nat → List Nat → Bool
  | _, [] => false
  | [], _ :: _ => true
  | a :: x, b :: y => match Nat.blt a b with
    | true => true
    | false => match Nat.beq a b with
      | true => natsLess x y
      | false => false
theorem natsLess_eq : ∀ {a b : List Nat}, (∀ c ∈ a, c < 256) → (∀ c ∈ b, c < 256) → Op.bytesLess (a.map UInt8.ofNat) (b.map UInt8.ofNat) = natsLess a b
  | _, [], _, _ => by cases ‹List Nat› <;> simp [Op.bytesLess, natsLess]
  | [], b :: bs, _, _ => by simp [Op.bytesLess, natsLess]
  | a :: as, b :: bs, ha, hb => by
    have h1 := ha a (by simp)
    have h2 := hb b (by simp)
    have ih := natsLess_eq (a := as) (b := bs) (fun c hc => ha c (by simp [hc])) (fun c hc => hb c (by simp [hc]))
    simp only [List.map_cons, Op.bytesLess, natsLess, ih]
    have hlt : (decide (UInt8.ofNat a < UInt8.ofNat b)) = Nat.blt a b := by
      rw [Bool.eq_iff_iff, decide_eq_true_iff, blt_iff, UInt8.lt_iff_toNat_lt, u8_back h1, u8_back h2]
    have heq : (UInt8.ofNat a == UInt8.ofNat b) = Nat.beq a b := by
      rw [Bool.eq_iff_iff, beq_iff_eq, Nat.beq_eq]
      exact ⟨fun h => by rw [← u8_back h1, ← u8_back h2, h], fun h => by rw [h]⟩
    rw [hlt, heq]
    cases Nat.blt a b <;> cases Nat.beq a b <;> simp

def aint0 (op : BinOp) (k : IntKind) (a b : Int) : Option AV :=
  match op with
  | .add => some (.int k (wrapq k (a + b)))
  | .sub => some (.int k (wrapq k (a - b)))
  | .mul => some (.int k (wrapq k (a * b)))
  | .quo => match intBeq b 0 with
    | true => none
    | false => some (.int k (wrapq k (a.tdiv b)))
  | .rem => match intBeq b 0 with
    | true => none
    | false => some (.int k (a.tmod b))
  | .and => some (.int k (wrapq k ((BitVec.ofInt k.bits a &&& BitVec.ofInt k.bits b).toNat : Nat)))
  | .or => some (.int k (wrapq k ((BitVec.ofInt k.bits a ||| BitVec.ofInt k.bits b).toNat : Nat)))
  | .xor => some (.int k (wrapq k ((BitVec.ofInt k.bits a ^^^ BitVec.ofInt k.bits b).toNat : Nat)))
  | .andNot => some (.int k (wrapq k ((BitVec.ofInt k.bits a &&& ~~~ BitVec.ofInt k.bits b).toNat : Nat)))
  | .eql => some (.bool (intBeq a b))
  | .neq => some (.bool (!intBeq a b))
  | .lss => some (.bool (intLt a b))
  | .leq => some (.bool (!intLt b a))
  | .gtr => some (.bool (intLt b a))
  | .geq => some (.bool (!intLt a b))
  | _ => none
def aint (op : BinOp) (k : IntKind) (a b : Int) : Option AV :=
  BinOp.rec (motive := fun _ => IntKind → Int → Int → Option AV) (fun k a b => some (.int k (wrapq k (a + b)))) (fun k a b => some (.int k (wrapq k (a - b)))) (fun k a b => some (.int k (wrapq k (a * b)))) (fun k a b => aint0 .quo k a b) (fun k a b => aint0 .rem k a b) (fun k a b => aint0 .and k a b) (fun k a b => aint0 .or k a b) (fun k a b => aint0 .xor k a b) (fun k a b => aint0 .shl k a b) (fun k a b => aint0 .shr k a b) (fun k a b => aint0 .andNot k a b) (fun k a b => some (.bool (intBeq a b))) (fun k a b => some (.bool (!intBeq a b))) (fun k a b => some (.bool (intLt a b))) (fun k a b => some (.bool (!intLt b a))) (fun k a b => some (.bool (intLt b a))) (fun k a b => some (.bool (!intLt a b))) op k a b
theorem aint_eq (op : BinOp) (k : IntKind) (a b : Int) : aint op k a b = aint0 op k a b := by cases op <;> rfl
def ashift (op : BinOp) (k : IntKind) (a : Int) (b : Int) : Option AV :=
  match b with
  | .ofNat n => match op with
    | .shl => some (.int k (wrapq k (a * 2 ^ (Nat.min n k.bits))))
    | .shr => some (.int k (a.fdiv (2 ^ (Nat.min n k.bits))))
    | _ => none
  | _ => none
def astrOp (op : BinOp) (a b : List Nat) : Option AV :=
  match op with
  | .add => match Nat.ble (a.length + b.length) 1099511627776 with
    | true => some (.str (a ++ b))
    | false => none
  | .eql => some (.bool (natsEq a b))
  | .neq => some (.bool (!natsEq a b))
  | .lss => some (.bool (natsLess a b))
  | .leq => some (.bool (natsLess a b || natsEq a b))
  | .gtr => some (.bool (!(natsLess a b || natsEq a b)))
  | .geq => some (.bool (!natsLess a b))
  | _ => none

variable (P) in
def aeqF (eq : TypeId → AV → AV → Option Bool) (xs ys : List AV) : List Field → Option Bool
  | [] => some true
  | f :: fs => match decide (f.name = "_") with
    | true => aeqF eq xs ys fs
    | false => match apart P f.type xs f.offset with
      | some x => match apart P f.type ys f.offset with
        | some y => match eq f.type x y with
          | some true => aeqF eq xs ys fs
          | some false => some false
          | none => none
        | none => none
      | none => none
variable (P) in
/-- Are two values of a type the same? -/
def aeq : Nat → TypeId → AV → AV → Option Bool
  | 0, _, _, _ => none
  | d + 1, t, a, b => match P.underlying t with
    | some .bool => match a, b with
      | .bool x, .bool y => some (x == y)
      | _, _ => none
    | some (.int _) => match a, b with
      | .int k x, .int k' y => match decide (k = k') with
        | true => some (intBeq x y)
        | false => none
      | _, _ => none
    | some .string => match a, b with
      | .str x, .str y => some (natsEq x y)
      | _, _ => none
    | some (.pointer e) => match a, b with
      | .nptr, .nptr => some true
      | .nptr, .ptr _ _ => some false
      | .ptr _ _, .nptr => some false
      | .ptr x o, .ptr y q => match tsize P e, Nat.beq x y with
        | some (_ + 1), true => some (Nat.beq o q)
        | _, _ => none
      | _, _ => none
    | some (.slice _) => match a, b with
      | .nslice, .nslice => some true
      | .nslice, .slice _ _ _ _ => some false
      | .nslice, .slic _ _ _ _ => some false
      | .nslice, .emp => some false
      | .slice _ _ _ _, .nslice => some false
      | .slic _ _ _ _, .nslice => some false
      | .emp, .nslice => some false
      | _, _ => none
    | some (.map _ _) => match a, b with
      | .nmap, .nmap => some true
      | .nmap, .map _ => some false
      | .map _, .nmap => some false
      | _, _ => none
    | some (.func _ _ _) => match a, b with
      | .nfn, .nfn => some true
      | .nfn, .fn _ _ _ => some false
      | .fn _ _ _, .nfn => some false
      | _, _ => none
    | some (.interface _) => match a, b with
      | .niface, .niface => some true
      | .niface, .iface _ _ => some false
      | .iface _ _, .niface => some false
      | _, _ => none
    | some (.struct fs) => match a, b with
      | .agg xs, .agg ys => match P.stoodInHeld t with
        | true => none
        | false => aeqF P (aeq d) xs ys fs.toList
      | _, _ => none
    | _ => none

theorem V.nptr_inv {x : Value} (h : V ν E .nptr x) : x = .pointer none := by simpa only [V] using h
theorem V.nmap_inv {x : Value} (h : V ν E .nmap x) : x = .map none := by simpa only [V] using h
theorem V.nfn_inv {x : Value} (h : V ν E .nfn x) : x = .nilFunc := by simpa only [V] using h
theorem V.fn_inv {f : FuncId} {a b : List AV} {x : Value} (h : V ν E (.fn f a b) x) : ∃ as bs, x = .func (.func f) as bs ∧ VL ν E a as.toList ∧ VL ν E b bs.toList := by simpa only [V] using h
theorem V.niface_inv {x : Value} (h : V ν E .niface x) : x = .nilIface := by simpa only [V] using h
theorem V.iface_inv {t : TypeId} {v : AV} {x : Value} (h : V ν E (.iface t v) x) : ∃ y, x = .iface t y ∧ V ν E v y := by simpa only [V] using h

theorem aeqF_ok {eq : TypeId → AV → AV → Option Bool} {d : Nat} (ih : ∀ (t : TypeId) (a b : AV) (x y : Value) (r : Bool), V ν E a x → V ν E b y → eq t a b = some r → ∀ w, (Op.equalIn d t x y).run P w = .ok r w)
    {xs ys : List AV} {as bs : Array Value} (hx : VL ν E xs as.toList) (hy : VL ν E ys bs.toList) : ∀ (fs : List Field) (r : Bool), aeqF P eq xs ys fs = some r → ∀ w, (Op.eqFields d as bs fs).run P w = .ok r w
  | [], r, h, w => by simp only [aeqF, Option.some.injEq] at h; subst h; rfl
  | f :: fs, r, h, w => by
    simp only [aeqF] at h
    split at h
    · rename_i hn
      have hn := of_decide_eq_true hn
      simp only [Op.eqFields, hn, ne_eq, not_true_eq_false, if_false]
      exact aeqF_ok ih hx hy fs r h w
    · rename_i hn
      have hn := of_decide_eq_false hn
      split at h
      case h_2 => cases h
      rename_i x h1
      split at h
      case h_2 => cases h
      rename_i y h2
      obtain ⟨x', hx', hxV⟩ := apart_ok hx h1
      obtain ⟨y', hy', hyV⟩ := apart_ok hy h2
      simp only [Op.eqFields, hn, ne_eq, not_false_eq_true, if_true, Sem.run_bind, hx', hy', Result.andThen_ok]
      split at h
      · rename_i h3
        rw [ih _ _ _ _ _ _ hxV hyV h3 w]
        simp only [Result.andThen_ok, Bool.not_true, Bool.false_eq_true, if_false]
        exact aeqF_ok ih hx hy fs r h w
      · rename_i h3
        rw [ih _ _ _ _ _ _ hxV hyV h3 w]
        simp only [Option.some.injEq] at h; subst h
        simp
      · cases h
set_option maxHeartbeats 4000000 in
theorem aeq_ok : ∀ (d D : Nat), d ≤ D → ∀ (t : TypeId) (a b : AV) (x y : Value) (r : Bool), V ν E a x → V ν E b y → aeq P d t a b = some r → ∀ w, (Op.equalIn D t x y).run P w = .ok r w
  | 0, D, _, t, a, b, x, y, r, _, _, h, w => by simp only [aeq] at h; cases h
  | d + 1, 0, hD, t, a, b, x, y, r, _, _, h, w => by omega
  | d + 1, D + 1, hD, t, a, b, x, y, r, ha, hb, h, w => by
    simp only [aeq] at h
    split at h
    · rename_i hu
      split at h
      case h_2 => cases h
      have := ha.bool_inv; subst this
      have := hb.bool_inv; subst this
      simp only [Option.some.injEq] at h; subst h
      exact run_equalIn_bool' w D t _ _ hu
    · rename_i k0 hu
      split at h
      case h_2 => cases h
      have := ha.int_inv; subst this
      have := hb.int_inv; subst this
      split at h
      case h_2 => cases h
      rename_i hk
      have hk := of_decide_eq_true hk
      subst hk
      simp only [Option.some.injEq, intBeq_eq] at h; subst h
      exact run_equalIn_int w D t _ _ _ _ hu
    · rename_i hu
      split at h
      case h_2 => cases h
      have h1 := ha.str_all
      have h2 := hb.str_all
      have := ha.str_inv; subst this
      have := hb.str_inv; subst this
      simp only [Option.some.injEq] at h; subst h
      rw [run_equalIn_string w D t _ _ hu, ← beq_bytes h1 h2, beq_toListBytes]
    · rename_i e hu
      split at h
      · have := ha.nptr_inv; subst this
        have := hb.nptr_inv; subst this
        simp only [Option.some.injEq] at h; subst h
        simp [Op.equalIn, run_underlying hu]
      · have := ha.nptr_inv; subst this
        obtain ⟨p, _, rfl⟩ := hb.ptr_inv
        simp only [Option.some.injEq] at h; subst h
        simp [Op.equalIn, run_underlying hu]
      · have := hb.nptr_inv; subst this
        obtain ⟨p, _, rfl⟩ := ha.ptr_inv
        simp only [Option.some.injEq] at h; subst h
        simp [Op.equalIn, run_underlying hu]
      · rename_i bx o by' q
        obtain ⟨p, hp, rfl⟩ := ha.ptr_inv
        obtain ⟨p', hp', rfl⟩ := hb.ptr_inv
        split at h
        case h_2 => cases h
        rename_i n hs hbq
        have hbq := Nat.eq_of_beq_eq_true hbq
        subst hbq
        rw [hp] at hp'
        simp only [Option.some.injEq] at hp'; subst hp'
        simp only [Option.some.injEq] at h; subst h
        simp only [Op.equalIn, Sem.run_bind, run_underlying hu, Result.andThen_ok, run_sizeOf' hs]
        simp [sameAddr]
        rw [Bool.eq_iff_iff, Nat.beq_eq, beq_iff_eq]
        constructor
        · intro e; injection e with _ e _; omega
        · intro e; rw [e]
      · cases h
    · rename_i e hu
      split at h
      · have := ha.nslice_inv; subst this
        have := hb.nslice_inv; subst this
        simp only [Option.some.injEq] at h; subst h
        simp [Op.equalIn, run_underlying hu]
      · have := ha.nslice_inv; subst this
        obtain ⟨p, _, rfl⟩ := hb.slice_inv
        simp only [Option.some.injEq] at h; subst h
        simp [Op.equalIn, run_underlying hu]
      · have := ha.nslice_inv; subst this
        obtain ⟨p, c, o', _, rfl, _⟩ := hb.slic_inv
        simp only [Option.some.injEq] at h; subst h
        simp [Op.equalIn, run_underlying hu]
      · have := ha.nslice_inv; subst this
        obtain ⟨p, rfl, _⟩ := hb.emp_inv
        simp only [Option.some.injEq] at h; subst h
        simp [Op.equalIn, run_underlying hu]
      · have := hb.nslice_inv; subst this
        obtain ⟨p, _, rfl⟩ := ha.slice_inv
        simp only [Option.some.injEq] at h; subst h
        simp [Op.equalIn, run_underlying hu]
      · have := hb.nslice_inv; subst this
        obtain ⟨p, c, o', _, rfl, _⟩ := ha.slic_inv
        simp only [Option.some.injEq] at h; subst h
        simp [Op.equalIn, run_underlying hu]
      · have := hb.nslice_inv; subst this
        obtain ⟨p, rfl, _⟩ := ha.emp_inv
        simp only [Option.some.injEq] at h; subst h
        simp [Op.equalIn, run_underlying hu]
      · cases h
    · rename_i k e hu
      split at h
      · have := ha.nmap_inv; subst this
        have := hb.nmap_inv; subst this
        simp only [Option.some.injEq] at h; subst h
        simp [Op.equalIn, run_underlying hu]
      · have := ha.nmap_inv; subst this
        obtain ⟨p, _, rfl⟩ := hb.map_inv
        simp only [Option.some.injEq] at h; subst h
        simp [Op.equalIn, run_underlying hu]
      · have := hb.nmap_inv; subst this
        obtain ⟨p, _, rfl⟩ := ha.map_inv
        simp only [Option.some.injEq] at h; subst h
        simp [Op.equalIn, run_underlying hu]
      · cases h
    · rename_i p1 p2 p3 hu
      split at h
      · have := ha.nfn_inv; subst this
        have := hb.nfn_inv; subst this
        simp only [Option.some.injEq] at h; subst h
        simp [Op.equalIn, run_underlying hu]
      · have := ha.nfn_inv; subst this
        obtain ⟨as, bs, rfl, _⟩ := hb.fn_inv
        simp only [Option.some.injEq] at h; subst h
        simp [Op.equalIn, run_underlying hu]
      · have := hb.nfn_inv; subst this
        obtain ⟨as, bs, rfl, _⟩ := ha.fn_inv
        simp only [Option.some.injEq] at h; subst h
        simp [Op.equalIn, run_underlying hu]
      · cases h
    · rename_i ms hu
      split at h
      · have := ha.niface_inv; subst this
        have := hb.niface_inv; subst this
        simp only [Option.some.injEq] at h; subst h
        simp [Op.equalIn, run_underlying hu]
      · have := ha.niface_inv; subst this
        obtain ⟨z, rfl, _⟩ := hb.iface_inv
        simp only [Option.some.injEq] at h; subst h
        simp [Op.equalIn, run_underlying hu]
      · have := hb.niface_inv; subst this
        obtain ⟨z, rfl, _⟩ := ha.iface_inv
        simp only [Option.some.injEq] at h; subst h
        simp [Op.equalIn, run_underlying hu]
      · cases h
    · rename_i fs hu
      split at h
      case h_2 => cases h
      obtain ⟨as, rfl, hx⟩ := ha.agg_inv
      obtain ⟨bs, rfl, hy⟩ := hb.agg_inv
      split at h
      · cases h
      rename_i hst
      have hf : P.fieldsOf t = fs := by unfold Program.fieldsOf; rw [hu]
      rw [run_equalIn_struct w D t as bs (by rw [hf]; exact hu) hst, hf]
      exact aeqF_ok (fun t a b x y r ha hb h => aeq_ok d D (by omega) t a b x y r ha hb h) hx hy fs.toList r h w
    · cases h

def isOpq : AV → Bool
  | .opq _ => true
  | _ => false
def isCst : Operand → Bool
  | .const _ => true
  | _ => false
variable (P) in
def abinop0 (op : BinOp) (t : TypeId) (xo yo : Operand) (a b : AV) : Option AV :=
  match a, b with
  | .int k x, .int k' y => match op with
    | .shl => ashift op k x y
    | .shr => ashift op k x y
    | op => match decide (k = k') with
      | true => aint op k x y
      | false => none
  | .str x, .str y => astrOp op x y
  | a, b => match isOpq a || isOpq b with
    | true => none
    | false => match (match a, b with
        | .niface, .niface => isCst xo || isCst yo
        | .agg _, .agg _ => !P.eqGuardType P.depth t
        | _, _ => true) with
      | false => none
      | true => match op with
        | .eql => match aeq P 30 t a b with
          | some r => some (.bool r)
          | none => none
        | .neq => match aeq P 30 t a b with
          | some r => some (.bool (!r))
          | none => none
        | _ => none
def abinopInt (op : BinOp) (k : IntKind) (x : Int) (k' : IntKind) (y : Int) : Option AV :=
  BinOp.rec (motive := fun _ => Option AV) (Bool.rec (motive := fun _ => Option AV) none (aint op k x y) (decide (k = k'))) (Bool.rec (motive := fun _ => Option AV) none (aint op k x y) (decide (k = k'))) (Bool.rec (motive := fun _ => Option AV) none (aint op k x y) (decide (k = k'))) (Bool.rec (motive := fun _ => Option AV) none (aint op k x y) (decide (k = k'))) (Bool.rec (motive := fun _ => Option AV) none (aint op k x y) (decide (k = k'))) (Bool.rec (motive := fun _ => Option AV) none (aint op k x y) (decide (k = k'))) (Bool.rec (motive := fun _ => Option AV) none (aint op k x y) (decide (k = k'))) (Bool.rec (motive := fun _ => Option AV) none (aint op k x y) (decide (k = k'))) (ashift .shl k x y) (ashift .shr k x y) (Bool.rec (motive := fun _ => Option AV) none (aint op k x y) (decide (k = k'))) (Bool.rec (motive := fun _ => Option AV) none (aint op k x y) (decide (k = k'))) (Bool.rec (motive := fun _ => Option AV) none (aint op k x y) (decide (k = k'))) (Bool.rec (motive := fun _ => Option AV) none (aint op k x y) (decide (k = k'))) (Bool.rec (motive := fun _ => Option AV) none (aint op k x y) (decide (k = k'))) (Bool.rec (motive := fun _ => Option AV) none (aint op k x y) (decide (k = k'))) (Bool.rec (motive := fun _ => Option AV) none (aint op k x y) (decide (k = k'))) op
variable (P) in
def abinop (op : BinOp) (t : TypeId) (xo yo : Operand) (a b : AV) : Option AV :=
  Option.rec (motive := fun _ => Option AV) (abinop0 P op t xo yo a b) (fun p => Option.rec (motive := fun _ => Option AV) (abinop0 P op t xo yo a b) (fun q => abinopInt op p.1 p.2 q.1 q.2) b.asInt) a.asInt
variable (P) in
theorem abinop_eq (op : BinOp) (t : TypeId) (xo yo : Operand) (a b : AV) : abinop P op t xo yo a b = abinop0 P op t xo yo a b := by
  cases a with
  | int k x => cases b with
    | int k' y =>
      show abinopInt op k x k' y = _
      unfold abinop0 abinopInt
      cases op <;> first | rfl | (simp only []; cases decide (k = k') <;> rfl)
    | _ => rfl
  | _ => rfl

theorem aint_ok {op : BinOp} {k : IntKind} {x y : Int} {r : AV} (h : aint op k x y = some r) : ∃ z, (∀ t w, (binOp op t (.int k x) (.int k y)).run P w = .ok z w) ∧ ∀ E, V ν E r z := by
  have hle : ∀ a b : Int, (!intLt b a) = decide (a ≤ b) := fun a b => by rw [intLt_eq, Bool.eq_iff_iff]; simp
  rw [aint_eq] at h
  unfold aint0 at h
  split at h
  · simp only [Option.some.injEq, wrapq_eq] at h; subst h; exact ⟨.int k (k.wrap (x + y)), fun t w => by simp [binOp, Op.intArith], fun E => by simp only [V]⟩
  · simp only [Option.some.injEq, wrapq_eq] at h; subst h; exact ⟨.int k (k.wrap (x - y)), fun t w => by simp [binOp, Op.intArith], fun E => by simp only [V]⟩
  · simp only [Option.some.injEq, wrapq_eq] at h; subst h; exact ⟨.int k (k.wrap (x * y)), fun t w => by simp [binOp, Op.intArith], fun E => by simp only [V]⟩
  · split at h
    · cases h
    rename_i h0
    rw [intBeq_eq] at h0
    have h0 : y ≠ 0 := by simpa using h0
    simp only [Option.some.injEq, wrapq_eq] at h; subst h; exact ⟨.int k (k.wrap (x.tdiv y)), fun t w => by simp [binOp, Op.intDiv, h0], fun E => by simp only [V]⟩
  · split at h
    · cases h
    rename_i h0
    rw [intBeq_eq] at h0
    have h0 : y ≠ 0 := by simpa using h0
    simp only [Option.some.injEq] at h; subst h; exact ⟨.int k (x.tmod y), fun t w => by simp [binOp, Op.intDiv, h0], fun E => by simp only [V]⟩
  · simp only [Option.some.injEq, wrapq_eq] at h; subst h; exact ⟨_, fun t w => by simp only [binOp, ne_eq, not_true_eq_false, if_false, Op.intBits]; rfl, fun E => by simp only [V]⟩
  · simp only [Option.some.injEq, wrapq_eq] at h; subst h; exact ⟨_, fun t w => by simp only [binOp, ne_eq, not_true_eq_false, if_false, Op.intBits]; rfl, fun E => by simp only [V]⟩
  · simp only [Option.some.injEq, wrapq_eq] at h; subst h; exact ⟨_, fun t w => by simp only [binOp, ne_eq, not_true_eq_false, if_false, Op.intBits]; rfl, fun E => by simp only [V]⟩
  · simp only [Option.some.injEq, wrapq_eq] at h; subst h; exact ⟨_, fun t w => by simp only [binOp, ne_eq, not_true_eq_false, if_false, Op.intBits]; rfl, fun E => by simp only [V]⟩
  · simp only [Option.some.injEq, intBeq_eq] at h; subst h; exact ⟨.bool (x == y), fun t w => by simp [binOp, Op.intCmp], fun E => by simp only [V]⟩
  · simp only [Option.some.injEq, intBeq_eq] at h; subst h; exact ⟨.bool (x != y), fun t w => by simp [binOp, Op.intCmp], fun E => by simp only [V]; rfl⟩
  · simp only [Option.some.injEq, intLt_eq] at h; subst h; exact ⟨.bool (decide (x < y)), fun t w => by simp [binOp, Op.intCmp], fun E => by simp only [V]⟩
  · simp only [Option.some.injEq, hle] at h; subst h; exact ⟨.bool (decide (x ≤ y)), fun t w => by simp [binOp, Op.intCmp], fun E => by simp only [V]⟩
  · simp only [Option.some.injEq, intLt_eq] at h; subst h; exact ⟨.bool (decide (x > y)), fun t w => by simp [binOp, Op.intCmp], fun E => by simp only [V]⟩
  · simp only [Option.some.injEq, hle] at h; subst h; exact ⟨.bool (decide (x ≥ y)), fun t w => by simp [binOp, Op.intCmp], fun E => by simp only [V]⟩
  · cases h
theorem ashift_ok {op : BinOp} {k k' : IntKind} {x y : Int} {r : AV} (hop : op = .shl ∨ op = .shr) (h : ashift op k x y = some r) : ∃ z, (∀ t w, (binOp op t (.int k x) (.int k' y)).run P w = .ok z w) ∧ ∀ E, V ν E r z := by
  unfold ashift at h
  split at h
  case h_2 => cases h
  rename_i n
  have h0 : ¬ (Int.ofNat n < 0) := by simp
  split at h
  · simp only [Option.some.injEq, wrapq_eq] at h; subst h
    exact ⟨_, fun t w => by simp only [binOp, Op.shift, h0, if_false]; rfl, fun E => by simp only [V]; rfl⟩
  · simp only [Option.some.injEq] at h; subst h
    exact ⟨_, fun t w => by simp only [binOp, Op.shift, h0, if_false]; rfl, fun E => by simp only [V]; rfl⟩
  · cases h
theorem toList_bytes (a : List Nat) : (bytes a).toList = a.map UInt8.ofNat := by
  rw [ByteArray.toList_eq]; simp [bytes]
theorem bytes_append (a b : List Nat) : bytes a ++ bytes b = bytes (a ++ b) := by
  apply ByteArray.ext
  simp [bytes]
theorem astrOp_ok {op : BinOp} {x y : List Nat} (hx : ∀ c ∈ x, c < 256) (hy : ∀ c ∈ y, c < 256) {r : AV} (h : astrOp op x y = some r) : ∃ z, (∀ t w, (binOp op t (.string (bytes x)) (.string (bytes y))).run P w = .ok z w) ∧ ∀ E, V ν E r z := by
  have he : ((bytes x).toList == (bytes y).toList) = natsEq x y := by rw [← beq_toListBytes]; exact beq_bytes hx hy
  have hl : Op.bytesLess (bytes x).toList (bytes y).toList = natsLess x y := by rw [toList_bytes, toList_bytes]; exact natsLess_eq hx hy
  unfold astrOp at h
  split at h
  · split at h
    case h_2 => cases h
    rename_i hle
    have hle := Nat.le_of_ble_eq_true hle
    simp only [Option.some.injEq] at h; subst h
    refine ⟨.string (bytes (x ++ y)), fun t w => ?_, fun E => by simp only [V]; exact ⟨trivial, fun c hc => by rcases List.mem_append.1 hc with hc | hc; exact hx c hc; exact hy c hc⟩⟩
    have hm : ¬ ((((bytes x).size + (bytes y).size : Nat) : Int) > IntKind.i64.max) := by
      have : IntKind.i64.max = 9223372036854775807 := by decide
      rw [this, size_bytes, size_bytes]
      omega
    simp only [binOp, Op.stringOp]
    rw [if_neg hm, bytes_append]
    rfl
  · simp only [Option.some.injEq] at h; subst h; exact ⟨_, fun t w => by simp only [binOp, Op.stringOp, he]; rfl, fun E => by simp only [V]⟩
  · simp only [Option.some.injEq] at h; subst h; exact ⟨_, fun t w => by simp only [binOp, Op.stringOp, he]; rfl, fun E => by simp only [V]⟩
  · simp only [Option.some.injEq] at h; subst h; exact ⟨_, fun t w => by simp only [binOp, Op.stringOp, hl]; rfl, fun E => by simp only [V]⟩
  · simp only [Option.some.injEq] at h; subst h; exact ⟨_, fun t w => by simp only [binOp, Op.stringOp, he, hl]; rfl, fun E => by simp only [V]⟩
  · simp only [Option.some.injEq] at h; subst h; exact ⟨_, fun t w => by simp only [binOp, Op.stringOp, he, hl]; rfl, fun E => by simp only [V]⟩
  · simp only [Option.some.injEq] at h; subst h; exact ⟨_, fun t w => by simp only [binOp, Op.stringOp, hl]; rfl, fun E => by simp only [V]⟩
  · cases h

theorem run_eqGuard (op : BinOp) (t : TypeId) (xo yo : Operand) (x y : Value) (h1 : x = .nilIface → y = .nilIface → (isCst xo || isCst yo) = true) (h2 : ∀ a b, x = .agg a → y = .agg b → P.eqGuardType P.depth t = false) (w : World) : (eqGuard op t xo yo x y).run P w = .ok () w := by
  have key : op = .eql ∨ op = .neq → (eqGuard op t xo yo x y).run P w = .ok () w := by
    intro hop
    by_cases c1 : x = .nilIface ∧ y = .nilIface
    · obtain ⟨rfl, rfl⟩ := c1
      have := h1 rfl rfl
      rcases hop with rfl | rfl <;> cases xo <;> cases yo <;> simp_all [isCst, eqGuard]
    · by_cases c2 : ∃ a b, x = .agg a ∧ y = .agg b
      · obtain ⟨a, b, rfl, rfl⟩ := c2
        have := h2 _ _ rfl rfl
        rcases hop with rfl | rfl <;> simp [eqGuard, this]
      · rcases hop with rfl | rfl <;> cases x <;> cases y <;> first
          | rfl
          | exact absurd ⟨rfl, rfl⟩ c1
          | exact absurd ⟨_, _, rfl, rfl⟩ c2
  cases op
  case eql => exact key (.inl rfl)
  case neq => exact key (.inr rfl)
  all_goals rfl
theorem run_binOp_eql {t : TypeId} {x y : Value} {r : Bool} (h : ∀ w, (Op.equal t x y).run P w = .ok r w) (hx : ∀ k n, x ≠ .int k n) (hs : ∀ s, x ≠ .string s) (hf : (∀ k n, x ≠ .float k n) ∧ (∀ k n m, x ≠ .complex k n m)) (w : World) :
    (binOp .eql t x y).run P w = .ok (.bool r) w ∧ (binOp .neq t x y).run P w = .ok (.bool (!r)) w := by
  cases x
  case int => exact absurd rfl (hx _ _)
  case string => exact absurd rfl (hs _)
  case float => exact absurd rfl (hf.1 _ _)
  case complex => exact absurd rfl (hf.2 _ _ _)
  all_goals exact ⟨by simp [binOp, h], by simp [binOp, h]⟩
theorem V.iface_back {a : AV} (h : V ν E a .nilIface) : a = .niface ∨ isOpq a = true := by
  cases a <;> simp [V, isOpq] at h ⊢
theorem V.agg_back {a : AV} {xs : Array Value} (h : V ν E a (.agg xs)) : (∃ l, a = .agg l) ∨ isOpq a = true := by
  cases a <;> simp [V, isOpq] at h ⊢
theorem V.kinds {a : AV} {x : Value} (h : V ν E a x) (ho : isOpq a = false) (hi : ∀ k n, a ≠ .int k n) (hs : ∀ l, a ≠ .str l) : (∀ k n, x ≠ .int k n) ∧ (∀ s, x ≠ .string s) ∧ (∀ k n, x ≠ .float k n) ∧ (∀ k n m, x ≠ .complex k n m) := by
  cases a <;> simp only [V] at h
  case int => exact absurd rfl (hi _ _)
  case str => exact absurd rfl (hs _)
  case opq => simp [isOpq] at ho
  all_goals first
    | (subst h; simp; done)
    | (obtain ⟨_, _, rfl⟩ := h; simp; done)
    | (obtain ⟨_, rfl, _⟩ := h; simp; done)
    | (obtain ⟨_, _, _, _, rfl, _⟩ := h; simp; done)
    | (obtain ⟨_, _, rfl, _⟩ := h; simp; done)
theorem abinop_ok {op : BinOp} {t : TypeId} {xo yo : Operand} {a b : AV} {x y : Value} (ha : V ν E a x) (hb : V ν E b y) {r : AV} (h : abinop P op t xo yo a b = some r) :
    ∃ z, (∀ w, (do eqGuard op t xo yo x y; binOp op t x y : Sem Value).run P w = .ok z w) ∧ V ν E r z := by
  rw [abinop_eq] at h
  unfold abinop0 at h
  split at h
  · rename_i k m k' n
    have := ha.int_inv; subst this
    have := hb.int_inv; subst this
    have hg := fun w => run_eqGuard (P := P) op t xo yo (.int k m) (.int k' n) (by simp) (by simp) w
    split at h
    · obtain ⟨z, h1, h2⟩ := ashift_ok (P := P) (ν := ν) (k' := k') (.inl rfl) h
      exact ⟨z, fun w => by simp only [Sem.run_bind, hg, Result.andThen_ok, h1], h2 E⟩
    · obtain ⟨z, h1, h2⟩ := ashift_ok (P := P) (ν := ν) (k' := k') (.inr rfl) h
      exact ⟨z, fun w => by simp only [Sem.run_bind, hg, Result.andThen_ok, h1], h2 E⟩
    · split at h
      case h_2 => cases h
      rename_i hk
      have hk := of_decide_eq_true hk
      subst hk
      obtain ⟨z, h1, h2⟩ := aint_ok (P := P) (ν := ν) h
      exact ⟨z, fun w => by simp only [Sem.run_bind, hg, Result.andThen_ok, h1], h2 E⟩
  · rename_i m n
    have h1 := ha.str_all
    have h2 := hb.str_all
    have := ha.str_inv; subst this
    have := hb.str_inv; subst this
    have hg := fun w => run_eqGuard (P := P) op t xo yo (.string (bytes m)) (.string (bytes n)) (by simp) (by simp) w
    obtain ⟨z, h3, h4⟩ := astrOp_ok (P := P) (ν := ν) h1 h2 h
    exact ⟨z, fun w => by simp only [Sem.run_bind, hg, Result.andThen_ok, h3], h4 E⟩
  · rename_i hii hss
    split at h
    · cases h
    rename_i ho
    simp only [Bool.or_eq_false_iff] at ho
    split at h
    · cases h
    rename_i hgd
    have hg := fun w => run_eqGuard (P := P) op t xo yo x y (fun e1 e2 => by
        subst e1; subst e2
        rcases ha.iface_back with rfl | q
        · rcases hb.iface_back with rfl | q'
          · simpa using hgd
          · rw [ho.2] at q'; cases q'
        · rw [ho.1] at q; cases q)
      (fun u v e1 e2 => by
        subst e1; subst e2
        rcases ha.agg_back with ⟨l, rfl⟩ | q
        · rcases hb.agg_back with ⟨l', rfl⟩ | q'
          · simpa using hgd
          · rw [ho.2] at q'; cases q'
        · rw [ho.1] at q; cases q) w
    have kx : ∀ q, aeq P 30 t a b = some q → (∀ w, (binOp .eql t x y).run P w = .ok (.bool q) w) ∧ (∀ w, (binOp .neq t x y).run P w = .ok (.bool (!q)) w) := by
      intro q hq
      have he : ∀ w, (Op.equal t x y).run P w = .ok q w := fun w => aeq_ok 30 10000 (by omega) t a b x y q ha hb hq w
      by_cases hi : ∃ k n, a = .int k n
      · obtain ⟨k, n, rfl⟩ := hi
        exfalso
        simp only [aeq] at hq
        split at hq <;> try (cases hq; done)
        all_goals (split at hq <;> first | (cases hq; done) | (rename_i e _; cases e) | exact hii _ _ _ _ rfl rfl)
      · by_cases hs : ∃ l, a = .str l
        · obtain ⟨l, rfl⟩ := hs
          exfalso
          simp only [aeq] at hq
          split at hq <;> try (cases hq; done)
          all_goals (split at hq <;> first | (cases hq; done) | (rename_i e _; cases e) | exact hss _ _ rfl rfl)
        · obtain ⟨k1, k2, k3, k4⟩ := ha.kinds ho.1 (fun k n e => hi ⟨k, n, e⟩) (fun l e => hs ⟨l, e⟩)
          exact ⟨fun w => (run_binOp_eql he k1 k2 ⟨k3, k4⟩ w).1, fun w => (run_binOp_eql he k1 k2 ⟨k3, k4⟩ w).2⟩
    split at h
    · split at h
      case h_2 => cases h
      rename_i q hq
      simp only [Option.some.injEq] at h; subst h
      exact ⟨.bool q, fun w => by simp only [Sem.run_bind, hg, Result.andThen_ok, (kx q hq).1], by simp only [V]⟩
    · split at h
      case h_2 => cases h
      rename_i q hq
      simp only [Option.some.injEq] at h; subst h
      exact ⟨.bool (!q), fun w => by simp only [Sem.run_bind, hg, Result.andThen_ok, (kx q hq).2], by simp only [V]⟩
    · cases h

def aunop (op : UnOp) (v : AV) : Option AV :=
  match op, v with
  | .not, .bool b => some (.bool (!b))
  | .neg, .int k n => some (.int k (wrapq k (0 - n)))
  | .xor, .int k n => some (.int k (wrapq k ((BitVec.ofInt k.bits (if k.signed then -1 else k.max) ^^^ BitVec.ofInt k.bits n).toNat : Nat)))
  | _, _ => none
theorem aunop_ok {op : UnOp} {v : AV} {x : Value} (hv : V ν E v x) {r : AV} (h : aunop op v = some r) : ∃ z, (∀ w, (Op.unary op x).run P w = .ok z w) ∧ V ν E r z := by
  unfold aunop at h
  split at h
  · have := hv.bool_inv; subst this
    simp only [Option.some.injEq] at h; subst h
    exact ⟨_, fun w => by simp only [Op.unary]; rfl, by simp only [V]⟩
  · have := hv.int_inv; subst this
    simp only [Option.some.injEq, wrapq_eq] at h; subst h
    exact ⟨_, fun w => by simp only [Op.unary, Op.intArith]; rfl, by simp only [V]⟩
  · have := hv.int_inv; subst this
    simp only [Option.some.injEq, wrapq_eq] at h; subst h
    exact ⟨_, fun w => by simp only [Op.unary, Op.intBits]; rfl, by simp only [V]⟩
  · cases h

def toBytes : List AV → Option (List Nat)
  | [] => some []
  | .int .u8 (.ofNat n) :: vs => match Nat.blt n 256, toBytes vs with
    | true, some l => some (n :: l)
    | _, _ => none
  | _ => none
variable (P) in
def aconvert (s d : TypeId) (v : AV) (M : Mem) : Option AV :=
  match v with
  | .int _ n => match P.underlying s, P.underlying d with
    | some _, some (.int k) => some (.int k (wrapq k n))
    | some _, some .string => match n with
      | .ofNat c => match Nat.blt c 128 with
        | true => some (.str [c])
        | false => none
      | _ => none
    | _, _ => none
  | .str l => match P.underlying s, P.underlying d with
    | some _, some .string => some (.str l)
    | _, _ => none
  | _ => none
theorem aconvert_ok {s d : TypeId} {v : AV} {x : Value} (hv : V ν E v x) {r : AV} (h : aconvert P s d v M = some r) : ∃ z, (∀ w, (convert s d x).run P w = .ok z w) ∧ V ν E r z := by
  unfold aconvert at h
  split at h
  · rename_i k n
    have := hv.int_inv; subst this
    split at h
    · rename_i d1 k' hs hd
      simp only [Option.some.injEq, wrapq_eq] at h; subst h
      exact ⟨.int k' (k'.wrap n), fun w => by simp [convert, run_underlying hs, run_underlying hd, Conv.intToInt], by simp only [V]⟩
    · rename_i d1 hs hd
      split at h
      case h_2 => cases h
      rename_i c
      split at h
      case h_2 => cases h
      rename_i hc
      have hc := blt_iff.1 hc
      simp only [Option.some.injEq] at h; subst h
      have he : Utf8.encode (c : Int) = bytes [c] := by
        have hv : Utf8.valid (c : Int) = true := by
          simp only [Utf8.valid, Bool.or_eq_true, Bool.and_eq_true, decide_eq_true_eq]
          left
          omega
        simp only [Utf8.encode, hv, if_true, Int.toNat_natCast]
        rw [if_pos (by omega)]
        rfl
      exact ⟨.string (bytes [c]), fun w => by simp [convert, run_underlying hs, run_underlying hd, Conv.intToString, he], by simp only [V]; exact ⟨trivial, fun b hb => by simp at hb; omega⟩⟩
    · cases h
  · have hv0 := hv
    have := hv.str_inv; subst this
    split at h
    case h_2 => cases h
    rename_i d1 hs hd
    simp only [Option.some.injEq] at h; subst h
    exact ⟨_, fun w => by simp only [convert, Sem.run_bind, run_underlying hs, run_underlying hd, Result.andThen_ok]; rfl, hv0⟩
  · cases h

variable (P) in
def amakeIface (t : TypeId) (v : AV) : Option AV := match P.underlying t with
  | some (.interface _) => none
  | some _ => some (.iface t v)
  | none => none
theorem amakeIface_ok {t : TypeId} {v : AV} {x : Value} (hv : V ν E v x) {r : AV} (h : amakeIface P t v = some r) : ∃ z, (∀ w, (Instr.makeInterface t x).run P w = .ok z w) ∧ V ν E r z := by
  unfold amakeIface at h
  split at h
  · cases h
  · rename_i d hne hu
    simp only [Option.some.injEq] at h; subst h
    refine ⟨.iface t x, fun w => ?_, by simp only [V]; exact ⟨x, rfl, hv⟩⟩
    simp only [Instr.makeInterface, Sem.run_bind, run_underlying hu, Result.andThen_ok]
    cases d <;> first | rfl | exact absurd rfl (hne _)
  · cases h

variable (P) in
/-- Is a type one of interfaces? -/
def isIfaceT (t : TypeId) : Bool := match P.underlying t with
  | some (.interface _) => true
  | some _ => false
  | none => true
variable (P) in
/-- An assertion that what an interface holds is of a type that is none. -/
def atypeAssert (v : AV) (asserted : TypeId) (ok : Bool) : Option AV := match isIfaceT P asserted with
  | true => none
  | false => match v with
    | .iface t u => match Nat.beq t asserted, ok with
      | true, true => some (.tup [u, .bool true])
      | true, false => some u
      | false, true => match tzero P asserted with
        | some z => some (.tup [z, .bool false])
        | none => none
      | false, false => none
    | .niface => match ok with
      | true => match tzero P asserted with
        | some z => some (.tup [z, .bool false])
        | none => none
      | false => none
    | _ => none
theorem atypeAssert_ok {v : AV} {x : Value} {asserted xt : TypeId} {ok : Bool} (hv : V ν E v x) {r : AV} (h : atypeAssert P v asserted ok = some r) : ∃ z, (∀ w, (Instr.typeAssert x xt asserted ok).run P w = .ok z w) ∧ V ν E r z := by
  unfold atypeAssert at h
  split at h
  · cases h
  rename_i hi
  unfold isIfaceT at hi
  split at hi
  · cases hi
  case h_3 => cases hi
  rename_i d hne hu
  have zero : ∀ {z : AV}, tzero P asserted = some z → ∃ y, (∀ w, (zeroValue asserted).run P w = .ok y w) ∧ V ν E z y := by
    intro z hz
    unfold tzero at hz
    cases e : P.info? asserted with
    | none => rw [e] at hz; cases hz
    | some i =>
      rw [e] at hz
      simp only at hz
      cases e2 : i.zero with
      | none => rw [e2] at hz; cases hz
      | some y =>
        rw [e2] at hz
        exact ⟨y, fun w => by simp [zeroValue, typeInfo, e, e2], V.ofValue _ _ hz⟩
  split at h
  · rename_i t u
    obtain ⟨y, rfl, hy⟩ : ∃ y, x = .iface t y ∧ V ν E u y := by simpa only [V] using hv
    split at h
    · rename_i ht
      have ht := Nat.eq_of_beq_eq_true ht
      subst ht
      simp only [Option.some.injEq] at h; subst h
      refine ⟨.tuple #[y, .bool true], fun w => ?_, V.tup2 hy (by simp only [V])⟩
      simp only [Instr.typeAssert, Sem.run_bind, run_underlying hu, Result.andThen_ok]
      cases d <;> first | rfl | (simp; done) | exact absurd rfl (hne _)
    · rename_i ht
      have ht := Nat.eq_of_beq_eq_true ht
      subst ht
      simp only [Option.some.injEq] at h; subst h
      refine ⟨y, fun w => ?_, hy⟩
      simp only [Instr.typeAssert, Sem.run_bind, run_underlying hu, Result.andThen_ok]
      cases d <;> first | rfl | (simp; done) | exact absurd rfl (hne _)
    · rename_i ht
      have ht := Nat.ne_of_beq_eq_false ht
      split at h
      case h_2 => cases h
      rename_i z hz
      simp only [Option.some.injEq] at h; subst h
      obtain ⟨q, hq, hV⟩ := zero hz
      refine ⟨.tuple #[q, .bool false], fun w => ?_, V.tup2 hV (by simp only [V])⟩
      simp only [Instr.typeAssert, Sem.run_bind, run_underlying hu, Result.andThen_ok]
      cases d <;> first | exact absurd rfl (hne _) | simp [ht, hq]
    · cases h
  · have : x = .nilIface := by simpa only [V] using hv
    subst this
    split at h
    case h_2 => cases h
    split at h
    case h_2 => cases h
    rename_i z hz
    simp only [Option.some.injEq] at h; subst h
    obtain ⟨q, hq, hV⟩ := zero hz
    refine ⟨.tuple #[q, .bool false], fun w => ?_, V.tup2 hV (by simp only [V])⟩
    simp only [Instr.typeAssert, Sem.run_bind, run_underlying hu, Result.andThen_ok]
    cases d <;> first | exact absurd rfl (hne _) | simp [hq]
  · cases h

/-- max and min of two whole numbers. -/
def aminmax (mx : Bool) (l : List AV) : Option AV :=
  match l with
  | [.int k x, .int k' y] => match decide (k = k') with
    | true => some (.int k (match mx with | true => (match intLt x y with | true => y | false => x) | false => (match intLt y x with | true => y | false => x)))
    | false => none
  | _ => none
end

/-! ### facts -/
/-- What is known of operations on values of which nothing else is. -/
structure Facts where
  bin : BinOp → AV → AV → Option AV
  un : UnOp → AV → Option AV
  cv : TypeId → TypeId → AV → Option AV
def noFacts : Facts := ⟨fun _ _ _ => none, fun _ _ => none, fun _ _ _ => none⟩
class FactsOk (P : Program) (ν : Nat → Value) (Φ : Facts) : Prop where
  bin : ∀ {op : BinOp} {a b r : AV}, Φ.bin op a b = some r → ∀ {E : Env} {t : TypeId} {xo yo : Operand} {x y : Value}, V ν E a x → V ν E b y →
    ∃ z, (∀ w, (do eqGuard op t xo yo x y; binOp op t x y : Sem Value).run P w = .ok z w) ∧ V ν E r z
  un : ∀ {op : UnOp} {a r : AV}, Φ.un op a = some r → ∀ {E : Env} {x : Value}, V ν E a x → ∃ z, (∀ w, (Op.unary op x).run P w = .ok z w) ∧ V ν E r z
  cv : ∀ {s d : TypeId} {a r : AV}, Φ.cv s d a = some r → ∀ {E : Env} {x : Value}, V ν E a x → ∃ z, (∀ w, (convert s d x).run P w = .ok z w) ∧ V ν E r z
instance (P : Program) (ν : Nat → Value) : FactsOk P ν noFacts := ⟨fun h => (by cases h), fun h => (by cases h), fun h => (by cases h)⟩
def abinopF (P : Program) (Φ : Facts) (op : BinOp) (t : TypeId) (xo yo : Operand) (a b : AV) : Option AV :=
  Option.rec (motive := fun _ => Option AV) (Φ.bin op a b) (fun r => some r) (abinop P op t xo yo a b)
theorem abinopF_ok {P : Program} {ν : Nat → Value} {Φ : Facts} [hΦ : FactsOk P ν Φ] {E : Env} {op : BinOp} {t : TypeId} {xo yo : Operand} {a b : AV} {x y : Value} (ha : V ν E a x) (hb : V ν E b y) {r : AV} (h : abinopF P Φ op t xo yo a b = some r) :
    ∃ z, (∀ w, (do eqGuard op t xo yo x y; binOp op t x y : Sem Value).run P w = .ok z w) ∧ V ν E r z := by
  unfold abinopF at h
  cases e : abinop P op t xo yo a b with
  | none => rw [e] at h; exact hΦ.bin h ha hb
  | some q =>
    rw [e] at h
    have h : some q = some r := h
    simp only [Option.some.injEq] at h; subst h
    exact abinop_ok ha hb e
def aunopF (Φ : Facts) (op : UnOp) (a : AV) : Option AV :=
  Option.rec (motive := fun _ => Option AV) (Φ.un op a) (fun r => some r) (aunop op a)
theorem aunopF_ok {P : Program} {ν : Nat → Value} {Φ : Facts} [hΦ : FactsOk P ν Φ] {E : Env} {op : UnOp} {a : AV} {x : Value} (ha : V ν E a x) {r : AV} (h : aunopF Φ op a = some r) :
    ∃ z, (∀ w, (Op.unary op x).run P w = .ok z w) ∧ V ν E r z := by
  unfold aunopF at h
  cases e : aunop op a with
  | none => rw [e] at h; exact hΦ.un h ha
  | some q =>
    rw [e] at h
    have h : some q = some r := h
    simp only [Option.some.injEq] at h; subst h
    exact aunop_ok ha e

def aconvertF (P : Program) (Φ : Facts) (s d : TypeId) (a : AV) : Option AV :=
  Option.rec (motive := fun _ => Option AV) (Φ.cv s d a) (fun r => some r) (aconvert P s d a Mem.start)
theorem aconvertF_ok {P : Program} {ν : Nat → Value} {Φ : Facts} [hΦ : FactsOk P ν Φ] {E : Env} {s d : TypeId} {a : AV} {x : Value} (ha : V ν E a x) {r : AV} (h : aconvertF P Φ s d a = some r) :
    ∃ z, (∀ w, (convert s d x).run P w = .ok z w) ∧ V ν E r z := by
  unfold aconvertF at h
  cases e : aconvert P s d a Mem.start with
  | none => rw [e] at h; exact hΦ.cv h ha
  | some q =>
    rw [e] at h
    have h : some q = some r := h
    simp only [Option.some.injEq] at h; subst h
    exact aconvert_ok ha e

end Go.Proofs.YtnidkdjapieinaaDoor.Ev
