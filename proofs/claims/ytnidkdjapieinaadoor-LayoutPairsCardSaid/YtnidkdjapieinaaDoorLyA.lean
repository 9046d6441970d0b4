/- Layout: the stream as a plain machine, and what it tells. Plain. -/
import Derived.Test.YtnidkdjapieinaaDoorLxR
namespace Go.Proofs.YtnidkdjapieinaaDoor

inductive It where
  | tok (t : Tp)
  | line (n : Nat)
  | opn (n : Nat)
  | cls
structure Lxm where
  t : Tp
  imp : Bool
def isMk (c : UInt8) (t : Tp) : Bool := decide (t.t.kind = 8) && decide (t.t.text = [c])
def opensK (t : Tp) : Bool := decide (t.t.kind = 9) && (decide (t.t.text = [108, 101, 116]) || (decide (t.t.text = [119, 104, 101, 114, 101]) || (decide (t.t.text = [100, 111]) || decide (t.t.text = [111, 102]))))
def It.plain : It → Bool
  | .tok _ => false
  | _ => true
def It.isCls : It → Bool
  | .cls => true
  | _ => false
def It.toks : It → List Tp
  | .tok t => [t]
  | _ => []
def It.weigh : It → Nat
  | .tok _ => 2
  | .line _ => 1
  | .opn _ => 3
  | .cls => 1
def placeK (e : Nat) : List It → Nat
  | [] => e
  | x :: q => match x with | .tok t => t.at_ | _ => placeK e q
theorem placeK_plain (e : Nat) (x : It) (q : List It) (h : x.plain = true) : placeK e (x :: q) = placeK e q := by
  cases x with
  | tok t => cases h
  | _ => rfl
def impK (c : UInt8) (p : Nat) : Lxm := ⟨⟨⟨8, [c], 0⟩, p, 0, 0, false⟩, true⟩

inductive Ans where
  | tell (x : Lxm)
  | over
  | wrong

/-- What a taken item leads to; none: go on with the next one. -/
def stepK (p : Nat) (x : It) (q : List It) (bs : List Nat) : Option (Ans × List It × List Nat) :=
  match x with
  | .cls => some (.tell (impK 125 p), q, bs)
  | .line n => if 0 < bs.headD 0 ∧ bs.headD 0 = n then some (.tell (impK 59 p), q, bs) else if n < bs.headD 0 then some (.tell (impK 125 p), .line n :: q, bs.tail) else none
  | .opn n => if bs.headD 0 < n then some (.tell (impK 123 p), q, n :: bs) else some (.tell (impK 123 p), .cls :: .line n :: q, bs)
  | .tok t => if isMk 125 t = true then (if bs.head? = some 0 then some (.tell ⟨t, false⟩, q, bs.tail) else some (.wrong, q, bs))
    else if isMk 123 t = true then some (.tell ⟨t, false⟩, q, 0 :: bs) else some (.tell ⟨t, false⟩, q, bs)
def nextK (e : Nat) : List It → List Nat → Ans × List It × List Nat
  | [], bs => match bs with
    | [] => (.over, [], [])
    | m :: bs => if 0 < m then (.tell (impK 125 e), [], bs) else (.wrong, [], m :: bs)
  | x :: q, bs => match stepK (placeK e q) x q bs with | some r => r | none => nextK e q bs

inductive Runs (e : Nat) (q0 : List It) : List Lxm → List It → List Nat → Prop
  | start : Runs e q0 [] q0 []
  | step {xs : List Lxm} {q q' : List It} {bs bs' : List Nat} {x : Lxm} (h : Runs e q0 xs q bs) (hn : nextK e q bs = (.tell x, q', bs')) : Runs e q0 (xs ++ [x]) q' bs'

/-- What a stream weighs: each lexeme that comes makes it less. -/
def weightK (q : List It) (bs : List Nat) : Nat := (q.map It.weigh).sum + bs.length
def toksK (q : List It) : List Tp := q.flatMap It.toks
/-- The law's open braces. -/
def flagsK (q : List It) (bs : List Nat) : List Bool := (if (q.head?.map It.isCls) = some true then [true] else []) ++ bs.map (fun m => decide (0 < m))
def cleanK (q : List It) : Prop := ∀ x ∈ q.tail, x.isCls = false
def lawStep (o : List Bool) (x : Lxm) : Option (List Bool) :=
  if isMk 123 x.t = true then some (x.imp :: o)
  else if isMk 125 x.t = true then (match o with | b :: o => if b = x.imp then some o else none | [] => none)
  else some o
def lawGo : List Lxm → List Bool → Option (List Bool)
  | [], o => some o
  | x :: xs, o => (lawStep o x).bind (lawGo xs)
theorem lawGo_app (a b : List Lxm) (o : List Bool) : lawGo (a ++ b) o = (lawGo a o).bind (lawGo b) := by
  induction a generalizing o with
  | nil => rfl
  | cons x a ih => simp only [List.cons_append, lawGo]; cases lawStep o x with | none => rfl | some o => exact ih o
def ownK (xs : List Lxm) : List Tp := (xs.filter fun x => !x.imp).map Lxm.t

theorem isMk_imp (c d : UInt8) (p : Nat) : isMk c (impK d p).t = decide (d = c) := by simp [isMk, impK]
theorem isMk_ne {c d : UInt8} {t : Tp} (h : isMk c t = true) (hn : c ≠ d) : isMk d t = false := by
  simp only [isMk, Bool.and_eq_true, decide_eq_true_eq] at h
  simp [isMk, h.1, h.2, hn]

/-- One step: the braces, the tokens, the weight. -/
theorem nextK_tell (e : Nat) : ∀ (q : List It) (bs : List Nat) (x : Lxm) (q' : List It) (bs' : List Nat), cleanK q → nextK e q bs = (.tell x, q', bs') →
    lawStep (flagsK q bs) x = some (flagsK q' bs') ∧ cleanK q' ∧ (ownK [x] ++ toksK q' = toksK q) ∧ weightK q' bs' < weightK q bs
  | [], bs, x, q', bs', _, h => by
    cases bs with
    | nil => cases h
    | cons m bs =>
      simp only [nextK] at h
      split at h
      · rename_i hm
        cases h
        refine ⟨?_, (by intro z hz; simp at hz), rfl, by simp [weightK]⟩
        simp [lawStep, flagsK, impK, isMk, hm]
      · cases h
  | x :: q, bs, y, q', bs', hc, h => by
    have hq : cleanK q := fun z hz => hc z (by simpa using List.mem_of_mem_tail hz)
    have hh : (q.head?.map It.isCls) = some true → False := by
      intro hs
      cases q with
      | nil => cases hs
      | cons z q =>
        have := hc z (by simp)
        simp at hs
        rw [this] at hs; cases hs
    have hf : ∀ bs, flagsK q bs = bs.map (fun m => decide (0 < m)) := fun bs => by unfold flagsK; rw [if_neg hh]; rfl
    simp only [nextK] at h
    cases x with
    | cls =>
      simp only [stepK] at h
      cases h
      refine ⟨?_, hq, rfl, by simp [weightK, It.weigh]⟩
      rw [hf]
      simp [lawStep, flagsK, impK, isMk, It.isCls]
    | line n =>
      simp only [stepK] at h
      have hfl : flagsK (.line n :: q) bs = bs.map (fun m => decide (0 < m)) := by simp [flagsK, It.isCls]
      split at h
      · rename_i r hr
        split at hr
        · cases hr; cases h
          refine ⟨?_, hq, rfl, by simp [weightK, It.weigh]⟩
          rw [hfl, hf]
          simp [lawStep, impK, isMk]
        · split at hr
          · rename_i hlt
            cases hr; cases h
            cases bs with
            | nil => simp at hlt
            | cons m bs =>
              refine ⟨?_, hc, rfl, by simp [weightK]⟩
              rw [hfl]
              simp only [List.headD_cons] at hlt
              have : 0 < m := by omega
              simp [lawStep, flagsK, impK, isMk, It.isCls, this]
          · cases hr
      · obtain ⟨a1, a2, a3, a4⟩ := nextK_tell e q bs y q' bs' hq h
        rw [hf] at a1
        rw [hfl]
        refine ⟨a1, a2, by rw [a3]; rfl, ?_⟩
        simp only [weightK, List.map_cons, List.sum_cons] at a4 ⊢
        omega
    | opn n =>
      have hfl : flagsK (.opn n :: q) bs = bs.map (fun m => decide (0 < m)) := by simp [flagsK, It.isCls]
      simp only [stepK] at h
      split at h
      · rename_i r hr
        split at hr
        · rename_i hlt
          cases hr; cases h
          refine ⟨?_, hq, rfl, by simp [weightK, It.weigh]; omega⟩
          rw [hfl, hf]
          have : 0 < n := by omega
          simp [lawStep, impK, isMk, this]
        · cases hr; cases h
          refine ⟨?_, ?_, rfl, by simp [weightK, It.weigh]; omega⟩
          · rw [hfl]
            simp [lawStep, flagsK, impK, isMk, It.isCls]
          · intro z hz
            simp only [List.tail_cons, List.mem_cons] at hz
            rcases hz with rfl | hz
            · rfl
            · exact hc z hz
      · rename_i hr
        split at hr <;> cases hr
    | tok t =>
      have hfl : flagsK (.tok t :: q) bs = bs.map (fun m => decide (0 < m)) := by simp [flagsK, It.isCls]
      simp only [stepK] at h
      split at h
      · rename_i r hr
        split at hr
        · rename_i hm
          have hm2 := isMk_ne (d := 123) hm (by decide)
          split at hr
          · rename_i hb
            cases hr; cases h
            cases bs with
            | nil => cases hb
            | cons m bs =>
              simp only [List.head?_cons, Option.some.injEq] at hb
              subst hb
              refine ⟨?_, hq, rfl, by simp [weightK, It.weigh]; omega⟩
              rw [hfl, hf]
              simp [lawStep, hm, hm2]
          · cases hr; cases h
        · rename_i hm
          split at hr
          · rename_i hm2
            cases hr; cases h
            refine ⟨?_, hq, rfl, by simp [weightK, It.weigh]; omega⟩
            rw [hfl, hf]
            simp [lawStep, hm2]
          · rename_i hm2
            cases hr; cases h
            refine ⟨?_, hq, rfl, by simp [weightK, It.weigh]⟩
            rw [hfl, hf]
            simp [lawStep, hm, hm2]
      · rename_i hr
        split at hr
        · split at hr <;> cases hr
        · split at hr <;> cases hr

theorem Runs.all {e : Nat} {q0 : List It} {xs : List Lxm} {q : List It} {bs : List Nat} (h : Runs e q0 xs q bs) (hc : cleanK q0) (hf : flagsK q0 [] = []) :
    lawGo xs [] = some (flagsK q bs) ∧ cleanK q ∧ ownK xs ++ toksK q = toksK q0 ∧ xs.length + weightK q bs ≤ weightK q0 [] := by
  induction h with
  | start => exact ⟨by rw [hf]; rfl, hc, rfl, by simp⟩
  | @step xs q q' bs bs' x h hn ih =>
    obtain ⟨i1, i2, i3, i4⟩ := ih
    obtain ⟨a1, a2, a3, a4⟩ := nextK_tell e q bs x q' bs' i2 hn
    refine ⟨?_, a2, ?_, by simp; omega⟩
    · rw [lawGo_app, i1]
      simp [lawGo, a1]
    · rw [← i3, ← a3]
      simp [ownK]

theorem nextK_over (e : Nat) : ∀ (q : List It) (bs : List Nat) (q' : List It) (bs' : List Nat), cleanK q → nextK e q bs = (.over, q', bs') → bs = [] ∧ toksK q = [] ∧ flagsK q bs = []
  | [], bs, q', bs', _, h => by
    cases bs with
    | nil => exact ⟨rfl, rfl, rfl⟩
    | cons m bs => simp only [nextK] at h; split at h <;> cases h
  | x :: q, bs, q', bs', hc, h => by
    have hq : cleanK q := fun z hz => hc z (by simpa using List.mem_of_mem_tail hz)
    simp only [nextK] at h
    cases hs : stepK (placeK e q) x q bs with
    | some r =>
      rw [hs] at h
      simp only at h
      subst h
      cases x <;> simp only [stepK] at hs <;> (repeat' (split at hs)) <;> cases hs
    | none =>
      rw [hs] at h
      obtain ⟨b1, b2, b3⟩ := nextK_over e q bs q' bs' hq h
      subst b1
      cases x with
      | line n => exact ⟨rfl, by rw [← b2]; rfl, by simp [flagsK, It.isCls]⟩
      | cls => simp only [stepK] at hs; cases hs
      | opn n => simp only [stepK] at hs; split at hs <;> cases hs
      | tok t => simp only [stepK] at hs; (repeat' (split at hs)) <;> cases hs

/-- The items of a list of tokens: whether a block begins, the items so far. -/
def itemsK : Bool → List Tp → List It
  | o, [] => if o then [.opn 0] else []
  | o, t :: l => (if o && !isMk 123 t then [.opn t.col] else if !o && t.first then [.line t.col] else []) ++ .tok t :: itemsK (opensK t) l
theorem items_toks : ∀ (l : List Tp) (o : Bool), toksK (itemsK o l) = l
  | [], o => by cases o <;> rfl
  | t :: l, o => by
    have ih := items_toks l (opensK t)
    simp only [itemsK]
    unfold toksK at ih ⊢
    rw [List.flatMap_append, List.flatMap_cons, ih]
    split
    · rfl
    · split <;> rfl
theorem items_cls : ∀ (l : List Tp) (o : Bool), ∀ x ∈ itemsK o l, x.isCls = false
  | [], o, x, h => by
    cases o with
    | false => simp [itemsK] at h
    | true => simp [itemsK] at h; subst h; rfl
  | t :: l, o, x, h => by
    simp only [itemsK, List.mem_append, List.mem_cons] at h
    rcases h with h | rfl | h
    · split at h
      · simp at h; subst h; rfl
      · split at h
        · simp at h; subst h; rfl
        · simp at h
    · rfl
    · exact items_cls l _ x h
theorem items_len : ∀ (l : List Tp) (o : Bool), (itemsK o l).length ≤ 2 * l.length + 1
  | [], o => by cases o <;> simp [itemsK]
  | t :: l, o => by
    have := items_len l (opensK t)
    simp only [itemsK, List.length_append, List.length_cons]
    split
    · simp; omega
    · split <;> simp <;> omega
theorem items_weight (q : List It) : weightK q [] ≤ 3 * q.length := by
  induction q with
  | nil => simp [weightK]
  | cons x q ih =>
    simp only [weightK, List.map_cons, List.sum_cons, List.length_cons, List.length_nil] at ih ⊢
    have : x.weigh ≤ 3 := by cases x <;> simp [It.weigh]
    omega

/-- THE PLAIN LAW: all that came, at the end. -/
theorem runs_end {e : Nat} {l : List Tp} {xs : List Lxm} {q q' : List It} {bs bs' : List Nat} (h : Runs e (itemsK true l) xs q bs) (hn : nextK e q bs = (.over, q', bs')) :
    lawGo xs [] = some [] ∧ ownK xs = l ∧ xs.length ≤ 6 * l.length + 3 := by
  have hc : cleanK (itemsK true l) := fun x hx => items_cls l true x (List.mem_of_mem_tail hx)
  have hf : flagsK (itemsK true l) [] = [] := by
    unfold flagsK
    cases hq : itemsK true l with
    | nil => rfl
    | cons x q =>
      have := items_cls l true x (by rw [hq]; simp)
      simp [this]
  obtain ⟨a1, a2, a3, a4⟩ := h.all hc hf
  obtain ⟨b1, b2, b3⟩ := nextK_over e q bs q' bs' a2 hn
  rw [b3] at a1
  rw [b2, items_toks, List.append_nil] at a3
  exact ⟨a1, a3, by have := items_weight (itemsK true l); have := items_len l true; omega⟩
/-- At any time: no more than so many lexemes. -/
theorem runs_len {e : Nat} {l : List Tp} {xs : List Lxm} {q : List It} {bs : List Nat} (h : Runs e (itemsK true l) xs q bs) : xs.length + weightK q bs ≤ 6 * l.length + 3 := by
  have hc : cleanK (itemsK true l) := fun x hx => items_cls l true x (List.mem_of_mem_tail hx)
  have hf : flagsK (itemsK true l) [] = [] := by
    unfold flagsK
    cases hq : itemsK true l with
    | nil => rfl
    | cons x q =>
      have := items_cls l true x (by rw [hq]; simp)
      simp [this]
  obtain ⟨_, _, _, a4⟩ := h.all hc hf
  have := items_weight (itemsK true l)
  have := items_len l true
  omega
theorem place_le (e B : Nat) (he : e ≤ B) : ∀ (q : List It), (∀ t ∈ toksK q, t.at_ ≤ B) → placeK e q ≤ B
  | [], _ => he
  | x :: q, h => by
    cases x with
    | tok t => exact h t (by simp [toksK, It.toks])
    | line n => exact place_le e B he q (fun t ht => h t (by simpa [toksK, It.toks] using ht))
    | opn n => exact place_le e B he q (fun t ht => h t (by simpa [toksK, It.toks] using ht))
    | cls => exact place_le e B he q (fun t ht => h t (by simpa [toksK, It.toks] using ht))
/-- Where it is wrong. -/
theorem runs_place {e : Nat} {l : List Tp} {xs : List Lxm} {q : List It} {bs : List Nat} (h : Runs e (itemsK true l) xs q bs) (hl : ∀ t ∈ l, t.at_ ≤ e) : placeK e q ≤ e := by
  have hc : cleanK (itemsK true l) := fun x hx => items_cls l true x (List.mem_of_mem_tail hx)
  have hf : flagsK (itemsK true l) [] = [] := by
    unfold flagsK
    cases hq : itemsK true l with
    | nil => rfl
    | cons x q =>
      have := items_cls l true x (by rw [hq]; simp)
      simp [this]
  obtain ⟨_, _, a3, _⟩ := h.all hc hf
  refine place_le e e (Nat.le_refl _) q (fun t ht => hl t ?_)
  rw [items_toks] at a3
  rw [← a3]
  exact List.mem_append_right _ ht
end Go.Proofs.YtnidkdjapieinaaDoor
