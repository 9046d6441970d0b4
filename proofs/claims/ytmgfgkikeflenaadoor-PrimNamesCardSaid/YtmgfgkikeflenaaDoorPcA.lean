/- The table of primitives: what a closed call of prim.table makes, looked up by name. -/
import Derived.Test.YtmgfgkikeflenaaDoorEvX
import Derived.Test.YtmgfgkikeflenaaDoorEvT
import Derived.Test.YtmgfgkikeflenaaDoorProg
import Derived.WalkKit
namespace Go.Proofs.YtmgfgkikeflenaaDoor
open Go.RowKit
open Ev (AV Mem AObj V VL MR ME UM CFok callsT callsT_ok alookup alookup_ok)
set_option linter.unusedSimpArgs false
set_option linter.unusedVariables false
set_option maxRecDepth 100000

def nameN : Nat → List Nat
  | 0 => [97, 100, 100] | 1 => [115, 117, 98] | 2 => [109, 117, 108] | 3 => [113, 117, 111, 116] | 4 => [114, 101, 109]
  | 5 => [101, 113] | 6 => [110, 101] | 7 => [108, 116] | 8 => [108, 101] | 9 => [103, 116] | 10 => [103, 101]
  | 11 => [99, 101, 113] | 12 => [99, 108, 116] | 13 => [111, 114, 100] | 14 => [99, 104, 114]
  | 15 => [115, 101, 113] | 16 => [101, 114, 114, 111, 114] | 17 => [115, 104, 111, 119] | 18 => [114, 101, 116] | 19 => [98, 105, 110, 100]
  | 20 => [103, 101, 116, 99] | 21 => [112, 117, 116, 99] | 22 => [101, 111, 102] | 23 => [101, 120, 105, 116] | _ => []
def arN (k : Nat) : Nat := match Nat.ble 13 k with | true => 1 | false => 2
def kdN (k : Nat) : Int := match k with | 11 => 2 | 12 => 2 | 13 => 2 | _ => 1
def fnN : Nat → FuncId
  | 0 => 36 | 1 => 38 | 2 => 39 | 3 => 61 | 4 => 61
  | 5 => 43 | 6 => 45 | 7 => 46 | 8 => 47 | 9 => 48 | 10 => 49
  | 11 => 50 | 12 => 51 | 13 => 52 | _ => 53
def divN : Nat → Option FuncId
  | 3 => some 41 | 4 => some 42 | _ => none
def nameB (k : Nat) : ByteArray := Ev.bytes (nameN k)

/-- Such an entry. -/
def EntryAt (w : World) (k : Nat) (v : Value) : Prop :=
  ∃ bt o c cs, v = .agg #[.slice (some ⟨bt, o, none⟩) (arN k) c, .func (.func (fnN k)) #[] cs] ∧ bt < w.heap.size ∧ (∀ j, j < arN k → w.cell? ⟨bt, o + j, none⟩ = some (.int .i64 (kdN k))) ∧
    (match divN k with | none => cs = #[] | some g => ∃ pf p, cs = #[.pointer (some ⟨pf, p, none⟩)] ∧ pf < w.heap.size ∧ w.cell? ⟨pf, p, none⟩ = some (.func (.func g) #[] #[]))

namespace Tab
noncomputable def cellsB (K : Ev.Blk) (o : Nat) (x : Int) : Nat → Bool
  | 0 => true
  | n + 1 => (match K.get (o + n) with | some (.int .i64 y) => decide (y = x) | _ => false) && cellsB K o x n
noncomputable def divB (M : Mem) (cs : List AV) : Option FuncId → Bool
  | none => match cs with | [] => true | _ => false
  | some g => match cs with
    | [.ptr b o] => match M.get b with
      | some (.cells K) => match K.get o with
        | some (.fn f [] []) => decide (f = g)
        | _ => false
      | _ => false
    | _ => false
noncomputable def entB (k : Nat) (v : AV) (M : Mem) : Bool :=
  match v with
  | .agg [.slice bt o n c, .fn f [] cs] => match M.get bt with
    | some (.cells K) => decide (n = arN k) && (decide (f = fnN k) && (cellsB K o (kdN k) (arN k) && divB M cs (divN k)))
    | _ => false
  | _ => false
noncomputable def lookB (k : Nat) (b : Nat) (M : Mem) : Bool :=
  match alookup Tryd.prog 46 (.map b) (.str (nameN k)) true M with
  | some (.tup [v, .bool true]) => entB k v M
  | _ => false
noncomputable def looksB (b : Nat) (M : Mem) : Nat → Bool
  | 0 => true
  | n + 1 => lookB n b M && looksB b M n
def isName : AV → Bool
  | .str l => (List.range 15).any fun k => decide (l = nameN k)
  | _ => false
def keysB : List (AV × AV) → Bool
  | [] => true
  | e :: es => isName e.1 && keysB es
noncomputable def oneB : AV × Mem → Bool
  | (.map b, M) => looksB b M 15 && match M.get b with
    | some (.umap es) => keysB es
    | _ => false
  | _ => false
noncomputable def allB : List (AV × Mem) → Bool
  | [] => true
  | r :: l => oneB r && allB l
noncomputable def ansB : Option (List (AV × Mem)) → Bool
  | some l => allB l
  | none => false
set_option maxRecDepth 1000000 in
theorem runs : ansB (Ev.calls Tryd.prog Ev.noFacts 100000 60 25 [] Mem.start) = true := by kernel_rfl
theorem allB_mem : ∀ {l : List (AV × Mem)}, allB l = true → ∀ r ∈ l, oneB r = true
  | [], _, r, hr => by cases hr
  | q :: l, h, r, hr => by
    rw [allB, Bool.and_eq_true] at h
    rcases List.mem_cons.1 hr with rfl | hr
    · exact h.1
    · exact allB_mem h.2 r hr
theorem oneB_inv {v : AV} {M : Mem} (h : oneB (v, M) = true) : ∃ b es, v = .map b ∧ M.get b = some (.umap es) ∧ looksB b M 15 = true ∧ keysB es = true := by
  cases v <;> first | (simp only [oneB] at h; cases h; done) | skip
  rename_i b
  simp only [oneB, Bool.and_eq_true] at h
  obtain ⟨h1, h2⟩ := h
  split at h2
  · rename_i es e
    exact ⟨b, es, rfl, e, h1, h2⟩
  · cases h2
theorem looksB_at {b : Nat} {M : Mem} : ∀ {n : Nat}, looksB b M n = true → ∀ k, k < n → lookB k b M = true
  | 0, _, k, hk => by omega
  | n + 1, h, k, hk => by
    rw [looksB, Bool.and_eq_true] at h
    by_cases e : k = n
    · rw [e]; exact h.1
    · exact looksB_at h.2 k (by omega)
theorem keysB_at : ∀ {es : List (AV × AV)}, keysB es = true → ∀ e ∈ es, ∃ k, k < 15 ∧ e.1 = .str (nameN k)
  | [], _, e, he => by cases he
  | q :: es, h, e, he => by
    rw [keysB, Bool.and_eq_true] at h
    rcases List.mem_cons.1 he with rfl | he
    · have h1 := h.1
      cases hq : e.1 <;> rw [hq] at h1 <;> first | (simp only [isName] at h1; cases h1; done) | skip
      rename_i l
      simp only [isName] at h1
      rw [List.any_eq_true] at h1
      obtain ⟨k, hk, hd⟩ := h1
      exact ⟨k, List.mem_range.1 hk, by rw [of_decide_eq_true hd]⟩
    · exact keysB_at h.2 e he
theorem name_lt (k c : Nat) (h : c ∈ nameN k) : c < 256 := by
  unfold nameN at h
  split at h <;> simp at h <;> omega
theorem cellsB_at {K : Ev.Blk} {o : Nat} {x : Int} : ∀ {n : Nat}, cellsB K o x n = true → ∀ j, j < n → K.get (o + j) = some (.int .i64 x)
  | 0, _, j, hj => by omega
  | n + 1, h, j, hj => by
    rw [cellsB, Bool.and_eq_true] at h
    by_cases e : j = n
    · subst e
      have h1 := h.1
      split at h1
      · rename_i y e; rw [e, of_decide_eq_true h1]
      · cases h1
    · exact cellsB_at h.2 j (by omega)
variable {ν : Nat → Value} {E : Ev.Env} {B : Ev.Zone} {w0 w : World} {M : Mem}
theorem fn_inv {f : FuncId} {fs cs : List AV} {x : Value} (h : V ν E (.fn f fs cs) x) : ∃ xs1 bs, x = .func (.func f) xs1 bs ∧ VL ν E fs xs1.toList ∧ VL ν E cs bs.toList := by simpa only [V] using h
theorem nil_arr {xs1 : Array Value} (h : VL ν E [] xs1.toList) : xs1 = #[] := by
  simp only [VL] at h
  cases xs1 with | mk l => simp at h; subst h; rfl
theorem ent_of {k : Nat} {v : AV} {x : Value} (h : entB k v M = true) (hV : V ν E v x) (hM : MR ν B w0 E M w) : EntryAt w k x := by
  unfold entB at h
  split at h
  case h_2 => cases h
  rename_i bt o n c f cs
  split at h
  case h_2 => cases h
  rename_i K hK
  simp only [Bool.and_eq_true, decide_eq_true_eq] at h
  obtain ⟨rfl, rfl, hcells, hdiv⟩ := h
  obtain ⟨p, hp, hor⟩ := hM.obj bt _ hK
  simp only [V, VL] at hV
  obtain ⟨xs1, rfl, y1, ys1, e1, ⟨q, hq, rfl⟩, y2, ys2, rfl, ⟨fa, ba, rfl, hfa, hcs⟩, rfl⟩ := hV
  rw [hp] at hq
  obtain rfl := Option.some.inj hq
  obtain rfl : fa = #[] := by cases fa with | mk l => simp at hfa; subst hfa; rfl
  obtain rfl : xs1 = #[.slice (some ⟨p.1, p.2.1 + o, none⟩) (arN k) c, .func (.func (fnN k)) #[] ba] := by cases xs1 with | mk l => simp at e1; subst e1; rfl
  refine ⟨p.1, p.2.1 + o, c, ba, rfl, hor.lt, fun j hj => ?_, ?_⟩
  · obtain ⟨y, hy, hyV, _⟩ := hM.cell hK hp (cellsB_at hcells j hj)
    simp only [V] at hyV
    rw [Nat.add_assoc, hy, hyV]
  · unfold divB at hdiv
    cases hd : divN k with
    | none =>
      rw [hd] at hdiv
      cases cs with
      | nil => exact nil_arr hcs
      | cons _ _ => simp only at hdiv; cases hdiv
    | some g =>
      rw [hd] at hdiv
      simp only at hdiv
      split at hdiv
      case h_2 => cases hdiv
      rename_i b' o'
      split at hdiv
      case h_2 => cases hdiv
      rename_i K' hK'
      split at hdiv
      case h_2 => cases hdiv
      rename_i f' hf'
      obtain rfl := of_decide_eq_true hdiv
      obtain ⟨p', hp', hor'⟩ := hM.obj b' _ hK'
      obtain ⟨y, hy, hyV, _⟩ := hM.cell hK' hp' hf'
      obtain ⟨xs1, bs, rfl, h1, h2⟩ := fn_inv hyV
      obtain rfl := nil_arr h1
      obtain rfl := nil_arr h2
      simp only [VL, V] at hcs
      obtain ⟨z, zs, e3, ⟨q, hq, rfl⟩, rfl⟩ := hcs
      rw [hp'] at hq
      obtain rfl := Option.some.inj hq
      exact ⟨p'.1, p'.2.1 + o', by cases ba with | mk l => simp at e3; subst e3; rfl, hor'.lt, hy⟩
end Tab

theorem mix : Tryd.prog.follows .mixedOrders = true := by kernel_rfl
theorem keyS : Ev.keyDesc Tryd.prog 9 = some .string := by kernel_rfl
theorem bytes_beq (a b : ByteArray) : (a == b) = decide (a = b) := by
  rw [Bool.eq_iff_iff, decide_eq_true_eq]
  cases a with | mk x => cases b with | mk y =>
  show (x == y) = true ↔ _
  rw [beq_iff_eq, ByteArray.mk.injEq]
theorem same_str (a b : ByteArray) : Instr.sameNow .string (.string a) (.string b) = some (decide (a = b)) := by rw [show Instr.sameNow .string (.string a) (.string b) = some (a == b) from rfl]; congr 1; exact bytes_beq a b

def zeroEntry : Value := .agg #[.slice none 0 0, .nilFunc]
theorem zeroE (w : World) : (zeroValue 50).run Tryd.prog w = .ok zeroEntry w := Tryd.zeroValue50 w

/-- The table is made: what a look-up by each name gives. -/
theorem table_any (w : World) : Calls Tryd.prog 25 #[] w fun e w' => ∃ b, e = .returned (.map (some b)) ∧ Below w.heap.size w w' ∧
    (∀ k, k < 15 → ∃ v, (Instr.lookup 46 (.map (some b)) (.string (nameB k)) true).run Tryd.prog w' = .ok (.tuple #[v, .bool true]) w' ∧ EntryAt w' k v) ∧
    (∀ s, (∀ k, k < 15 → s ≠ nameB k) → (Instr.lookup 46 (.map (some b)) (.string s) true).run Tryd.prog w' = .ok (.tuple #[zeroEntry, .bool false]) w' ∧ (Instr.lookup 46 (.map (some b)) (.string s) false).run Tryd.prog w' = .ok zeroEntry w') := by
  have h := Tab.runs
  cases e : Ev.calls Tryd.prog Ev.noFacts 100000 60 25 [] Mem.start with
  | none => rw [e] at h; cases h
  | some l =>
    rw [e] at h
    have hall := Tab.allB_mem (show Tab.allB l = true from h)
    refine Calls.mono (Ev.calls_ok (ν := fun _ => undef) mix 100000 60 _ _ 25 [] Mem.start l e rfl (fun _ => none) #[] w (by simp only [VL]) (MR.start w)) fun e w' he => ?_
    obtain ⟨⟨v, M⟩, hr, E', x, _, rfl, hx, hM, _⟩ := he
    obtain ⟨b, es, rfl, hg, hl, hk⟩ := Tab.oneB_inv (hall _ hr)
    have hx0 := hx
    simp only [V] at hx
    obtain ⟨q, hq, rfl⟩ := hx
    refine ⟨q.1, rfl, hM.low, fun k hk15 => ?_, fun s hs => ?_⟩
    · have hlk := Tab.looksB_at hl k hk15
      unfold Tab.lookB at hlk
      split at hlk
      case h_2 => cases hlk
      rename_i v ha
      obtain ⟨z, hz, hzV⟩ := alookup_ok hM hx0 (y := .string (nameB k)) (show V _ E' (.str (nameN k)) _ by simp only [V]; exact ⟨rfl, Tab.name_lt k⟩) ha
      simp only [V, VL] at hzV
      obtain ⟨xs1, rfl, y1, ys1, e1, h1, y2, ys2, rfl, rfl, rfl⟩ := hzV
      obtain rfl : xs1 = #[y1, .bool true] := by cases xs1 with | mk l => simp at e1; subst e1; rfl
      exact ⟨y1, hz, Tab.ent_of hlk h1 hM⟩
    · obtain ⟨p, hp, ho⟩ := hM.obj b _ hg
      rw [hq] at hp
      obtain rfl := Option.some.inj hp
      obtain ⟨ms, ck, h1, h2, _⟩ := ho
      have hn : Instr.findNow .string (.string s) ms.toList 0 = some none := Ev.findNow_none fun m hm => by
        obtain ⟨e, he, hke, _⟩ := h2.1 m hm
        obtain ⟨k, hk15, ek⟩ := Tab.keysB_at hk e he
        rw [ek] at hke
        simp only [V] at hke
        rw [hke.1, same_str]
        have : ¬ s = Ev.bytes (nameN k) := hs k hk15
        rw [decide_eq_false this]
      constructor
      · simp only [Instr.lookup, Sem.run_bind, run_underlying Tryd.underlying46, Result.andThen_ok, Ev.run_getMap h1, Sem.run_pure, Ev.run_checkKey keyS]
        simp [Ev.run_findKey keyS hn, zeroE]
        rfl
      · simp only [Instr.lookup, Sem.run_bind, run_underlying Tryd.underlying46, Result.andThen_ok, Ev.run_getMap h1, Sem.run_pure, Ev.run_checkKey keyS]
        simp [Ev.run_findKey keyS hn, zeroE]
        rfl
end Go.Proofs.YtmgfgkikeflenaaDoor
