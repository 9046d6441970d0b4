/- Contract of lex.one: the lexeme at the beginning. -/
import Derived.Test.YtnidkdjapieinaaDoorLxL
namespace Go.Proofs.YtnidkdjapieinaaDoor
open Go.RowKit Go.Shelf
set_option linter.unusedSimpArgs false

def fkN : Nat → List UInt8 → Fd
  | 0 => nameK
  | 1 => conK
  | 2 => symbolK
  | 3 => numberK
  | 4 => charTK
  | 5 => textK
  | _ => markK
def oneGo : Nat → Nat → List UInt8 → Fd
  | 0, _, _ => .no
  | f + 1, k, l => (fkN k l).or (oneGo f (k + 1) l)
theorem or_id (f : Fd) : f.or .no = f := by cases f <;> rfl
theorem one_go (l : List UInt8) : oneK l = oneGo 7 0 l := by
  simp only [oneGo, fkN, or_id]
  rfl
def idN : Nat → FuncId
  | 0 => 41
  | 1 => 42
  | 2 => 43
  | 3 => 44
  | 4 => 45
  | 5 => 46
  | _ => 47
theorem find_any (k : Nat) (s : ByteArray) (hs : s.size ≤ 100000) (h0 : 0 < s.size) (w : World) :
    Calls Tryd.prog (idN k) #[.string s] w fun e w' => e = .returned (fdV (fkN k s.data.toList)) ∧ Below w.heap.size w w' :=
  match k with
  | 0 => name_any s hs h0 w
  | 1 => con_any s hs h0 w
  | 2 => symbol1_any s hs h0 w
  | 3 => number_any s hs h0 w
  | 4 => char_any s hs h0 w
  | 5 => text_any s hs h0 w
  | _ + 6 => mark_any s hs h0 w
theorem find_enter (k : Nat) : ∀ args w, (callFunc (idN k) args).run Tryd.prog w = .ok (.enter (idN k) args) w :=
  match k with
  | 0 => enters_of Tryd.func41 (by kernel_rfl) rfl
  | 1 => enters_of Tryd.func42 (by kernel_rfl) rfl
  | 2 => enters_of Tryd.func43 (by kernel_rfl) rfl
  | 3 => enters_of Tryd.func44 (by kernel_rfl) rfl
  | 4 => enters_of Tryd.func45 (by kernel_rfl) rfl
  | 5 => enters_of Tryd.func46 (by kernel_rfl) rfl
  | _ + 6 => enters_of Tryd.func47 (by kernel_rfl) rfl
def endV : Fd → Value
  | .no => fdV .bad
  | f => fdV f
theorem fd_shape (f : Fd) (hf : f ≠ .no) (hn : ∀ t n, f = .tok t n → 1 ≤ n) : ∃ (k x : Int) (u : ByteArray) (n : Int), fdV f = .tuple #[.agg #[.int .i64 k, .string u, .int .i64 x, .int .i64 0, .int .i64 0, .int .i64 0, .bool false], .int .i64 n] ∧ n ≠ 0 ∧ -1 ≤ n := by
  cases f with
  | no => exact absurd rfl hf
  | bad => exact ⟨0, 0, ⟨#[]⟩, -1, rfl, by omega, by omega⟩
  | tok t n => exact ⟨t.kind, t.num, ⟨t.text.toArray⟩, n, rfl, by have := hn t n rfl; omega, by omega⟩
abbrev arrO : Obj := .cells #[.func (.func 41) #[] #[], .func (.func 42) #[] #[], .func (.func 43) #[] #[], .func (.func 44) #[] #[], .func (.func 45) #[] #[], .func (.func 46) #[] #[], .func (.func 47) #[] #[]] 61
theorem lexemes_any (w : World) : Calls Tryd.prog 24 #[] w fun e w' => e = .returned (.slice (some ⟨w.heap.size, 0, none⟩) 7 7) ∧ w' = w.alloc arrO := by
  go_enter Tryd.func24, Tryd.ntmps24
  go_wp2
  go_ret
  exact ⟨rfl, rfl⟩
/-- The world behind the slice of finders. -/
def ArrB (w a : World) : Prop := TokB w a ∧ w.heap.size + 2 ≤ a.heap.size ∧ ∀ k, k < 7 → a.cell? ⟨w.heap.size + 1, k, none⟩ = some (.func (.func (idN k)) #[] #[])
theorem ArrB.start (w : World) : ArrB w ((w.alloc tokO).alloc arrO) := by
  refine ⟨(TokB.start w).next ((Below.refl _ _).alloc (Nat.le_refl _) _), by simp, fun k hk => ?_⟩
  have h := heap_alloc_new (w.alloc tokO) arrO
  rw [World.size_alloc] at h
  unfold World.cell?
  rw [h]
  match k, hk with
  | 0, _ => rfl
  | 1, _ => rfl
  | 2, _ => rfl
  | 3, _ => rfl
  | 4, _ => rfl
  | 5, _ => rfl
  | 6, _ => rfl
theorem ArrB.next {w a b : World} (h : ArrB w a) (k : Below a.heap.size a b) : ArrB w b :=
  ⟨h.1.next k, Nat.le_trans h.2.1 k.size, fun i hi => (k.cell (p := ⟨w.heap.size + 1, i, none⟩) (by have := h.2.1; show w.heap.size + 1 < _; omega)).trans (h.2.2 i hi)⟩

set_option maxRecDepth 100000 in
set_option maxHeartbeats 8000000 in
theorem one_any (s : ByteArray) (hs : s.size ≤ 100000) (h0 : 0 < s.size) (w : World) :
    Calls Tryd.prog 15 #[.string s] w fun e w' => e = .returned (endV (oneK s.data.toList)) ∧ Below w.heap.size w w' := by
  have Hone := Lib.hid (one_go s.data.toList)
  have Hf := Lib.hid (fun k w => find_any k s hs h0 w)
  have hstab := fun k => (show ∀ t n, fkN k s.data.toList = .tok t n → 1 ≤ n from fun t n h => by
    match k with
    | 0 => exact ((stab_name s.data.toList 1 (Nat.le_refl _)).2 t n h).1.1
    | 1 => exact ((stab_con s.data.toList 1 (Nat.le_refl _)).2 t n h).1.1
    | 2 => exact ((stab_symbol s.data.toList 1 (Nat.le_refl _)).2 t n h).1.1
    | 3 => exact ((stab_number s.data.toList 1 (Nat.le_refl _)).2 t n h).1.1
    | 4 => exact ((stab_char s.data.toList 1 (Nat.le_refl _)).2 t n h).1.1
    | 5 => exact ((stab_text s.data.toList 1 (Nat.le_refl _)).2 t n h).1.1
    | _ + 6 => exact ((stab_mark s.data.toList 1 (Nat.le_refl _)).2 t n h).1.1)
  have Hst := Lib.hid hstab
  clear hstab
  go_enter Tryd.func15, Tryd.ntmps15
  go_wp2_with (go_at_call 24; refine (lexemes_any _).mono ?_; rintro e w1 ⟨rfl, rfl⟩)
  go_loopw [10] (fun i wr => ∃ k f : Nat, i = .int .i64 k ∧ f + k = 7 ∧ ArrB w wr ∧ Hid (oneK s.data.toList = oneGo f k s.data.toList)) (fun i _ => 7 - (intOf i).toNat)
  case atStart => exact ⟨0, 7, rfl, rfl, by have := ArrB.start w; simpa using this, Hone⟩
  case round =>
    obtain ⟨k, f, rfl, hf, hA, Hk⟩ := hrel
    clear Hone
    by_cases hlt : k < 7
    · obtain ⟨g, rfl⟩ : ∃ g, f = g + 1 := ⟨f - 1, by omega⟩
      have hlt2 : decide ((k : Int) < 7) = true := by simp; omega
      have hlt3 : decide (k < 7) = true := by simp; omega
      have hc := hA.2.2 k hlt
      have hgo : oneGo (g + 1) k s.data.toList = (fkN k s.data.toList).or (oneGo g (k + 1) s.data.toList) := rfl
      have Hgo := Lib.hid (Hk.out.trans hgo)
      clear hgo
      have Hcall := Lib.hid (fun w => Hf.out k w)
      obtain ⟨F, hF⟩ : ∃ F, idN k = F := ⟨_, rfl⟩
      have eg := find_enter k
      rw [hF] at hc Hcall eg
      clear hF
      have Hst' := Lib.hid (Hst.out k)
      obtain ⟨o, ho⟩ : ∃ o, fkN k s.data.toList = o := ⟨_, rfl⟩
      rw [ho] at Hcall Hgo Hst'
      clear ho
      by_cases hno : o = .no
      · subst hno
        have Hn : Hid (oneK s.data.toList = oneGo g (k + 1) s.data.toList) := Lib.hid Hgo.out
        rw [show fdV .no = .tuple #[.agg #[.int .i64 0, .string ⟨#[]⟩, .int .i64 0, .int .i64 0, .int .i64 0, .int .i64 0, .bool false], .int .i64 0] from rfl] at Hcall
        clear Hgo
        go_wp2_with (go_at_fn F; refine (Hcall.out _).mono ?_; rintro e w2 ⟨rfl, b2⟩; have hA2 := hA.next b2)
        go_roundw
        case rel => exact ⟨k + 1, g, by go_num, by omega, hA2.next ((Below.refl _ _).alloc (Nat.le_refl _) _), Hn⟩
        case measure => simp [intOf]; omega
      · obtain ⟨kk, x, u, n, hv, hn0, hn1⟩ := fd_shape o hno Hst'.out
        have hor : o.or (oneGo g (k + 1) s.data.toList) = o := by cases o <;> first | rfl | exact absurd rfl hno
        have hend : endV o = fdV o := by cases o <;> first | rfl | exact absurd rfl hno
        have Hn := Lib.hid (show endV (oneK s.data.toList) = _ from by rw [Hgo.out, hor, hend, hv])
        have e0 : (n != 0) = true := by rw [bne_iff_ne]; exact hn0
        rw [hv] at Hcall
        clear Hgo hv hor hend hno Hst'
        go_wp2_with (go_at_fn F; refine (Hcall.out _).mono ?_; rintro e w2 ⟨rfl, b2⟩; have hA2 := hA.next b2; have hT := (hA2.next ((Below.refl _ _).alloc (Nat.le_refl _) tokO)).1; obtain ⟨⟨la, lb, lc, ld, le, lf, lg⟩, xa, xb, xc, xd, xe, xf, xg⟩ := hA2.1.cells; have hl2 := hA2.1.lt)
        exact bodyPost_ret (v := .tuple #[.agg #[.int .i64 kk, .string u, .int .i64 x, .int .i64 0, .int .i64 0, .int .i64 0, .bool false], .int .i64 n]) (by simp [results, Tryd.results15, go_sem, la, lb, lc, ld, le, lf, lg, hl2]) rfl ⟨by rw [Hn.out], Below.alloc (hA2.1.set7 _ _ _ _ _ _ _) (by simp [World.setCell]; omega) _⟩
    · obtain rfl : f = 0 := by omega
      obtain rfl : k = 7 := by omega
      have Hn := Lib.hid (show endV (oneK s.data.toList) = endV .no from by rw [Hk.out]; rfl)
      obtain ⟨⟨la, lb, lc, ld, le, lf, lg⟩, xa, xb, xc, xd, xe, xf, xg⟩ := hA.1.cells
      go_wp2
      exact bodyPost_ret (v := .tuple #[.agg #[.int .i64 0, .string ⟨#[]⟩, .int .i64 0, .int .i64 0, .int .i64 0, .int .i64 0, .bool false], .int .i64 (-1)]) (by simp [results, Tryd.results15, go_sem, la, lb, lc, ld, le, lf, lg]) rfl ⟨by rw [Hn.out]; rfl, hA.1.set7 _ _ _ _ _ _ _⟩
end Go.Proofs.YtnidkdjapieinaaDoor
