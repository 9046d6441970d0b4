/- Layout: New. -/
import Derived.Test.YtnidkdjapieinaaDoorLyL
import Derived.Test.YtnidkdjapieinaaDoorLcA
import Derived.Deep.AppendLies
import Derived.Deep.CutBlock
namespace Go.Proofs.YtnidkdjapieinaaDoor
open Go.RowKit Go.Shelf
set_option linter.unusedSimpArgs false
set_option linter.unusedVariables false

theorem Blk.grown {a a1 : World} {r : Option Nat} {b : Nat} {c : Array Value} (h : Blk a b c) (hg : a.grownBy a1 r) (hn : some b ≠ r) : Blk a1 b c := h.of_same (hg.block b h.lt hn) hg.size
/-- New at work: the stream's block and its items. -/
structure NO (W Wc : World) (e : Nat) (vi : Value) (is_ : List It) : Prop where
  blk : Blk Wc W.heap.size #[.slice none 0 0, vi, .int .i64 0, .slice none 0 0, .int .i64 e, .bool true]
  own : Wc.ownsRow (W.heap.size + 1) 68 9 vi is_.length ((is_.map It.cells).flatten)
  bel : Below W.heap.size W Wc
theorem NO.below {W Wc Wd : World} {e : Nat} {vi : Value} {is_ : List It} (h : NO W Wc e vi is_) (hb : Below Wc.heap.size Wc Wd) : NO W Wd e vi is_ :=
  ⟨h.blk.below hb h.blk.lt, own_on h.own hb (own_lt h.own), h.bel.trans (hb.mono h.bel.size)⟩
/-- .. and the token's block. -/
structure NI (W Wc : World) (T : Nat) (t : Tp) (e : Nat) (vi : Value) (is_ : List It) : Prop extends NO W Wc e vi is_ where
  tok : Blk Wc T (tokC t).toArray
  far : vi.ownBlock ≠ some T
  lt : W.heap.size < T
theorem NI.start {W Wc : World} {e : Nat} {vi : Value} {is_ : List It} (h : NO W Wc e vi is_) (t : Tp) (ty : TypeId) : NI W (Wc.alloc (.cells (tokC t).toArray ty)) Wc.heap.size t e vi is_ :=
  ⟨h.below ((Below.refl _ _).alloc (Nat.le_refl _) _), Blk.new _ _ _, (fun hh => by have := own_lt h.own _ hh; omega), h.blk.lt⟩
theorem NI.below_ {W Wc Wd : World} {T : Nat} {t : Tp} {e : Nat} {vi : Value} {is_ : List It} (h : NI W Wc T t e vi is_) (hb : Below Wc.heap.size Wc Wd) : NI W Wd T t e vi is_ :=
  ⟨h.toNO.below hb, h.tok.below hb h.tok.lt, h.far, h.lt⟩
theorem NI.step {W Wc w5 : World} {T g cap m : Nat} {t : Tp} {e : Nat} {vi : Value} {is_ : List It} {ys : List Value} {o : Obj} (h : NI W Wc T t e vi is_) (hg : (Wc.alloc o).drew.grownBy w5 vi.ownBlock) (hown : w5.ownsRow (W.heap.size + 1) 68 9 (.slice (some ⟨g, 0, none⟩) m cap) m ys) (hat : vi.ownBlock = some g ∨ g = (Wc.alloc o).drew.heap.size) :
    Blk w5 W.heap.size #[.slice none 0 0, vi, .int .i64 0, .slice none 0 0, .int .i64 e, .bool true] ∧ Blk w5 T (tokC t).toArray ∧ g ≠ T ∧ W.heap.size < g ∧ Below W.heap.size W w5 := by
  have h1 : some W.heap.size ≠ vi.ownBlock := fun e => by have := own_from h.own _ e.symm; omega
  refine ⟨((h.blk.alloc o).drew).grown hg h1, ((h.tok.alloc o).drew).grown hg (fun e => h.far e.symm), ?_, ?_, ?_⟩
  · rcases hat with hat | rfl
    · intro e; subst e; exact h.far hat
    · have := h.tok.lt; simp; omega
  · have := own_from hown g rfl; omega
  · exact ((h.bel.alloc h.bel.size o).drew).grown hg (by have := h.bel.size; simp; omega) (fun k hk => by have := own_from h.own k hk; omega)
theorem NI.put {W w5 : World} {T g cap n e : Nat} {t : Tp} {vi : Value} {is_ : List It} {x : It} (jb : Blk w5 W.heap.size #[.slice none 0 0, vi, .int .i64 0, .slice none 0 0, .int .i64 e, .bool true]) (jt : Blk w5 T (tokC t).toArray) (jg : g ≠ T) (jl : W.heap.size < g) (jB : Below W.heap.size W w5) (hlt : W.heap.size < T)
    (hown : w5.ownsRow (W.heap.size + 1) 68 9 (.slice (some ⟨g, 0, none⟩) (n + 1) cap) (n + 1) ((is_.map It.cells).flatten ++ x.cells)) (hn : n = is_.length) :
    NI W (w5.setCell ⟨W.heap.size, 1, none⟩ (.slice (some ⟨g, 0, none⟩) (n + 1) cap)) T t e (.slice (some ⟨g, 0, none⟩) (n + 1) cap) (is_ ++ [x]) := by
  have o := (Only.refl W.heap.size w5).set 1 (.slice (some ⟨g, 0, none⟩) (n + 1) cap)
  refine ⟨⟨jb.set 1 _ (by simp), ?_, jB.trans (o.below (Nat.le_refl _))⟩, o.blk jt (by omega), (fun hh => jg (by simpa [Value.ownBlock] using hh)), hlt⟩
  have := o.own hown (fun hh => by simp [Value.ownBlock] at hh; omega)
  rw [List.map_append, List.flatten_append, List.length_append, ← hn]
  simpa using this

theorem NO.step {W Wc w5 : World} {g cap m : Nat} {e : Nat} {vi : Value} {is_ : List It} {ys : List Value} {o : Obj} (h : NO W Wc e vi is_) (hg : (Wc.alloc o).grownBy w5 vi.ownBlock) (hown : w5.ownsRow (W.heap.size + 1) 68 9 (.slice (some ⟨g, 0, none⟩) m cap) m ys) (hat : vi.ownBlock = some g ∨ g = (Wc.alloc o).heap.size) :
    Blk w5 W.heap.size #[.slice none 0 0, vi, .int .i64 0, .slice none 0 0, .int .i64 e, .bool true] ∧ W.heap.size < g ∧ Below W.heap.size W w5 := by
  have h1 : some W.heap.size ≠ vi.ownBlock := fun e => by have := own_from h.own _ e.symm; omega
  refine ⟨(h.blk.alloc o).grown hg h1, ?_, ?_⟩
  · have := own_from hown g rfl; omega
  · exact (h.bel.alloc h.bel.size o).grown hg (by have := h.bel.size; simp; omega) (fun k hk => by have := own_from h.own k hk; omega)
theorem NO.put {W w5 : World} {g cap n e : Nat} {vi : Value} {is_ : List It} {x : It} (jb : Blk w5 W.heap.size #[.slice none 0 0, vi, .int .i64 0, .slice none 0 0, .int .i64 e, .bool true]) (jl : W.heap.size < g) (jB : Below W.heap.size W w5)
    (hown : w5.ownsRow (W.heap.size + 1) 68 9 (.slice (some ⟨g, 0, none⟩) (n + 1) cap) (n + 1) ((is_.map It.cells).flatten ++ x.cells)) (hn : n = is_.length) :
    NO W (w5.setCell ⟨W.heap.size, 1, none⟩ (.slice (some ⟨g, 0, none⟩) (n + 1) cap)) e (.slice (some ⟨g, 0, none⟩) (n + 1) cap) (is_ ++ [x]) := by
  have o := (Only.refl W.heap.size w5).set 1 (.slice (some ⟨g, 0, none⟩) (n + 1) cap)
  refine ⟨jb.set 1 _ (by simp), ?_, jB.trans (o.below (Nat.le_refl _))⟩
  have := o.own hown (fun hh => by simp [Value.ownBlock] at hh; omega)
  rw [List.map_append, List.flatten_append, List.length_append, ← hn]
  simpa using this
theorem items_pos (ts : List Tp) : 0 < (itemsK true ts).length := by
  cases ts with
  | nil => simp [itemsK]
  | cons t l => simp [itemsK]; omega
theorem NO.fin {W Wc : World} {e : Nat} {vi : Value} {is_ : List It} {ts : List Tp} (h : NO W Wc e vi is_) (hs : is_ = itemsK true ts) (hl : is_.length ≤ 1000000) :
    St Wc (fun i => i = W.heap.size) W.heap.size e (itemsK true ts) [] ∧ Below W.heap.size W Wc := by
  refine ⟨⟨⟨_, h.blk, .slice none 0 0, vi, .slice none 0 0, [], is_, 0, rfl, .inl ⟨rfl, rfl⟩, own_rd h.own (by simp) (by intro y hy; obtain ⟨z, _, rfl⟩ := List.mem_map.1 hy; exact cells_len z) (fun i hi => by omega), .inl ⟨rfl, rfl⟩, Nat.zero_le _, by rw [hs]; exact items_pos ts, hl, (by intro x hx; cases hx), by rw [hs]; rfl⟩, rfl, ?_⟩, h.bel⟩
  rintro i rfl
  exact h.blk.lt
set_option maxRecDepth 100000 in
set_option maxHeartbeats 8000000 in
theorem New_any (v : Value) (ts : List Tp) (e : Nat) (W : World) (hv : TRd W v ts) (hl : ts.length ≤ 100000) :
    Calls Tryd.prog 16 #[v, .int .i64 e] W fun ex w' => ∃ sb, ex = .returned (.pointer (some ⟨sb, 0, none⟩)) ∧ St w' (fun i => i = sb) sb e (itemsK true ts) [] ∧ Below W.heap.size W w' ∧ W.heap.size ≤ sb := by
  obtain ⟨a, cap0, rfl, hr⟩ := hv
  obtain ⟨i0, hi, hz0, hz1, hz2⟩ := info_parts infoI
  obtain ⟨N, hN⟩ : ∃ N, ts.length = N := ⟨_, rfl⟩
  have HN := Lib.hid hN
  rw [hN] at hl ⊢
  have Hr := Lib.hid hr
  clear hr hN
  go_enter Tryd.func16, Tryd.ntmps16
  go_wp2
  go_loopw [6, 14] (fun o i wr => ∃ (ob : Bool) (k : Nat) (vi : Value) (is_ : List It), o = .bool ob ∧ i = .int .i64 k ∧ k ≤ N ∧ NO W wr e vi is_ ∧ Hid (is_ ++ itemsK ob (ts.drop k) = itemsK true ts)) (fun o i _ => N - (intOf i).toNat)
  case atStart => exact ⟨true, 0, .slice none 0 0, [], rfl, rfl, Nat.zero_le _, ⟨Blk.new _ _ _, World.ownsRow_nil _ _ _ _, (Below.refl _ _).alloc (Nat.le_refl _) _⟩, Lib.hid rfl⟩
  case round =>
    obtain ⟨ob, k, vi, is_, rfl, rfl, hk, HO, HS⟩ := hrel
    obtain ⟨p, c, rfl⟩ := own_shape HO.own
    have hlen : is_.length ≤ 200001 := by
      have h1 := congrArg List.length HS.out
      have h2 := items_len ts true
      rw [List.length_append] at h1
      rw [HN.out] at h2
      omega
    by_cases hlt : k < N
    · have e1 : decide ((k : Int) < (N : Int)) = true := by simp; omega
      have e2 : decide (k < N) = true := by simp; omega
      have hkt : k < ts.length := by rw [HN.out]; exact hlt
      obtain ⟨b, rfl, hb, hat⟩ := Hr.out (by omega)
      obtain ⟨y0, y1, y2, y3, y4, y5, y6⟩ := hat k hkt
      have hdrop : ts.drop k = ts[k] :: ts.drop (k + 1) := List.drop_eq_getElem_cons hkt
      have HS2 := HS.out
      rw [hdrop] at HS2
      simp only [itemsK] at HS2
      generalize ts[k] = t at y0 y1 y2 y3 y4 y5 y6 HS2
      have HS3 := Lib.hid HS2
      have hbW := HO.bel
      rw [← hbW.cell (p := ⟨b, k * 7, none⟩) hb] at y0
      rw [← hbW.cell (p := ⟨b, k * 7 + 1, none⟩) hb] at y1
      rw [← hbW.cell (p := ⟨b, k * 7 + 2, none⟩) hb] at y2
      rw [← hbW.cell (p := ⟨b, k * 7 + 3, none⟩) hb] at y3
      rw [← hbW.cell (p := ⟨b, k * 7 + 4, none⟩) hb] at y4
      rw [← hbW.cell (p := ⟨b, k * 7 + 5, none⟩) hb] at y5
      rw [← hbW.cell (p := ⟨b, k * 7 + 6, none⟩) hb] at y6
      have HI0 := NI.start HO t 35
      have Kop := Lib.hid (fun w => opens_any t w)
      have hmk := fun w => isMark_any t 123 w
      obtain ⟨mk, hmk2⟩ : ∃ mk, isMk 123 t = mk := ⟨_, rfl⟩
      obtain ⟨ft, hft⟩ : ∃ ft, t.first = ft := ⟨_, rfl⟩
      rw [hmk2] at hmk
      have Kmk := Lib.hid hmk
      have HMK := Lib.hid hmk2
      have HFT := Lib.hid hft
      simp only [tokC] at HI0 Kop Kmk
      clear hdrop hat HS HS2 hbW hmk hmk2 hft HO
      cases ob with
      | false =>
        cases ft with
        | true =>
          skip
          go_upto_block 2 with fail
          generalize wr.alloc (.cells #[.int .i64 t.t.kind, .string ⟨t.t.text.toArray⟩, .int .i64 t.t.num, .int .i64 t.at_, .int .i64 t.line, .int .i64 t.col, .bool t.first] 35) = Wc at HI0 ⊢
          have HI := HI0
          clear HI0
          go_cut [] (fun wx => ∃ p c, NI W wx wr.heap.size t e (.slice p (is_.length + 1) c) (is_ ++ [.line t.col]))
          case first =>
            have HF2 := HFT.out
            have x0 := HI.tok.cell 0
            have x1 := HI.tok.cell 1
            have x2 := HI.tok.cell 2
            have x3 := HI.tok.cell 3
            have x4 := HI.tok.cell 4
            have x5 := HI.tok.cell 5
            have x6 := HI.tok.cell 6
            simp only [tokC, List.getElem?_toArray, List.getElem?_cons_zero, List.getElem?_cons_succ] at x0 x1 x2 x3 x4 x5 x6
            go_upto_region 9 with fail
            have c1 := HI.blk.cell 1
            have f1 := HI.blk.free 1
            simp only [List.getElem?_toArray, List.getElem?_cons_zero, List.getElem?_cons_succ] at c1
            have x0 := HI.tok.cell 0
            have x1 := HI.tok.cell 1
            have x2 := HI.tok.cell 2
            have x3 := HI.tok.cell 3
            have x4 := HI.tok.cell 4
            have x5 := HI.tok.cell 5
            have x6 := HI.tok.cell 6
            simp only [tokC, List.getElem?_toArray, List.getElem?_cons_zero, List.getElem?_cons_succ] at x0 x1 x2 x3 x4 x5 x6
            have hTs : ¬ wr.heap.size = W.heap.size := by have := HI.lt; omega
            have hTs' : ¬ W.heap.size = wr.heap.size := by have := HI.lt; omega
            have hTl := HI.tok.lt
            have hTl' := HI.blk.lt
            go_region_law (refine step_append_lies _ (by rfl) _ _ _ (by rfl) (W.heap.size + 1) 68 i0 (.agg #[.int .i64 0, .int .i64 0, .int .i64 0, .string ⟨#[]⟩, .int .i64 0, .int .i64 0, .int .i64 0, .int .i64 0, .bool false]) 9 80 Tryd.underlying62 hi hz0 hz1 hz2 rfl (by decide) _ is_.length ((is_.map It.cells).flatten) (by rfl) (HI.own.alloc _) ⟨Wc.heap.size, 0, none⟩ 1 1 [.int .i64 1, .int .i64 t.col, .int .i64 0, .string ⟨#[]⟩, .int .i64 0, .int .i64 0, .int .i64 0, .int .i64 0, .bool false] (by rfl) (by rfl) (cells9_new _ _ _ _ _ _ _ _ _ _ _ 68 rfl) (by simp [Value.oneCell']) (by decide) (by have := hlen; unfold maxLen; omega) (by have := hlen; omega) (by have := HI.blk.lt; simp; omega) _ rfl ?_; intro g cap w5 hown hgrow hat hglt; obtain ⟨jb, jt, jg, jl, jB⟩ := HI.step hgrow hown hat; have q1 := jb.cell 1; have p1 := jb.free 1; simp only [List.getElem?_toArray, List.getElem?_cons_zero, List.getElem?_cons_succ] at q1)
            all_goals
              go_wp2
              go_meet
              exact ⟨_, _, NI.put jb jt jg jl jB HI.lt (by simpa [It.cells, noTok, tokC] using hown) rfl⟩
          case rest =>
            obtain ⟨pv, cv, HI2⟩ := hcut
            obtain ⟨is2, hi2, hl2⟩ : ∃ l, is_ ++ [.line t.col] = l ∧ is_.length + 1 = l.length := ⟨_, rfl, by simp⟩
            rw [hi2, hl2] at HI2
            have Hi2 := Lib.hid hi2
            replace hlen : is2.length ≤ 200002 := by omega
            clear hi2 hl2
            go_upto_region 10 with fail
            have c1 := HI2.blk.cell 1
            have f1 := HI2.blk.free 1
            simp only [List.getElem?_toArray, List.getElem?_cons_zero, List.getElem?_cons_succ] at c1
            have x0 := HI2.tok.cell 0
            have x1 := HI2.tok.cell 1
            have x2 := HI2.tok.cell 2
            have x3 := HI2.tok.cell 3
            have x4 := HI2.tok.cell 4
            have x5 := HI2.tok.cell 5
            have x6 := HI2.tok.cell 6
            simp only [tokC, List.getElem?_toArray, List.getElem?_cons_zero, List.getElem?_cons_succ] at x0 x1 x2 x3 x4 x5 x6
            have hTs : ¬ wr.heap.size = W.heap.size := by have := HI2.lt; omega
            have hTs' : ¬ W.heap.size = wr.heap.size := by have := HI2.lt; omega
            have hTl := HI2.tok.lt
            have hTl' := HI2.blk.lt
            go_cut [] (fun wx => ∃ p c, NI W wx wr.heap.size t e (.slice p (is2.length + 1) c) (is2 ++ [.tok t]))
            case first =>
              go_region_law (refine step_append_lies _ (by rfl) _ _ _ (by rfl) (W.heap.size + 1) 68 i0 (.agg #[.int .i64 0, .int .i64 0, .int .i64 0, .string ⟨#[]⟩, .int .i64 0, .int .i64 0, .int .i64 0, .int .i64 0, .bool false]) 9 80 Tryd.underlying62 hi hz0 hz1 hz2 rfl (by decide) _ is2.length ((is2.map It.cells).flatten) (by rfl) (HI2.own.alloc _) ⟨wc.heap.size, 0, none⟩ 1 1 [.int .i64 0, .int .i64 0, .int .i64 t.t.kind, .string ⟨t.t.text.toArray⟩, .int .i64 t.t.num, .int .i64 t.at_, .int .i64 t.line, .int .i64 t.col, .bool t.first] (by rfl) (by rfl) (cells9_new _ _ _ _ _ _ _ _ _ _ _ 68 rfl) (by simp [Value.oneCell']) (by decide) (by have := hlen; unfold maxLen; omega) (by have := hlen; omega) (by have := HI2.blk.lt; simp; omega) _ rfl ?_; intro g cap w5 hown hgrow hat hglt; obtain ⟨jb, jt, jg, jl, jB⟩ := HI2.step hgrow hown hat; have q1 := jb.cell 1; have p1 := jb.free 1; simp only [List.getElem?_toArray, List.getElem?_cons_zero, List.getElem?_cons_succ] at q1)
              all_goals
                go_wp2
                go_meet
                exact ⟨_, _, NI.put jb jt jg jl jB HI2.lt (by simpa [It.cells, noTok, tokC] using hown) rfl⟩
            case rest =>
              obtain ⟨pv, cv, HI3⟩ := hcut
              clear c1 f1 x0 x1 x2 x3 x4 x5 x6 hTs hTs' hTl hTl'
              have HS4 : Hid (is2 ++ [It.tok t] ++ itemsK (opensK t) (ts.drop (k + 1)) = itemsK true ts) := Lib.hid (by have h := HS3.out; rw [← Hi2.out]; simp only [Bool.false_and, Bool.not_false, Bool.true_and, HFT.out, if_true, Bool.false_eq_true, if_false] at h; rw [← h]; simp)
              have x0 := HI3.tok.cell 0
              have x1 := HI3.tok.cell 1
              have x2 := HI3.tok.cell 2
              have x3 := HI3.tok.cell 3
              have x4 := HI3.tok.cell 4
              have x5 := HI3.tok.cell 5
              have x6 := HI3.tok.cell 6
              simp only [tokC, List.getElem?_toArray, List.getElem?_cons_zero, List.getElem?_cons_succ] at x0 x1 x2 x3 x4 x5 x6
              go_wp2_with (go_at_call 26; refine (Kop.out _).mono ?_; rintro ex w9 ⟨rfl, b9⟩)
              go_roundw
              case rel => exact ⟨opensK t, k + 1, _, _, rfl, by go_num, by omega, HI3.toNO.below b9, HS4⟩
              case measure => simp [intOf]; omega
        | false =>
          go_upto_block 2 with fail
          generalize wr.alloc (.cells #[.int .i64 t.t.kind, .string ⟨t.t.text.toArray⟩, .int .i64 t.t.num, .int .i64 t.at_, .int .i64 t.line, .int .i64 t.col, .bool t.first] 35) = Wc at HI0 ⊢
          have HI := HI0
          clear HI0
          have HF2 := HFT.out
          have x0 := HI.tok.cell 0
          have x1 := HI.tok.cell 1
          have x2 := HI.tok.cell 2
          have x3 := HI.tok.cell 3
          have x4 := HI.tok.cell 4
          have x5 := HI.tok.cell 5
          have x6 := HI.tok.cell 6
          simp only [tokC, List.getElem?_toArray, List.getElem?_cons_zero, List.getElem?_cons_succ] at x0 x1 x2 x3 x4 x5 x6
          go_upto_region 10 with fail
          clear HF2 x0 x1 x2 x3 x4 x5 x6
          have c1 := HI.blk.cell 1
          have f1 := HI.blk.free 1
          simp only [List.getElem?_toArray, List.getElem?_cons_zero, List.getElem?_cons_succ] at c1
          have x0 := HI.tok.cell 0
          have x1 := HI.tok.cell 1
          have x2 := HI.tok.cell 2
          have x3 := HI.tok.cell 3
          have x4 := HI.tok.cell 4
          have x5 := HI.tok.cell 5
          have x6 := HI.tok.cell 6
          simp only [tokC, List.getElem?_toArray, List.getElem?_cons_zero, List.getElem?_cons_succ] at x0 x1 x2 x3 x4 x5 x6
          have hTs : ¬ wr.heap.size = W.heap.size := by have := HI.lt; omega
          have hTs' : ¬ W.heap.size = wr.heap.size := by have := HI.lt; omega
          have hTl := HI.tok.lt
          have hTl' := HI.blk.lt
          go_cut [] (fun wx => ∃ p c, NI W wx wr.heap.size t e (.slice p (is_.length + 1) c) (is_ ++ [.tok t]))
          case first =>
            go_region_law (refine step_append_lies _ (by rfl) _ _ _ (by rfl) (W.heap.size + 1) 68 i0 (.agg #[.int .i64 0, .int .i64 0, .int .i64 0, .string ⟨#[]⟩, .int .i64 0, .int .i64 0, .int .i64 0, .int .i64 0, .bool false]) 9 80 Tryd.underlying62 hi hz0 hz1 hz2 rfl (by decide) _ is_.length ((is_.map It.cells).flatten) (by rfl) (HI.own.alloc _) ⟨Wc.heap.size, 0, none⟩ 1 1 [.int .i64 0, .int .i64 0, .int .i64 t.t.kind, .string ⟨t.t.text.toArray⟩, .int .i64 t.t.num, .int .i64 t.at_, .int .i64 t.line, .int .i64 t.col, .bool t.first] (by rfl) (by rfl) (cells9_new _ _ _ _ _ _ _ _ _ _ _ 68 rfl) (by simp [Value.oneCell']) (by decide) (by have := hlen; unfold maxLen; omega) (by have := hlen; omega) (by have := HI.blk.lt; simp; omega) _ rfl ?_; intro g cap w5 hown hgrow hat hglt; obtain ⟨jb, jt, jg, jl, jB⟩ := HI.step hgrow hown hat; have q1 := jb.cell 1; have p1 := jb.free 1; simp only [List.getElem?_toArray, List.getElem?_cons_zero, List.getElem?_cons_succ] at q1)
            all_goals
              go_wp2
              go_meet
              exact ⟨_, _, NI.put jb jt jg jl jB HI.lt (by simpa [It.cells, noTok, tokC] using hown) rfl⟩
          case rest =>
            obtain ⟨pv, cv, HI3⟩ := hcut
            clear c1 f1 x0 x1 x2 x3 x4 x5 x6 hTs hTs' hTl hTl'
            have HS4 : Hid (is_ ++ [It.tok t] ++ itemsK (opensK t) (ts.drop (k + 1)) = itemsK true ts) := Lib.hid (by have h := HS3.out; simp only [Bool.false_and, Bool.not_false, Bool.true_and, HFT.out, Bool.false_eq_true, if_false] at h; rw [← h]; simp)
            have x0 := HI3.tok.cell 0
            have x1 := HI3.tok.cell 1
            have x2 := HI3.tok.cell 2
            have x3 := HI3.tok.cell 3
            have x4 := HI3.tok.cell 4
            have x5 := HI3.tok.cell 5
            have x6 := HI3.tok.cell 6
            simp only [tokC, List.getElem?_toArray, List.getElem?_cons_zero, List.getElem?_cons_succ] at x0 x1 x2 x3 x4 x5 x6
            go_wp2_with (go_at_call 26; refine (Kop.out _).mono ?_; rintro ex w9 ⟨rfl, b9⟩)
            go_roundw
            case rel => exact ⟨opensK t, k + 1, _, _, rfl, by go_num, by omega, HI3.toNO.below b9, HS4⟩
            case measure => simp [intOf]; omega
      | true =>
        cases mk with
        | false =>
          skip
          go_upto_block 2 with fail
          generalize wr.alloc (.cells #[.int .i64 t.t.kind, .string ⟨t.t.text.toArray⟩, .int .i64 t.t.num, .int .i64 t.at_, .int .i64 t.line, .int .i64 t.col, .bool t.first] 35) = Wc at HI0 ⊢
          have HI := HI0
          clear HI0
          go_cut [] (fun wx => ∃ p c, NI W wx wr.heap.size t e (.slice p (is_.length + 1) c) (is_ ++ [.opn t.col]))
          case first =>
            skip
            have x0 := HI.tok.cell 0
            have x1 := HI.tok.cell 1
            have x2 := HI.tok.cell 2
            have x3 := HI.tok.cell 3
            have x4 := HI.tok.cell 4
            have x5 := HI.tok.cell 5
            have x6 := HI.tok.cell 6
            simp only [tokC, List.getElem?_toArray, List.getElem?_cons_zero, List.getElem?_cons_succ] at x0 x1 x2 x3 x4 x5 x6
            go_upto_region 7 with (go_at_call 25; refine (Kmk.out _).mono ?_; rintro ex Wd ⟨rfl, b7⟩; have HIb := HI.below_ b7; clear b7)
            have c1 := HIb.blk.cell 1
            have f1 := HIb.blk.free 1
            simp only [List.getElem?_toArray, List.getElem?_cons_zero, List.getElem?_cons_succ] at c1
            have x0 := HIb.tok.cell 0
            have x1 := HIb.tok.cell 1
            have x2 := HIb.tok.cell 2
            have x3 := HIb.tok.cell 3
            have x4 := HIb.tok.cell 4
            have x5 := HIb.tok.cell 5
            have x6 := HIb.tok.cell 6
            simp only [tokC, List.getElem?_toArray, List.getElem?_cons_zero, List.getElem?_cons_succ] at x0 x1 x2 x3 x4 x5 x6
            have hTs : ¬ wr.heap.size = W.heap.size := by have := HIb.lt; omega
            have hTs' : ¬ W.heap.size = wr.heap.size := by have := HIb.lt; omega
            have hTl := HIb.tok.lt
            have hTl' := HIb.blk.lt
            go_region_law (refine step_append_lies _ (by rfl) _ _ _ (by rfl) (W.heap.size + 1) 68 i0 (.agg #[.int .i64 0, .int .i64 0, .int .i64 0, .string ⟨#[]⟩, .int .i64 0, .int .i64 0, .int .i64 0, .int .i64 0, .bool false]) 9 80 Tryd.underlying62 hi hz0 hz1 hz2 rfl (by decide) _ is_.length ((is_.map It.cells).flatten) (by rfl) (HIb.own.alloc _) ⟨Wd.heap.size, 0, none⟩ 1 1 [.int .i64 2, .int .i64 t.col, .int .i64 0, .string ⟨#[]⟩, .int .i64 0, .int .i64 0, .int .i64 0, .int .i64 0, .bool false] (by rfl) (by rfl) (cells9_new _ _ _ _ _ _ _ _ _ _ _ 68 rfl) (by simp [Value.oneCell']) (by decide) (by have := hlen; unfold maxLen; omega) (by have := hlen; omega) (by have := HIb.blk.lt; simp; omega) _ rfl ?_; intro g cap w5 hown hgrow hat hglt; obtain ⟨jb, jt, jg, jl, jB⟩ := HIb.step hgrow hown hat; have q1 := jb.cell 1; have p1 := jb.free 1; simp only [List.getElem?_toArray, List.getElem?_cons_zero, List.getElem?_cons_succ] at q1)
            all_goals
              go_wp2
              go_meet
              exact ⟨_, _, NI.put jb jt jg jl jB HIb.lt (by simpa [It.cells, noTok, tokC] using hown) rfl⟩
          case rest =>
            obtain ⟨pv, cv, HI2⟩ := hcut
            obtain ⟨is2, hi2, hl2⟩ : ∃ l, is_ ++ [.opn t.col] = l ∧ is_.length + 1 = l.length := ⟨_, rfl, by simp⟩
            rw [hi2, hl2] at HI2
            have Hi2 := Lib.hid hi2
            replace hlen : is2.length ≤ 200002 := by omega
            clear hi2 hl2
            go_upto_region 10 with fail
            have c1 := HI2.blk.cell 1
            have f1 := HI2.blk.free 1
            simp only [List.getElem?_toArray, List.getElem?_cons_zero, List.getElem?_cons_succ] at c1
            have x0 := HI2.tok.cell 0
            have x1 := HI2.tok.cell 1
            have x2 := HI2.tok.cell 2
            have x3 := HI2.tok.cell 3
            have x4 := HI2.tok.cell 4
            have x5 := HI2.tok.cell 5
            have x6 := HI2.tok.cell 6
            simp only [tokC, List.getElem?_toArray, List.getElem?_cons_zero, List.getElem?_cons_succ] at x0 x1 x2 x3 x4 x5 x6
            have hTs : ¬ wr.heap.size = W.heap.size := by have := HI2.lt; omega
            have hTs' : ¬ W.heap.size = wr.heap.size := by have := HI2.lt; omega
            have hTl := HI2.tok.lt
            have hTl' := HI2.blk.lt
            go_cut [] (fun wx => ∃ p c, NI W wx wr.heap.size t e (.slice p (is2.length + 1) c) (is2 ++ [.tok t]))
            case first =>
              go_region_law (refine step_append_lies _ (by rfl) _ _ _ (by rfl) (W.heap.size + 1) 68 i0 (.agg #[.int .i64 0, .int .i64 0, .int .i64 0, .string ⟨#[]⟩, .int .i64 0, .int .i64 0, .int .i64 0, .int .i64 0, .bool false]) 9 80 Tryd.underlying62 hi hz0 hz1 hz2 rfl (by decide) _ is2.length ((is2.map It.cells).flatten) (by rfl) (HI2.own.alloc _) ⟨wc.heap.size, 0, none⟩ 1 1 [.int .i64 0, .int .i64 0, .int .i64 t.t.kind, .string ⟨t.t.text.toArray⟩, .int .i64 t.t.num, .int .i64 t.at_, .int .i64 t.line, .int .i64 t.col, .bool t.first] (by rfl) (by rfl) (cells9_new _ _ _ _ _ _ _ _ _ _ _ 68 rfl) (by simp [Value.oneCell']) (by decide) (by have := hlen; unfold maxLen; omega) (by have := hlen; omega) (by have := HI2.blk.lt; simp; omega) _ rfl ?_; intro g cap w5 hown hgrow hat hglt; obtain ⟨jb, jt, jg, jl, jB⟩ := HI2.step hgrow hown hat; have q1 := jb.cell 1; have p1 := jb.free 1; simp only [List.getElem?_toArray, List.getElem?_cons_zero, List.getElem?_cons_succ] at q1)
              all_goals
                go_wp2
                go_meet
                exact ⟨_, _, NI.put jb jt jg jl jB HI2.lt (by simpa [It.cells, noTok, tokC] using hown) rfl⟩
            case rest =>
              obtain ⟨pv, cv, HI3⟩ := hcut
              clear c1 f1 x0 x1 x2 x3 x4 x5 x6 hTs hTs' hTl hTl'
              have HS4 : Hid (is2 ++ [It.tok t] ++ itemsK (opensK t) (ts.drop (k + 1)) = itemsK true ts) := Lib.hid (by have h := HS3.out; rw [← Hi2.out]; simp only [HMK.out, Bool.not_false, Bool.and_self, if_true] at h; rw [← h]; simp)
              have x0 := HI3.tok.cell 0
              have x1 := HI3.tok.cell 1
              have x2 := HI3.tok.cell 2
              have x3 := HI3.tok.cell 3
              have x4 := HI3.tok.cell 4
              have x5 := HI3.tok.cell 5
              have x6 := HI3.tok.cell 6
              simp only [tokC, List.getElem?_toArray, List.getElem?_cons_zero, List.getElem?_cons_succ] at x0 x1 x2 x3 x4 x5 x6
              go_wp2_with (go_at_call 26; refine (Kop.out _).mono ?_; rintro ex w9 ⟨rfl, b9⟩)
              go_roundw
              case rel => exact ⟨opensK t, k + 1, _, _, rfl, by go_num, by omega, HI3.toNO.below b9, HS4⟩
              case measure => simp [intOf]; omega
        | true =>
          go_upto_region 10 with (go_at_call 25; refine (Kmk.out _).mono ?_; rintro ex Wc ⟨rfl, b7⟩; have HI := HI0.below_ b7; clear HI0 b7)
          have c1 := HI.blk.cell 1
          have f1 := HI.blk.free 1
          simp only [List.getElem?_toArray, List.getElem?_cons_zero, List.getElem?_cons_succ] at c1
          have x0 := HI.tok.cell 0
          have x1 := HI.tok.cell 1
          have x2 := HI.tok.cell 2
          have x3 := HI.tok.cell 3
          have x4 := HI.tok.cell 4
          have x5 := HI.tok.cell 5
          have x6 := HI.tok.cell 6
          simp only [tokC, List.getElem?_toArray, List.getElem?_cons_zero, List.getElem?_cons_succ] at x0 x1 x2 x3 x4 x5 x6
          have hTs : ¬ wr.heap.size = W.heap.size := by have := HI.lt; omega
          have hTs' : ¬ W.heap.size = wr.heap.size := by have := HI.lt; omega
          have hTl := HI.tok.lt
          have hTl' := HI.blk.lt
          go_cut [] (fun wx => ∃ p c, NI W wx wr.heap.size t e (.slice p (is_.length + 1) c) (is_ ++ [.tok t]))
          case first =>
            go_region_law (refine step_append_lies _ (by rfl) _ _ _ (by rfl) (W.heap.size + 1) 68 i0 (.agg #[.int .i64 0, .int .i64 0, .int .i64 0, .string ⟨#[]⟩, .int .i64 0, .int .i64 0, .int .i64 0, .int .i64 0, .bool false]) 9 80 Tryd.underlying62 hi hz0 hz1 hz2 rfl (by decide) _ is_.length ((is_.map It.cells).flatten) (by rfl) (HI.own.alloc _) ⟨Wc.heap.size, 0, none⟩ 1 1 [.int .i64 0, .int .i64 0, .int .i64 t.t.kind, .string ⟨t.t.text.toArray⟩, .int .i64 t.t.num, .int .i64 t.at_, .int .i64 t.line, .int .i64 t.col, .bool t.first] (by rfl) (by rfl) (cells9_new _ _ _ _ _ _ _ _ _ _ _ 68 rfl) (by simp [Value.oneCell']) (by decide) (by have := hlen; unfold maxLen; omega) (by have := hlen; omega) (by have := HI.blk.lt; simp; omega) _ rfl ?_; intro g cap w5 hown hgrow hat hglt; obtain ⟨jb, jt, jg, jl, jB⟩ := HI.step hgrow hown hat; have q1 := jb.cell 1; have p1 := jb.free 1; simp only [List.getElem?_toArray, List.getElem?_cons_zero, List.getElem?_cons_succ] at q1)
            all_goals
              go_wp2
              go_meet
              exact ⟨_, _, NI.put jb jt jg jl jB HI.lt (by simpa [It.cells, noTok, tokC] using hown) rfl⟩
          case rest =>
            obtain ⟨pv, cv, HI3⟩ := hcut
            clear c1 f1 x0 x1 x2 x3 x4 x5 x6 hTs hTs' hTl hTl'
            have HS4 : Hid (is_ ++ [It.tok t] ++ itemsK (opensK t) (ts.drop (k + 1)) = itemsK true ts) := Lib.hid (by have h := HS3.out; simp only [HMK.out, Bool.not_true, Bool.and_false, Bool.false_and, Bool.false_eq_true, if_false] at h; rw [← h]; simp)
            have x0 := HI3.tok.cell 0
            have x1 := HI3.tok.cell 1
            have x2 := HI3.tok.cell 2
            have x3 := HI3.tok.cell 3
            have x4 := HI3.tok.cell 4
            have x5 := HI3.tok.cell 5
            have x6 := HI3.tok.cell 6
            simp only [tokC, List.getElem?_toArray, List.getElem?_cons_zero, List.getElem?_cons_succ] at x0 x1 x2 x3 x4 x5 x6
            go_wp2_with (go_at_call 26; refine (Kop.out _).mono ?_; rintro ex w9 ⟨rfl, b9⟩)
            go_roundw
            case rel => exact ⟨opensK t, k + 1, _, _, rfl, by go_num, by omega, HI3.toNO.below b9, HS4⟩
            case measure => simp [intOf]; omega
    · have e1 : decide ((k : Int) < (N : Int)) = false := by simp; omega
      have e2 : decide (k < N) = false := by simp; omega
      have hnil : ts.drop k = [] := List.drop_eq_nil_of_le (by rw [HN.out]; omega)
      have HS2 := HS.out
      rw [hnil] at HS2
      cases ob with
      | false =>
        simp only [itemsK, Bool.false_eq_true, if_false, List.append_nil] at HS2
        have HR := Lib.hid (HO.fin HS2 (by omega))
        clear HS2 HO
        go_wp2
        go_ret
        exact ⟨W.heap.size, rfl, HR.out.1, HR.out.2, Nat.le_refl _⟩
      | true =>
        simp only [itemsK, if_true] at HS2
        have HS3 := Lib.hid HS2
        have c1 := HO.blk.cell 1
        have f1 := HO.blk.free 1
        simp only [List.getElem?_toArray, List.getElem?_cons_zero, List.getElem?_cons_succ] at c1
        have hTl' := HO.blk.lt
        clear HS HS2 hnil
        go_wp2_with (at_builtin; refine wpList_append_lies _ rfl _ _ 62 rfl (W.heap.size + 1) 68 i0 (.agg #[.int .i64 0, .int .i64 0, .int .i64 0, .string ⟨#[]⟩, .int .i64 0, .int .i64 0, .int .i64 0, .int .i64 0, .bool false]) 9 80 Tryd.underlying62 hi hz0 hz1 hz2 rfl (by decide) _ is_.length ((is_.map It.cells).flatten) (by rfl) (HO.own.alloc _) ⟨wr.heap.size, 0, none⟩ 1 1 [.int .i64 2, .int .i64 0, .int .i64 0, .string ⟨#[]⟩, .int .i64 0, .int .i64 0, .int .i64 0, .int .i64 0, .bool false] (by rfl) (by rfl) (cells9_new _ _ _ _ _ _ _ _ _ _ _ 68 rfl) (by simp [Value.oneCell']) (by decide) (by have := hlen; unfold maxLen; omega) (by have := hlen; omega) (by have := HO.blk.lt; simp; omega) _ rfl ?_; intro g cap w5 hown hgrow hat hglt; obtain ⟨jb, jl, jB⟩ := HO.step hgrow hown hat; have q1 := jb.cell 1; have p1 := jb.free 1; simp only [List.getElem?_toArray, List.getElem?_cons_zero, List.getElem?_cons_succ] at q1)
        have HR := Lib.hid ((NO.put jb jl jB (x := .opn 0) (by simpa [It.cells, noTok] using hown) rfl).fin HS3.out (by simp; omega))
        clear jb jl jB hown
        go_wp2
        go_ret
        exact ⟨W.heap.size, rfl, HR.out.1, HR.out.2, Nat.le_refl _⟩
end Go.Proofs.YtnidkdjapieinaaDoor
