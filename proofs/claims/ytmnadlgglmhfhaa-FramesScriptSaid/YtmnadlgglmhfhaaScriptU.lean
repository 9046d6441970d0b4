/- Pop, Top, Push and Turn of both stacks, each in one form whatever the stack holds. -/
import Derived.Test.YtmnadlgglmhfhaaScriptB
import Derived.Test.YtmnadlgglmhfhaaTurn3
namespace Go.Proofs.Ytmnadlgglmhfhaa
open Go.RowKit

def frNone : FrD := ⟨0, 0, 0, ⟨#[]⟩, [], []⟩
def lastF (us : List Row) : FrD := (us.getLast?.map Row.f).getD frNone
theorem lastF_nil : lastF [] = frNone := rfl
theorem lastF_cat (us : List Row) (u : Row) : lastF (us ++ [u]) = u.f := by simp [lastF]
theorem lastF_map {us vs : List Row} (h : us.map Row.f = vs.map Row.f) : lastF us = lastF vs := by
  unfold lastF
  rw [← List.getLast?_map, ← List.getLast?_map, h]
def someL (us : List Row) : Bool := decide (0 < us.length)
theorem someL_map {us vs : List Row} (h : us.map Row.f = vs.map Row.f) : someL us = someL vs := by
  unfold someL; rw [same_len h]
theorem someL_cat (us : List Row) (u : Row) : someL (us ++ [u]) = true := by simp [someL]
theorem drop_map {us vs : List Row} (h : us.map Row.f = vs.map Row.f) : us.dropLast.map Row.f = vs.dropLast.map Row.f := by
  rw [List.map_dropLast, List.map_dropLast, h]
theorem split_last (us : List Row) : us = [] ∨ ∃ us0 u, us = us0 ++ [u] := by
  rcases List.eq_nil_or_concat us with h | ⟨l, x, h⟩
  · exact .inl h
  · exact .inr ⟨l, x, by simpa using h⟩
def pushN (lim : Nat) (us : List Row) (f : FrD) : Int := if chkK f.k f.o f.n f.s f.ws.length f.ds.length = true then (if takenOf us + f.takes ≤ lim then 0 else 12) else 2
def pushL (lim : Nat) (us : List Row) (f : FrD) : List FrD := if chkK f.k f.o f.n f.s f.ws.length f.ds.length = true then (if takenOf us + f.takes ≤ lim then us.map Row.f ++ [f] else us.map Row.f) else us.map Row.f
theorem pushN_map {lim : Nat} {us vs : List Row} (f : FrD) (h : us.map Row.f = vs.map Row.f) : pushN lim us f = pushN lim vs f := by unfold pushN; rw [same_taken h]
theorem pushL_map {lim : Nat} {us vs : List Row} (f : FrD) (h : us.map Row.f = vs.map Row.f) : pushL lim us f = pushL lim vs f := by unfold pushL; rw [same_taken h, h]
theorem last_small {lim : Nat} {us : List Row} (h : takenOf us ≤ lim) (hl : lim ≤ 4194304) : (lastF us).ws.length ≤ 1000000000000 ∧ (lastF us).ds.length ≤ 1000000000000 := by
  rcases split_last us with rfl | ⟨us0, u, rfl⟩
  · simp [lastF_nil, frNone]
  · rw [lastF_cat]
    have := mem_takes (us := us0 ++ [u]) (u := u) (by simp)
    unfold FrD.takes at this
    omega
def turnL (us : List Row) (ls : List Wd) : List Row := if ls.length = (wordsAll us).length then turnRows us ls else us
def turnN (us : List Row) (ls : List Wd) : Int := if ls.length = (wordsAll us).length then 0 else 2
theorem turnN_map {us vs : List Row} (ls : List Wd) (h : us.map Row.f = vs.map Row.f) : turnN us ls = turnN vs ls := by unfold turnN; rw [same_words h]
theorem turnL_map {us vs : List Row} (ls : List Wd) (h : us.map Row.f = vs.map Row.f) : (turnL us ls).map Row.f = (turnL vs ls).map Row.f := by
  unfold turnL
  rw [same_words h]
  split
  · exact same_turn ls h
  · exact h

theorem top_u (b B lim : Nat) (us : List Row) (vl : Value) (w : World) (h : SInv w b B lim us vl) (f : FrD) (hf : lastF us = f) (s : Bool) (hs : someL us = s) :
    Calls Try.prog 20 #[.pointer (some ⟨b, 0, none⟩)] w fun e w' => ∃ p1 y1 p2 y2, e = .returned (.tuple #[.agg #[.int .i64 f.k, .int .i64 f.o, .int .i64 f.n, .string f.s, .slice p1 f.ws.length y1, .slice p2 f.ds.length y2], .bool s]) ∧
      WOwn w' w.heap.size (.slice p1 f.ws.length y1) f.ws ∧ WOwn w' w.heap.size (.slice p2 f.ds.length y2) f.ds ∧ Below w.heap.size w w' := by
  rcases split_last us with rfl | ⟨us0, u, rfl⟩
  · rw [lastF_nil] at hf; subst hf; subst hs
    refine (top_none b B lim vl w h).mono ?_
    rintro e w' ⟨rfl, hb⟩
    exact ⟨none, 0, none, 0, rfl, World.ownsRow_nil _ _ _ _, World.ownsRow_nil _ _ _ _, hb⟩
  · rw [lastF_cat] at hf; rw [someL_cat] at hs; subst hf; subst hs
    refine (top_some b B lim us0 u vl w h).mono ?_
    rintro e w' ⟨v1, v2, rfl, o1, o2, hb⟩
    obtain ⟨p1, y1, rfl⟩ := own_shape o1
    obtain ⟨p2, y2, rfl⟩ := own_shape o2
    exact ⟨p1, y1, p2, y2, rfl, o1, o2, hb⟩

theorem pop_u (b B lim : Nat) (us : List Row) (vl : Value) (w : World) (h : SInv w b B lim us vl) (f : FrD) (hf : lastF us = f) (s : Bool) (hs : someL us = s) :
    Calls Try.prog 15 #[.pointer (some ⟨b, 0, none⟩)] w fun e w' => ∃ p1 y1 p2 y2 vl', e = .returned (.tuple #[.agg #[.int .i64 f.k, .int .i64 f.o, .int .i64 f.n, .string f.s, .slice p1 f.ws.length y1, .slice p2 f.ds.length y2], .bool s]) ∧
      WOwn w' w.heap.size (.slice p1 f.ws.length y1) f.ws ∧ WOwn w' w.heap.size (.slice p2 f.ds.length y2) f.ds ∧ SInv w' b B lim us.dropLast vl' ∧ (∀ k, Foot b vl' us.dropLast k → Foot b vl us k) ∧ Off (fun i => i = b) w w' := by
  rcases split_last us with rfl | ⟨us0, u, rfl⟩
  · rw [lastF_nil] at hf; subst hf; subst hs
    refine (pop_none b B lim vl w h).mono ?_
    rintro e w' ⟨rfl, hb⟩
    exact ⟨none, 0, none, 0, vl, rfl, World.ownsRow_nil _ _ _ _, World.ownsRow_nil _ _ _ _, h.below hb, fun k hk => hk, Off.of_below hb⟩
  · rw [lastF_cat] at hf; rw [someL_cat] at hs; subst hf; subst hs
    refine (pop_some b B lim us0 u vl w h).mono ?_
    rintro e w' ⟨v1, v2, vl', rfl, o1, o2, I, F, hoff⟩
    obtain ⟨p1, y1, rfl⟩ := own_shape o1
    obtain ⟨p2, y2, rfl⟩ := own_shape o2
    rw [List.dropLast_concat]
    exact ⟨p1, y1, p2, y2, vl', rfl, o1, o2, I, F, hoff⟩

theorem push_u (f : FrD) (vw vd : Value) (b B lim : Nat) (us : List Row) (vl : Value) (w : World) (h : SInv w b B lim us vl) (hw : WAt w vw f.ws) (hd : WAt w vd f.ds) (hnl : f.ws.length ≤ 1000000000) (hnd : f.ds.length ≤ 1000000000) (hns : f.s.size ≤ 1000000000) (n : Int) (hn : pushN lim us f = n) (fs : List FrD) (hfs : pushL lim us f = fs) :
    Calls Try.prog 11 #[.pointer (some ⟨b, 0, none⟩), .agg #[.int .i64 f.k, .int .i64 f.o, .int .i64 f.n, .string f.s, vw, vd]] w fun e w' => e = .returned (.int .i64 n) ∧
      ∃ us' vl', SInv w' b B lim us' vl' ∧ us'.map Row.f = fs ∧ (∀ k, Foot b vl' us' k → Foot b vl us k ∨ w.heap.size ≤ k) ∧ Off (Foot b vl us) w w' := by
  unfold pushN at hn
  unfold pushL at hfs
  by_cases hc : chkK f.k f.o f.n f.s f.ws.length f.ds.length = true
  · rw [if_pos hc] at hn hfs
    by_cases hb : takenOf us + f.takes ≤ lim
    · rw [if_pos hb] at hn hfs
      subst hn; subst hfs
      refine (push_ok f vw vd b B lim us vl w h hw hd hc hb).mono ?_
      rintro e w' ⟨rfl, vl', vw', vd', I, F, hoff⟩
      exact ⟨rfl, _, vl', I, by simp, F, hoff⟩
    · rw [if_neg hb] at hn hfs
      subst hn; subst hfs
      refine (push_full f vw vd b B lim us vl w h hw hd hnl hnd hns hc (by omega)).mono ?_
      rintro e w' ⟨rfl, hbl⟩
      exact ⟨rfl, us, vl, h.below hbl, rfl, fun k hk => .inl hk, Off.of_below hbl⟩
  · rw [if_neg hc] at hn hfs
    subst hn; subst hfs
    refine (push_bad f vw vd b B lim us vl w h hw hd (by simpa using hc)).mono ?_
    rintro e w' ⟨rfl, hbl⟩
    exact ⟨rfl, us, vl, h.below hbl, rfl, fun k hk => .inl hk, Off.of_below hbl⟩

theorem turn_u (b B lim : Nat) (us : List Row) (vl : Value) (w : World) (h : SInv w b B lim us vl) (pl : Option Addr) (L cl : Nat) (ls : List Wd) (hll : ls.length = L) (hcap : L ≤ cl) (hw : WAt w (.slice pl L cl) ls)
    (hap : 0 < L → ∀ g, (Value.slice pl L cl).ownBlock = some g → g ∉ blksOf us) (n : Int) (hn : turnN us ls = n) :
    Calls Try.prog 19 #[.pointer (some ⟨b, 0, none⟩), .slice pl L cl] w fun e w' => e = .returned (.int .i64 n) ∧ SInv w' b B lim (turnL us ls) vl ∧ (∀ k, Foot b vl (turnL us ls) k → Foot b vl us k) ∧ Off (Foot b vl us) w w' := by
  unfold turnN at hn
  unfold turnL
  by_cases hc : ls.length = (wordsAll us).length
  · rw [if_pos hc] at hn ⊢
    subst hn
    refine (turn_ok0 b B lim us vl w h pl L cl ls hll hcap hw hc hap).mono ?_
    rintro e w' ⟨rfl, I, hoff⟩
    exact ⟨rfl, I, fun k hk => foot_turn ls hk, ⟨hoff.os, hoff.tape, hoff.output, hoff.size, fun k hk hn => hoff.block k hk (fun hs => hn (foot_blks hs))⟩⟩
  · rw [if_neg hc] at hn ⊢
    subst hn
    refine (turn_bad b B lim us vl w h pl L cl (by rw [← hll]; exact hc)).mono ?_
    rintro e w' ⟨rfl, hbl⟩
    exact ⟨rfl, h.below hbl, fun k hk => hk, Off.of_below hbl⟩

theorem rtop_u (b B lim : Nat) (us : List Row) (vl : Value) (w : World) (h : RInv w b B lim us vl) (f : FrD) (hf : lastF us = f) (s : Bool) (hs : someL us = s) :
    Calls Try.prog 32 #[.pointer (some ⟨b, 0, none⟩)] w fun e w' => ∃ p1 y1 p2 y2, e = .returned (.tuple #[.agg #[.int .i64 f.k, .int .i64 f.o, .int .i64 f.n, .string f.s, .slice p1 f.ws.length y1, .slice p2 f.ds.length y2], .bool s]) ∧
      WOwn w' w.heap.size (.slice p1 f.ws.length y1) f.ws ∧ WOwn w' w.heap.size (.slice p2 f.ds.length y2) f.ds ∧ Below w.heap.size w w' := by
  rcases split_last us with rfl | ⟨us0, u, rfl⟩
  · rw [lastF_nil] at hf; subst hf; subst hs
    refine (rtop_none b B lim vl w h).mono ?_
    rintro e w' ⟨rfl, hb⟩
    exact ⟨none, 0, none, 0, rfl, World.ownsRow_nil _ _ _ _, World.ownsRow_nil _ _ _ _, hb⟩
  · rw [lastF_cat] at hf; rw [someL_cat] at hs; subst hf; subst hs
    refine (rtop_some b B lim us0 u vl w h).mono ?_
    rintro e w' ⟨v1, v2, rfl, o1, o2, hb⟩
    obtain ⟨p1, y1, rfl⟩ := own_shape o1
    obtain ⟨p2, y2, rfl⟩ := own_shape o2
    exact ⟨p1, y1, p2, y2, rfl, o1, o2, hb⟩

theorem rpop_u (b B lim : Nat) (us : List Row) (vl : Value) (w : World) (h : RInv w b B lim us vl) (f : FrD) (hf : lastF us = f) (s : Bool) (hs : someL us = s) :
    Calls Try.prog 29 #[.pointer (some ⟨b, 0, none⟩)] w fun e w' => ∃ p1 y1 p2 y2 vl', e = .returned (.tuple #[.agg #[.int .i64 f.k, .int .i64 f.o, .int .i64 f.n, .string f.s, .slice p1 f.ws.length y1, .slice p2 f.ds.length y2], .bool s]) ∧
      WOwn w' w.heap.size (.slice p1 f.ws.length y1) f.ws ∧ WOwn w' w.heap.size (.slice p2 f.ds.length y2) f.ds ∧ RInv w' b B lim us.dropLast vl' ∧ (∀ k, Foot b vl' us.dropLast k → Foot b vl us k) ∧ Off (fun i => i = b) w w' := by
  rcases split_last us with rfl | ⟨us0, u, rfl⟩
  · rw [lastF_nil] at hf; subst hf; subst hs
    refine (rpop_none b B lim vl w h).mono ?_
    rintro e w' ⟨rfl, hb⟩
    exact ⟨none, 0, none, 0, vl, rfl, World.ownsRow_nil _ _ _ _, World.ownsRow_nil _ _ _ _, h.below hb, fun k hk => hk, Off.of_below hb⟩
  · rw [lastF_cat] at hf; rw [someL_cat] at hs; subst hf; subst hs
    refine (rpop_some b B lim us0 u vl w h).mono ?_
    rintro e w' ⟨v1, v2, vl', rfl, o1, o2, I, F, hoff⟩
    obtain ⟨p1, y1, rfl⟩ := own_shape o1
    obtain ⟨p2, y2, rfl⟩ := own_shape o2
    rw [List.dropLast_concat]
    exact ⟨p1, y1, p2, y2, vl', rfl, o1, o2, I, F, hoff⟩

theorem rpush_u (f : FrD) (vw vd : Value) (b B lim : Nat) (us : List Row) (vl : Value) (w : World) (h : RInv w b B lim us vl) (hw : WAt w vw f.ws) (hd : WAt w vd f.ds) (hsw : vw = .slice none 0 0 ∨ ∃ p n c, vw = .slice (some p) n c) (hsd : vd = .slice none 0 0 ∨ ∃ p n c, vd = .slice (some p) n c) (hnl : f.ws.length ≤ 1000000000) (hnd : f.ds.length ≤ 1000000000) (hns : f.s.size ≤ 1000000000) (n : Int) (hn : pushN lim us f = n) (fs : List FrD) (hfs : pushL lim us f = fs) :
    Calls Try.prog 31 #[.pointer (some ⟨b, 0, none⟩), .agg #[.int .i64 f.k, .int .i64 f.o, .int .i64 f.n, .string f.s, vw, vd]] w fun e w' => e = .returned (.int .i64 n) ∧
      ∃ us' vl', RInv w' b B lim us' vl' ∧ us'.map Row.f = fs ∧ (∀ k, Foot b vl' us' k → Foot b vl us k ∨ w.heap.size ≤ k) ∧ Off (Foot b vl us) w w' := by
  unfold pushN at hn
  unfold pushL at hfs
  by_cases hc : chkK f.k f.o f.n f.s f.ws.length f.ds.length = true
  · rw [if_pos hc] at hn hfs
    by_cases hb : takenOf us + f.takes ≤ lim
    · rw [if_pos hb] at hn hfs
      subst hn; subst hfs
      refine (rpush_ok f vw vd b B lim us vl w h hw hd hsw hsd hc hb).mono ?_
      rintro e w' ⟨rfl, vl', vw', vd', I, F, hoff⟩
      exact ⟨rfl, _, vl', I, by simp, F, hoff⟩
    · rw [if_neg hb] at hn hfs
      subst hn; subst hfs
      refine (rpush_full f vw vd b B lim us vl w h hw hd hnl hnd hns hc (by omega)).mono ?_
      rintro e w' ⟨rfl, hbl⟩
      exact ⟨rfl, us, vl, h.below hbl, rfl, fun k hk => .inl hk, Off.of_below hbl⟩
  · rw [if_neg hc] at hn hfs
    subst hn; subst hfs
    refine (rpush_bad f vw vd b B lim us vl w h hw hd (by simpa using hc)).mono ?_
    rintro e w' ⟨rfl, hbl⟩
    exact ⟨rfl, us, vl, h.below hbl, rfl, fun k hk => .inl hk, Off.of_below hbl⟩

theorem rturn_u (b B lim : Nat) (us : List Row) (vl : Value) (w : World) (h : RInv w b B lim us vl) (pl : Option Addr) (L cl : Nat) (ls : List Wd) (hll : ls.length = L) (hw : WAt w (.slice pl L cl) ls)
    (hap : 0 < L → ∀ g, (Value.slice pl L cl).ownBlock = some g → g ∉ blksOf us) (n : Int) (hn : turnN us ls = n) :
    Calls Try.prog 30 #[.pointer (some ⟨b, 0, none⟩), .slice pl L cl] w fun e w' => e = .returned (.int .i64 n) ∧ RInv w' b B lim (turnL us ls) vl ∧ (∀ k, Foot b vl (turnL us ls) k → Foot b vl us k) ∧ Off (Foot b vl us) w w' := by
  unfold turnN at hn
  unfold turnL
  by_cases hc : ls.length = (wordsAll us).length
  · rw [if_pos hc] at hn ⊢
    subst hn
    refine (rturn_ok0 b B lim us vl w h pl L cl ls hll hw hc hap).mono ?_
    rintro e w' ⟨rfl, I, hoff⟩
    exact ⟨rfl, I, fun k hk => foot_turn ls hk, ⟨hoff.os, hoff.tape, hoff.output, hoff.size, fun k hk hn => hoff.block k hk (fun hs => hn (foot_blks hs))⟩⟩
  · rw [if_neg hc] at hn ⊢
    subst hn
    refine (rturn_bad b B lim us vl w h pl L cl (by rw [← hll]; exact hc)).mono ?_
    rintro e w' ⟨rfl, hbl⟩
    exact ⟨rfl, h.below hbl, fun k hk => hk, Off.of_below hbl⟩

end Go.Proofs.Ytmnadlgglmhfhaa
