/- core: a look at an expression notes some fault: by depth. -/
import Derived.Test.YtkcgchpflppmnaaOeV
import Derived.Test.YtkcgchpflppmnaaOeT
namespace Go.Proofs.Ytkcgchpflppmnaa
open Go.RowKit
theorem expr_any (w0 : World) (cb bm : Nat) : ∀ (d : Nat) (x : Ex d) (b o : Nat) (W : World) (fs : List (List ByteArray)) (v : Value), b < w0.heap.size → ExAt w0 d b o x → CapAt w0 d b o → Bd d x → Sm d x → Below w0.heap.size w0 W → w0.heap.size ≤ cb → FrAt W v fs → FrSm fs → (∃ k, Blk W cb #[.map (some bm), .int .i64 k]) → WMap W bm ConV →
      Calls Try.prog 36 #[.pointer (some ⟨cb, 0, none⟩), .pointer (some ⟨b, o, none⟩), v] W fun r W' => NotePost W cb (.map (some bm)) r W'
  | 0, x, _, _, _, _, _, _, _, _, _, _, _, _, _, _, _, _ => nomatch (x : Empty)
  | d + 1, (x : ExN (Ex d)), b, o, W, fs, v, hb, h, hcap, hbd, hs, hw, hcb, hf, hn, hc, hm => by
    by_cases hk : x.kind ≤ 5
    · exact expr_stepA w0 cb bm d (expr_any w0 cb bm d) x b o W fs v hb h hcap hbd hs hw hcb hf hn hc hm hk
    · exact expr_stepB w0 cb bm d (expr_any w0 cb bm d) x b o W fs v hb h hcap hbd hs hw hcb hf hn hc hm (by omega)
end Go.Proofs.Ytkcgchpflppmnaa
