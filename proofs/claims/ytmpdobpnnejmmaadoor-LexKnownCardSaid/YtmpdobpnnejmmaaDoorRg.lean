/- The document's lex: words. Conditions: those that each theorem names. -/
import Derived.Test.YtmpdobpnnejmmaaDoorRe
import Derived.Test.YtmpdobpnnejmmaaDoorRf
namespace Go.Proofs.YtmpdobpnnejmmaaDoor
open Go.RowKit Go.Maps

theorem ref_word (w : World) (s : ByteArray) (a : Nat) (hs : s.size ≤ 1000000000) (ha : a < s.size) : Calls Tryd.prog 30 #[.string s, .int .i64 a] w (RwP s a w) := by
  cases hsg : Lx.sign? ((bl s).drop a) with
  | some g => exact word_c1 hs ha hsg
  | none =>
    by_cases h39 : s[a].toNat = 39
    · exact word_c2 hs ha hsg h39
    · exact word_c3 hs ha hsg h39
end Go.Proofs.YtmpdobpnnejmmaaDoor
