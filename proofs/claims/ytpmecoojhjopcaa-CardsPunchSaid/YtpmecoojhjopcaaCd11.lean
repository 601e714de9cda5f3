/- Lemmas and contracts of functions (what each call returns, and that it changes nothing that was there) that the proof of a law of this seat uses; each lemma states its own conditions. -/
import Derived.Test.YtpmecoojhjopcaaCd9
import Derived.Test.YtpmecoojhjopcaaCd10
namespace Go.Proofs.Ytpmecoojhjopcaa
open Go.RowKit
set_option linter.unusedVariables false
set_option linter.unusedSimpArgs false
theorem punch_all (W H : Int) (a : Option Addr) (n c : Nat) (bs : List Bool) (s : ByteArray) (w : World) (hT : OkT w a n c bs) (h1 : (-9223372036854775808 ≤ W ∧ W ≤ 9223372036854775807)) (h2 : (-9223372036854775808 ≤ H ∧ H ≤ 9223372036854775807)) (hs : s.size ≤ 9223372036854775807) :
    Calls Try.prog 3 #[.agg #[.int .i64 (W), .int .i64 (H), .slice a n c], .string s] w fun e w' => e = .returned (.bool true) ∧ Below w.heap.size w w' :=
  punch_walk W H a n c bs s w hT h1 h2 hs fun w => rUnpack_any s w hs
end Go.Proofs.Ytpmecoojhjopcaa
