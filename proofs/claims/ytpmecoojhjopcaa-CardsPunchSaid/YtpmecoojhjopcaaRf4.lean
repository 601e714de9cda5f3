/- Lemmas and contracts of functions (what each call returns, and that it changes nothing that was there) that the proof of a law of this seat uses; each lemma states its own conditions. -/
import Derived.Test.YtpmecoojhjopcaaRf3
namespace Go.Proofs.Ytpmecoojhjopcaa
open Go.RowKit
set_option linter.unusedVariables false
set_option linter.unusedSimpArgs false
open Go.Shelf
attribute [local go_sem] Oper.semAt_some
/-- What is wrong with a product. -/
def prE (W1 H1 : Int) (n1 : Nat) (W2 H2 : Int) (n2 : Nat) : Int := if wrT W1 H1 n1 ≠ 0 then wrT W1 H1 n1 else if wrT W2 H2 n2 ≠ 0 then wrT W2 H2 n2 else if W1 ≠ H2 then 8 else 0
def mulB (M W : Nat) (aa bb : List Bool) (Y X : Nat) : Bool := (List.range M).any fun k => aa.getD (Y * M + k) false && bb.getD (k * W + X) false
/-- The product: H rows of W. -/
def prodL (H M W : Nat) (aa bb : List Bool) : List Bool := (List.range (W * H)).map fun p => mulB M W aa bb (p / W) (p % W)
theorem prodL_len (H M W : Nat) (aa bb : List Bool) : (prodL H M W aa bb).length = W * H := by simp [prodL]
def prW (w : World) (W1 H1 : Int) (a1 : Option Addr) (n1 c1 : Nat) (W2 H2 : Int) (a2 : Option Addr) (n2 c2 : Nat) : World :=
  (((w.alloc (.cells #[.int .i64 (W1), .int .i64 (H1), .slice a1 n1 c1] 24)).alloc (.cells #[.int .i64 (W2), .int .i64 (H2), .slice a2 n2 c2] 24)).alloc (.cells #[.int .i64 (0), .int .i64 (0), .slice none 0 0] 24)).alloc (.cells #[.int .i64 (W1), .int .i64 (H1), .slice a1 n1 c1, .int .i64 (W2), .int .i64 (H2), .slice a2 n2 c2] 24)
end Go.Proofs.Ytpmecoojhjopcaa
