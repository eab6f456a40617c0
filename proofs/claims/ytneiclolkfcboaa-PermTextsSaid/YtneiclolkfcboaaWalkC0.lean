/-
  The walk of the reference's Rights.
-/
import Derived.Test.YtneiclolkfcboaaWalkC
namespace Go.Proofs.Ytneiclolkfcboaa
open Go.RowKit

theorem refByteI (p i : Int) (k : Nat) (w : World) (h : IsMask p) (hk : k ≤ 3) (e : i = k) :
    Calls Try.prog 29 #[.int .u32 p, .int .i64 i] w fun e w' => e = .returned (.int .i64 (byt p k)) ∧ w = w' := by
  subst e; exact refByte_any p k w h hk

end Go.Proofs.Ytneiclolkfcboaa
