/-
  The walk of the reference's Rights, whole.
-/
import Derived.Test.YtneiclolkfcboaaWalkC2guQ
import Derived.Test.YtneiclolkfcboaaWalkC2guP
import Derived.Test.YtneiclolkfcboaaWalkC2gQ
import Derived.Test.YtneiclolkfcboaaWalkC2gP
import Derived.Test.YtneiclolkfcboaaWalkC2uQ
import Derived.Test.YtneiclolkfcboaaWalkC2uP
import Derived.Test.YtneiclolkfcboaaWalkC2nQ
import Derived.Test.YtneiclolkfcboaaWalkC2nP
namespace Go.Proofs.Ytneiclolkfcboaa
open Go.RowKit

theorem refRights_any (p u g r uid gid : Int) (poss : Bool) (w : World) (h : IsMask p) :
    Calls Try.prog 12 #[.int .u32 p, .agg #[.int .i64 u, .int .i64 g, .int .i64 r], .int .i64 uid, .int .i64 gid, .bool poss] w fun e w' =>
      e = .returned (.int .i64 (rightsOf (byt p (atOf u uid g gid)) (byt p 0) poss)) ∧ Below w.heap.size w w' := by
  by_cases h1 : u = uid
  · have ea : atOf u uid g gid = 1 := by unfold atOf; rw [if_pos h1]
    have b1 : (u == uid) = true := by simp [h1]
    by_cases h2 : g = gid
    · have b2 : (g == gid) = true := by simp [h2]
      cases poss with
      | false => exact refR_guQ p u g r uid gid w h b2 b1 ea
      | true => exact refR_guP p u g r uid gid w h b2 b1 ea
    · have b2 : (g == gid) = false := by simp [h2]
      cases poss with
      | false => exact refR_uQ p u g r uid gid w h b2 b1 ea
      | true => exact refR_uP p u g r uid gid w h b2 b1 ea
  · have b1 : (u == uid) = false := by simp [h1]
    by_cases h2 : g = gid
    · have ea : atOf u uid g gid = 2 := by unfold atOf; rw [if_neg h1, if_pos h2]
      have b2 : (g == gid) = true := by simp [h2]
      cases poss with
      | false => exact refR_gQ p u g r uid gid w h b2 b1 ea
      | true => exact refR_gP p u g r uid gid w h b2 b1 ea
    · have ea : atOf u uid g gid = 3 := by unfold atOf; rw [if_neg h1, if_neg h2]
      have b2 : (g == gid) = false := by simp [h2]
      cases poss with
      | false => exact refR_nQ p u g r uid gid w h b2 b1 ea
      | true => exact refR_nP p u g r uid gid w h b2 b1 ea

end Go.Proofs.Ytneiclolkfcboaa
