/-
  The walk of the law PermHas: it returns true for every two bytes of rights.
-/
import Derived.Test.YtneiclolkfcboaaWalkI
import Derived.Test.YtneiclolkfcboaaWalkH
import Derived.OpenShut
namespace Go.Proofs.Ytneiclolkfcboaa
open Go.RowKit

set_option maxRecDepth 100000 in
set_option maxHeartbeats 4000000 in
theorem law6 (r : Int) (wr : (Lit.int .u8 r).wf = true) (want : Int) (ww : (Lit.int .u8 want).wf = true) (w : World) :
    Calls Try.prog 6 #[.int .u8 r, .int .u8 want] w fun e w' => e = .returned (.bool true) ∧ Below w.heap.size w w' := by
  obtain ⟨r0, r1⟩ := bounds_u8 wr
  obtain ⟨v0, v1⟩ := bounds_u8 ww
  have HR := Lib.hid (show 0 ≤ r ∧ r < 256 from ⟨r0, by omega⟩)
  have HW := Lib.hid (show 0 ≤ want ∧ want < 256 from ⟨v0, by omega⟩)
  have O := Lib.hid (hasP_or HR.out HW.out)
  have Z := Lib.hid (hasP_zero HR.out)
  clear wr ww
  go_enter Try.func6, Try.ntmps6
  go_wp2_with fail
  go_at_call 16; refine (hasP_any _ _ _).mono ?_; rintro e w1 ⟨rfl, rfl⟩
  go_wp2_with fail
  go_at_call 21; refine (refHas_any _ _ _ HR.out HW.out).mono ?_; rintro e w1 ⟨rfl, rfl⟩
  go_wp2_with fail
  go_at_call 16; refine (hasP_any _ _ _).mono ?_; rintro e w1 ⟨rfl, rfl⟩
  rw [O.out]
  go_wp2_with fail
  go_at_call 16; refine (hasP_any _ _ _).mono ?_; rintro e w1 ⟨rfl, rfl⟩
  rw [Z.out]
  go_wp2_with fail
  go_at_call 22; refine (name_any _ _ HR.out).mono ?_; rintro e w2 ⟨rfl, hb2⟩
  have HB2 := Lib.hid hb2
  clear hb2
  go_wp2_with fail
  go_at_call 23; refine (refName_any _ _ HR.out).mono ?_; rintro e w3 ⟨rfl, rfl⟩
  go_wp2_with fail
  go_at_call 13; refine (known_any _).mono ?_; rintro e w4 ⟨rfl, hb4⟩
  have HB4 := Lib.hid (HB2.out.trans (hb4.mono HB2.out.size))
  clear hb4
  go_wp2
  go_ret
  exact ⟨rfl, HB4.out⟩

end Go.Proofs.Ytneiclolkfcboaa
