/-
  The walk of the law PermTexts: it returns true for every mask.
-/
import Derived.Test.YtneiclolkfcboaaWalkK
import Derived.Test.YtneiclolkfcboaaWalkH
import Derived.Test.YtneiclolkfcboaaL3
namespace Go.Proofs.Ytneiclolkfcboaa
open Go.RowKit

set_option maxRecDepth 100000 in
set_option maxHeartbeats 4000000 in
theorem law7 (p : Int) (wp : (Lit.int .u32 p).wf = true) (w : World) :
    Calls Try.prog 7 #[.int .u32 p] w fun e w' => e = .returned (.bool true) ∧ Below w.heap.size w w' := by
  have H := Lib.hid (mask_wf wp)
  clear wp
  cases hm : mayB p with
  | false =>
    have M := Lib.hid hm
    clear hm
    go_enter Try.func7, Try.ntmps7
    go_wp2_with fail
    go_at_call 24; refine (text_bad _ _ H.out M.out).mono ?_; rintro e w1 ⟨rfl, hb1⟩
    have HB1 := Lib.hid hb1
    clear hb1
    rw [show ByteArray.empty = { data := #[] } from rfl]
    go_wp2_with fail
    go_at_call 10; refine (refMay_any _ _ H.out).mono ?_; rintro e w2 ⟨rfl, rfl⟩
    rw [M.out]
    go_wp2_with fail
    go_at_call 13; refine (known_any _).mono ?_; rintro e w7 ⟨rfl, hb7⟩
    have HB7 := Lib.hid (HB1.out.trans (hb7.mono HB1.out.size))
    clear hb7
    go_wp2
    go_ret
    exact ⟨rfl, HB7.out⟩
  | true =>
    have M := Lib.hid hm
    have T := Lib.hid (text_ok H.out hm)
    have Z := Lib.hid (text_size p)
    clear hm
    go_enter Try.func7, Try.ntmps7
    go_wp2_with fail
    go_at_call 24; refine (text_good _ _ H.out M.out).mono ?_; rintro e w1 ⟨rfl, hb1⟩
    have HB1 := Lib.hid hb1
    clear hb1
    go_wp2_with fail
    go_at_call 10; refine (refMay_any _ _ H.out).mono ?_; rintro e w2 ⟨rfl, rfl⟩
    rw [M.out]
    go_wp2_with fail
    go_at_call 25; refine (ofText_any _ _ (by rw [Z.out]; omega)).mono ?_; rintro e w3 ⟨rfl, hb3⟩
    have HB3 := Lib.hid (HB1.out.trans (hb3.mono HB1.out.size))
    clear hb3
    rw [T.out.1, T.out.2]
    go_wp2_with fail
    go_at_call 26; refine (refText_any _ _ H.out).mono ?_; rintro e w4 ⟨rfl, hb4⟩
    have HB4 := Lib.hid (HB3.out.trans (hb4.mono HB3.out.size))
    clear hb4
    go_wp2_with fail
    go_at_call 13; refine (known_any _).mono ?_; rintro e w7 ⟨rfl, hb7⟩
    have HB7 := Lib.hid (HB4.out.trans (hb7.mono HB4.out.size))
    clear hb7
    go_wp2
    go_ret
    exact ⟨rfl, HB7.out⟩

end Go.Proofs.Ytneiclolkfcboaa
