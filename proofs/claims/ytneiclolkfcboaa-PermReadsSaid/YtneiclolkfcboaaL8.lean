/-
  The walk of the law PermReads: it returns true for every string.
-/
import Derived.Test.YtneiclolkfcboaaWalkK
import Derived.Test.YtneiclolkfcboaaWalkH
namespace Go.Proofs.Ytneiclolkfcboaa
open Go.RowKit

set_option maxRecDepth 100000 in
set_option maxHeartbeats 4000000 in
theorem law8 (s : ByteArray) (w : World) :
    Calls Try.prog 8 #[.string s] w fun e w' => e = .returned (.bool true) ∧ Below w.heap.size w w' := by
  by_cases hl : (100 : Int) < s.size
  · go_enter Try.func8, Try.ntmps8
    go_wp2_with fail
    go_at_call 13; refine (known_any _).mono ?_; rintro e w7 ⟨rfl, hb7⟩
    go_wp2
    go_ret
    exact ⟨rfl, hb7⟩
  have hs : s.size ≤ 1000 := by omega
  by_cases hk : OkT s
  · have G := Lib.hid (ofText_good hk)
    have R := Lib.hid (read_back hk)
    have V := Lib.hid (val_mask hk.2.1)
    have M := Lib.hid hk.2.2
    clear hk
    go_enter Try.func8, Try.ntmps8
    go_wp2_with fail
    go_at_call 25; refine (ofText_any _ _ hs).mono ?_; rintro e w1 ⟨rfl, hb1⟩
    have HB1 := Lib.hid hb1
    clear hb1
    rw [G.out.1, G.out.2]
    go_wp2_with fail
    go_at_call 27; refine (refOfText_any _ _).mono ?_; rintro e w2 ⟨rfl, rfl⟩
    rw [G.out.1, G.out.2]
    go_wp2_with fail
    go_at_call 24; refine (text_good _ _ V.out M.out).mono ?_; rintro e w3 ⟨rfl, hb3⟩
    have HB3 := Lib.hid (HB1.out.trans (hb3.mono HB1.out.size))
    clear hb3
    rw [R.out]
    go_wp2_with fail
    go_at_call 13; refine (known_any _).mono ?_; rintro e w7 ⟨rfl, hb7⟩
    have HB7 := Lib.hid (HB3.out.trans (hb7.mono HB3.out.size))
    clear hb7
    go_wp2
    go_ret
    exact ⟨rfl, HB7.out⟩
  · have G := Lib.hid (ofText_bad hk)
    clear hk
    go_enter Try.func8, Try.ntmps8
    go_wp2_with fail
    go_at_call 25; refine (ofText_any _ _ hs).mono ?_; rintro e w1 ⟨rfl, hb1⟩
    have HB1 := Lib.hid hb1
    clear hb1
    rw [G.out.1, G.out.2]
    go_wp2_with fail
    go_at_call 27; refine (refOfText_any _ _).mono ?_; rintro e w2 ⟨rfl, rfl⟩
    rw [G.out.1, G.out.2]
    go_wp2_with fail
    go_at_call 13; refine (known_any _).mono ?_; rintro e w7 ⟨rfl, hb7⟩
    have HB7 := Lib.hid (HB1.out.trans (hb7.mono HB1.out.size))
    clear hb7
    go_wp2
    go_ret
    exact ⟨rfl, HB7.out⟩

end Go.Proofs.Ytneiclolkfcboaa
