/-
  The walk of the law TypesNames: it returns true for every string, wherever the table lies.
-/
import Derived.Test.YtncdpodnhcbjeaaDoorWalkF
namespace Go.Proofs.YtncdpodnhcbjeaaDoor
open Go.RowKit

set_option maxHeartbeats 1000000 in
theorem law7 (s : ByteArray) (w : World) (h : Tab w) :
    Calls Tryd.prog 7 #[.string s] w fun e w' => e = .returned (.bool true) ∧ Below w.heap.size w w' := by
  have H := Lib.hid h
  clear h
  have hb := Below.refl w.heap.size w
  by_cases hl : 100 < (s.size : Int)
  · have d : decide (100 < (s.size : Int)) = true := by simpa using hl
    clear hl
    go_enter Tryd.func7, Tryd.ntmps7
    go_wp2_with (go_at_call 11; refine (known_any _ (H.out.below hb)).mono ?_; rintro e w1 ⟨rfl, hb'⟩; replace hb := hb.trans (hb'.mono hb.size); clear hb')
    go_ret
    exact ⟨rfl, hb⟩
  · have d : decide (100 < (s.size : Int)) = false := by simpa using hl
    clear hl
    rcases ty_name s with ⟨ht, he⟩ | ⟨ht, he, hn⟩
    · go_enter Tryd.func7, Tryd.ntmps7
      go_wp2_with (first | (go_at_call 26; refine (of_name s _ (H.out.below hb)).mono ?_; rintro e w1 ⟨rfl, hb'⟩; replace hb := hb.trans (hb'.mono hb.size); clear hb') | (go_at_call 27; refine (refOf_name s _).mono ?_; rintro e w1 ⟨rfl, rfl⟩) | (go_at_call 11; refine (known_any _ (H.out.below hb)).mono ?_; rintro e w1 ⟨rfl, hb'⟩; replace hb := hb.trans (hb'.mono hb.size); clear hb'))
      go_ret
      exact ⟨rfl, hb⟩
    · have t1 : (tyOf s == 0) = false := by simp [ht]
      have t2 : (tyOf s != 0) = true := by simp [ht]
      have n1 : ((nameOf (tyOf s)).toList == s.toList) = true := hn
      clear ht hn
      go_enter Tryd.func7, Tryd.ntmps7
      go_wp2_with (first | (go_at_call 26; refine (of_name s _ (H.out.below hb)).mono ?_; rintro e w1 ⟨rfl, hb'⟩; replace hb := hb.trans (hb'.mono hb.size); clear hb') | (go_at_call 27; refine (refOf_name s _).mono ?_; rintro e w1 ⟨rfl, rfl⟩) | (go_at_call 24; refine (name_any _ _ (H.out.below hb)).mono ?_; rintro e w1 ⟨rfl, hb'⟩; replace hb := hb.trans (hb'.mono hb.size); clear hb') | (go_at_call 11; refine (known_any _ (H.out.below hb)).mono ?_; rintro e w1 ⟨rfl, hb'⟩; replace hb := hb.trans (hb'.mono hb.size); clear hb'))
      go_ret
      exact ⟨rfl, hb⟩

end Go.Proofs.YtncdpodnhcbjeaaDoor
