/-
  The walk of the law RestrictNames: it returns true for every restriction and text.
-/
import Derived.Test.YtkkoepidjgmkbaaWalkI
namespace Go.Proofs.Ytkkoepidjgmkbaa
open Go.RowKit Go.Shelf

set_option maxHeartbeats 2000000 in
theorem law8 (r : Int) (s : ByteArray) (w : World) : Calls Try.prog 8 #[.int .i64 r, .string s] w fun e w' => e = .returned (.bool true) ∧ Below w.heap.size w w' := by
  have hb := Below.refl w.heap.size w
  by_cases hl : 100 < (s.size : Int)
  · have d : decide (100 < (s.size : Int)) = true := by simpa using hl
    clear hl
    go_enter Try.func8, Try.ntmps8
    go_wp2_with (first | (go_at_call 11; refine (known_any _).mono ?_; rintro e w1 ⟨rfl, hb'⟩; replace hb := hb.trans (hb'.mono hb.size); clear hb'))
    go_ret
    exact ⟨rfl, hb⟩
  · have d : decide (100 < (s.size : Int)) = false := by simpa using hl
    clear hl
    rcases own_name r with ⟨m1, m2, m3⟩ | ⟨m1, m3⟩
    · have b0 : (r != r) = false := by simp
      rcases of_text s with ⟨x1, x2, x3⟩ | ⟨x1, x2, x3⟩
      · have X3 := Lib.hid x3
        clear x3
        go_enter Try.func8, Try.ntmps8
        go_wp2_with (first | (go_at_call 20; refine (name_any _ _).mono ?_; rintro e w1 ⟨rfl, hb'⟩; replace hb := hb.trans (hb'.mono hb.size); clear hb') | (go_at_call 21; refine (refName_any _ _).mono ?_; rintro e w1 ⟨rfl, hb'⟩; replace hb := hb.trans (hb'.mono hb.size); clear hb') | (go_at_call 22; refine (of_any _ _).mono ?_; rintro e w1 ⟨rfl, hb'⟩; replace hb := hb.trans (hb'.mono hb.size); clear hb') | (go_at_call 15; refine (refMay_any _ _).mono ?_; rintro e w2 ⟨rfl, rfl⟩))
        have HB0 := Lib.hid hb
        clear hb
        go_loopw [4, 11] (fun _ i wr => ∃ k : Int, 0 ≤ k ∧ k ≤ 6 ∧ i = .int .i64 k ∧ Below w.heap.size w wr) (fun _ i _ => (6 - intOf i).toNat)
        case atStart => exact ⟨0, by omega, by omega, rfl, HB0.out⟩
        case round =>
          obtain ⟨k, hk0, hk6, rfl, hb⟩ := hrel
          by_cases h6 : k = 6
          · subst h6
            clear HB0
            go_wp2_with (first | (go_at_call 11; refine (known_any _).mono ?_; rintro e w1 ⟨rfl, hb'⟩; replace hb := hb.trans (hb'.mono hb.size); clear hb'))
            go_ret
            exact ⟨rfl, hb⟩
          · have hk5 : k ≤ 5 := by omega
            have n := X3.out k hk0 hk5
            clear h6 HB0
            go_wp2_with (first | (go_at_call 21; refine (refName_any _ _).mono ?_; rintro e w1 ⟨rfl, hb'⟩; replace hb := hb.trans (hb'.mono hb.size); clear hb'))
            go_roundw
            case rel => exact ⟨k + 1, by omega, by omega, rfl, hb⟩
            case measure => simp [intOf]; omega
      · go_enter Try.func8, Try.ntmps8
        go_wp2_with (first | (go_at_call 20; refine (name_any _ _).mono ?_; rintro e w1 ⟨rfl, hb'⟩; replace hb := hb.trans (hb'.mono hb.size); clear hb') | (go_at_call 21; refine (refName_any _ _).mono ?_; rintro e w1 ⟨rfl, hb'⟩; replace hb := hb.trans (hb'.mono hb.size); clear hb') | (go_at_call 22; refine (of_any _ _).mono ?_; rintro e w1 ⟨rfl, hb'⟩; replace hb := hb.trans (hb'.mono hb.size); clear hb') | (go_at_call 15; refine (refMay_any _ _).mono ?_; rintro e w2 ⟨rfl, rfl⟩) | (go_at_call 11; refine (known_any _).mono ?_; rintro e w1 ⟨rfl, hb'⟩; replace hb := hb.trans (hb'.mono hb.size); clear hb'))
        go_ret
        exact ⟨rfl, hb⟩
    · rcases of_text s with ⟨x1, x2, x3⟩ | ⟨x1, x2, x3⟩
      · have X3 := Lib.hid x3
        clear x3
        go_enter Try.func8, Try.ntmps8
        go_wp2_with (first | (go_at_call 20; refine (name_any _ _).mono ?_; rintro e w1 ⟨rfl, hb'⟩; replace hb := hb.trans (hb'.mono hb.size); clear hb') | (go_at_call 21; refine (refName_any _ _).mono ?_; rintro e w1 ⟨rfl, hb'⟩; replace hb := hb.trans (hb'.mono hb.size); clear hb') | (go_at_call 22; refine (of_any _ _).mono ?_; rintro e w1 ⟨rfl, hb'⟩; replace hb := hb.trans (hb'.mono hb.size); clear hb') | (go_at_call 15; refine (refMay_any _ _).mono ?_; rintro e w2 ⟨rfl, rfl⟩))
        have HB0 := Lib.hid hb
        clear hb
        go_loopw [4, 11] (fun _ i wr => ∃ k : Int, 0 ≤ k ∧ k ≤ 6 ∧ i = .int .i64 k ∧ Below w.heap.size w wr) (fun _ i _ => (6 - intOf i).toNat)
        case atStart => exact ⟨0, by omega, by omega, rfl, HB0.out⟩
        case round =>
          obtain ⟨k, hk0, hk6, rfl, hb⟩ := hrel
          by_cases h6 : k = 6
          · subst h6
            clear HB0
            go_wp2_with (first | (go_at_call 11; refine (known_any _).mono ?_; rintro e w1 ⟨rfl, hb'⟩; replace hb := hb.trans (hb'.mono hb.size); clear hb'))
            go_ret
            exact ⟨rfl, hb⟩
          · have hk5 : k ≤ 5 := by omega
            have n := X3.out k hk0 hk5
            clear h6 HB0
            go_wp2_with (first | (go_at_call 21; refine (refName_any _ _).mono ?_; rintro e w1 ⟨rfl, hb'⟩; replace hb := hb.trans (hb'.mono hb.size); clear hb'))
            go_roundw
            case rel => exact ⟨k + 1, by omega, by omega, rfl, hb⟩
            case measure => simp [intOf]; omega
      · go_enter Try.func8, Try.ntmps8
        go_wp2_with (first | (go_at_call 20; refine (name_any _ _).mono ?_; rintro e w1 ⟨rfl, hb'⟩; replace hb := hb.trans (hb'.mono hb.size); clear hb') | (go_at_call 21; refine (refName_any _ _).mono ?_; rintro e w1 ⟨rfl, hb'⟩; replace hb := hb.trans (hb'.mono hb.size); clear hb') | (go_at_call 22; refine (of_any _ _).mono ?_; rintro e w1 ⟨rfl, hb'⟩; replace hb := hb.trans (hb'.mono hb.size); clear hb') | (go_at_call 15; refine (refMay_any _ _).mono ?_; rintro e w2 ⟨rfl, rfl⟩) | (go_at_call 11; refine (known_any _).mono ?_; rintro e w1 ⟨rfl, hb'⟩; replace hb := hb.trans (hb'.mono hb.size); clear hb'))
        go_ret
        exact ⟨rfl, hb⟩

end Go.Proofs.Ytkkoepidjgmkbaa
