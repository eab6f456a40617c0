/-
  What types.Charge, its reference's functions and known return (the walks).
-/
import Derived.Test.YtncdpodnhcbjeaaDoorWalkB
namespace Go.Proofs.YtncdpodnhcbjeaaDoor
open Go.RowKit

/-- A key's charge: 0, if there is none. -/
def chargeOf (t desc size : Int) : Int := if desc < 0 ∨ 32 < desc then 0 else if t = 4 then desc + 17 else if payB t size = true then desc + 1 + size else 0

theorem pay_bounds {t n : Int} (h : payB t n = true) : 0 ≤ n ∧ n ≤ 256 := by
  simp only [payB, decide_eq_true_eq] at h
  have h1 : 0 ≤ leastOf t := by unfold leastOf; split <;> omega
  have h2 : mostOf t ≤ 256 := by unfold mostOf; (repeat' split) <;> omega
  omega

set_option maxHeartbeats 400000 in
theorem charge_any (t desc size : Int) (w : World) (h : Tab w) :
    Calls Tryd.prog 9 #[.int .i64 t, .int .i64 desc, .int .i64 size] w fun e w' => e = .returned (.int .u64 (chargeOf t desc size)) ∧ Below w.heap.size w w' := by
  have H := Lib.hid h
  clear h
  have hb := Below.refl w.heap.size w
  by_cases h4 : t = 4
  · subst h4
    have hr : ringB 4 = true := rfl
    have hp : payB 4 0 = true := rfl
    by_cases h1 : desc < 0
    · have e : chargeOf 4 desc size = 0 := by unfold chargeOf; rw [if_pos (by omega)]
      rw [e]
      clear e
      go_enter Tryd.func9, Tryd.ntmps9
      go_wp2_with (first | (go_at_call 23; refine (ring_any _ _ (H.out.below hb)).mono ?_; rintro e w1 ⟨rfl, hb'⟩; replace hb := hb.trans (hb'.mono hb.size); clear hb') | (go_at_call 12; refine (pay_any _ _ _ (H.out.below hb)).mono ?_; rintro e w2 ⟨rfl, hb'⟩; replace hb := hb.trans (hb'.mono hb.size); clear hb'))
      go_ret
      exact ⟨rfl, hb⟩
    · by_cases h2 : 32 < desc
      · have e : chargeOf 4 desc size = 0 := by unfold chargeOf; rw [if_pos (by omega)]
        rw [e]
        clear e
        go_enter Tryd.func9, Tryd.ntmps9
        go_wp2_with (first | (go_at_call 23; refine (ring_any _ _ (H.out.below hb)).mono ?_; rintro e w1 ⟨rfl, hb'⟩; replace hb := hb.trans (hb'.mono hb.size); clear hb') | (go_at_call 12; refine (pay_any _ _ _ (H.out.below hb)).mono ?_; rintro e w2 ⟨rfl, hb'⟩; replace hb := hb.trans (hb'.mono hb.size); clear hb'))
        go_ret
        exact ⟨rfl, hb⟩
      · have e : chargeOf 4 desc size = desc + 17 := by unfold chargeOf; rw [if_neg (by omega), if_pos rfl]
        rw [e]
        clear e
        have d1 : decide (desc < 0) = false := by simpa using h1
        have d2 : decide (32 < desc) = false := by simpa using h2
        go_enter Tryd.func9, Tryd.ntmps9
        go_wp2_with (first | (go_at_call 23; refine (ring_any _ _ (H.out.below hb)).mono ?_; rintro e w1 ⟨rfl, hb'⟩; replace hb := hb.trans (hb'.mono hb.size); clear hb') | (go_at_call 12; refine (pay_any _ _ _ (H.out.below hb)).mono ?_; rintro e w2 ⟨rfl, hb'⟩; replace hb := hb.trans (hb'.mono hb.size); clear hb'))
        go_ret
        exact ⟨by rw [show desc + 17 = desc + 1 + 16 by omega]; rfl, hb⟩
  · have hr : ringB t = false := by simp [ringB, h4]
    by_cases h1 : desc < 0
    · have e : chargeOf t desc size = 0 := by unfold chargeOf; rw [if_pos (by omega)]
      rw [e]
      clear e h4
      go_enter Tryd.func9, Tryd.ntmps9
      go_wp2_with (first | (go_at_call 23; refine (ring_any _ _ (H.out.below hb)).mono ?_; rintro e w1 ⟨rfl, hb'⟩; replace hb := hb.trans (hb'.mono hb.size); clear hb') | (go_at_call 12; refine (pay_any _ _ _ (H.out.below hb)).mono ?_; rintro e w2 ⟨rfl, hb'⟩; replace hb := hb.trans (hb'.mono hb.size); clear hb'))
      go_ret
      exact ⟨rfl, hb⟩
    · by_cases h2 : 32 < desc
      · have e : chargeOf t desc size = 0 := by unfold chargeOf; rw [if_pos (by omega)]
        rw [e]
        clear e h4
        go_enter Tryd.func9, Tryd.ntmps9
        go_wp2_with (first | (go_at_call 23; refine (ring_any _ _ (H.out.below hb)).mono ?_; rintro e w1 ⟨rfl, hb'⟩; replace hb := hb.trans (hb'.mono hb.size); clear hb') | (go_at_call 12; refine (pay_any _ _ _ (H.out.below hb)).mono ?_; rintro e w2 ⟨rfl, hb'⟩; replace hb := hb.trans (hb'.mono hb.size); clear hb'))
        go_ret
        exact ⟨rfl, hb⟩
      · have d1 : decide (desc < 0) = false := by simpa using h1
        have d2 : decide (32 < desc) = false := by simpa using h2
        by_cases hp : payB t size = true
        · have e : chargeOf t desc size = desc + 1 + size := by unfold chargeOf; rw [if_neg (by omega), if_neg h4, if_pos hp]
          rw [e]
          obtain ⟨s1, s2⟩ := pay_bounds hp
          clear e h4
          go_enter Tryd.func9, Tryd.ntmps9
          go_wp2_with (first | (go_at_call 23; refine (ring_any _ _ (H.out.below hb)).mono ?_; rintro e w1 ⟨rfl, hb'⟩; replace hb := hb.trans (hb'.mono hb.size); clear hb') | (go_at_call 12; refine (pay_any _ _ _ (H.out.below hb)).mono ?_; rintro e w2 ⟨rfl, hb'⟩; replace hb := hb.trans (hb'.mono hb.size); clear hb'))
          go_ret
          exact ⟨rfl, hb⟩
        · have e : chargeOf t desc size = 0 := by unfold chargeOf; rw [if_neg (by omega), if_neg h4, if_neg hp]
          rw [e]
          have hp' : payB t size = false := by simpa using hp
          clear e h4 hp
          go_enter Tryd.func9, Tryd.ntmps9
          go_wp2_with (first | (go_at_call 23; refine (ring_any _ _ (H.out.below hb)).mono ?_; rintro e w1 ⟨rfl, hb'⟩; replace hb := hb.trans (hb'.mono hb.size); clear hb') | (go_at_call 12; refine (pay_any _ _ _ (H.out.below hb)).mono ?_; rintro e w2 ⟨rfl, hb'⟩; replace hb := hb.trans (hb'.mono hb.size); clear hb'))
          go_ret
          exact ⟨rfl, hb⟩

set_option maxHeartbeats 400000 in
theorem known_any (w : World) (h : Tab w) :
    Calls Tryd.prog 11 #[] w fun e w' => e = .returned (.bool true) ∧ Below w.heap.size w w' := by
  have H := Lib.hid h
  clear h
  have hb := Below.refl w.heap.size w
  have k1 : chargeOf 1 3 10 = 14 := rfl
  have k2 : chargeOf 4 3 0 = 20 := rfl
  have k3 : chargeOf 2 3 65 = 0 := rfl
  have k4 : nameOf 4 = ⟨#[107, 101, 121, 114, 105, 110, 103]⟩ := rfl
  go_enter Tryd.func11, Tryd.ntmps11
  go_wp2_with (first | (go_at_call 9; refine (charge_any _ _ _ _ (H.out.below hb)).mono ?_; rintro e w1 ⟨rfl, hb'⟩; replace hb := hb.trans (hb'.mono hb.size); clear hb') | (go_at_call 24; refine (name_any _ _ (H.out.below hb)).mono ?_; rintro e w1 ⟨rfl, hb'⟩; replace hb := hb.trans (hb'.mono hb.size); clear hb'))
  go_ret
  exact ⟨rfl, hb⟩

end Go.Proofs.YtncdpodnhcbjeaaDoor
