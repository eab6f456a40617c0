/-
  What the reference's functions of layer 14 return (the walks).
-/
import Derived.Test.YtncdpodnhcbjeaaDoorWalkC
namespace Go.Proofs.YtncdpodnhcbjeaaDoor
open Go.RowKit

set_option maxHeartbeats 400000 in
theorem refMay_any (t : Int) (w : World) :
    Calls Tryd.prog 17 #[.int .i64 t] w fun e w' => e = .returned (.bool (mayB t)) ∧ w = w' := by
  by_cases h1 : t = 1
  · subst h1
    go_enter Tryd.func17, Tryd.ntmps17
    go_wp2
    go_ret
    exact ⟨rfl, rfl⟩
  by_cases h2 : t = 2
  · subst h2
    go_enter Tryd.func17, Tryd.ntmps17
    go_wp2
    go_ret
    exact ⟨rfl, rfl⟩
  by_cases h3 : t = 3
  · subst h3
    go_enter Tryd.func17, Tryd.ntmps17
    go_wp2
    go_ret
    exact ⟨rfl, rfl⟩
  by_cases h4 : t = 4
  · subst h4
    go_enter Tryd.func17, Tryd.ntmps17
    go_wp2
    go_ret
    exact ⟨rfl, rfl⟩
  have e : mayB t = false := by simp [mayB]; omega
  rw [e]
  clear e
  have b1 : (t == 1) = false := by simp [h1]
  have b2 : (t == 2) = false := by simp [h2]
  have b3 : (t == 3) = false := by simp [h3]
  have b4 : (t == 4) = false := by simp [h4]
  by_cases hlt : t < 1
  · have d1 : decide (1 ≤ t) = false := by simp; omega
    clear h1 h2 h3 h4
    go_enter Tryd.func17, Tryd.ntmps17
    go_wp2
    go_ret
    exact ⟨rfl, rfl⟩
  · have d2 : decide (t ≤ 4) = false := by simp; omega
    have d3 : decide (t ≤ 3) = false := by simp; omega
    have d1 : decide (1 ≤ t) = true := by simp; omega
    clear h1 h2 h3 h4
    go_enter Tryd.func17, Tryd.ntmps17
    go_wp2
    go_ret
    exact ⟨rfl, rfl⟩

set_option maxHeartbeats 400000 in
theorem refMost_any (t : Int) (w : World) :
    Calls Tryd.prog 18 #[.int .i64 t] w fun e w' => e = .returned (.int .i64 (mostOf t)) ∧ w = w' := by
  by_cases h1 : t = 1
  · subst h1
    go_enter Tryd.func18, Tryd.ntmps18
    go_wp2
    go_ret
    exact ⟨rfl, rfl⟩
  by_cases h2 : t = 2
  · subst h2
    go_enter Tryd.func18, Tryd.ntmps18
    go_wp2
    go_ret
    exact ⟨rfl, rfl⟩
  by_cases h3 : t = 3
  · subst h3
    go_enter Tryd.func18, Tryd.ntmps18
    go_wp2
    go_ret
    exact ⟨rfl, rfl⟩
  by_cases h4 : t = 4
  · subst h4
    go_enter Tryd.func18, Tryd.ntmps18
    go_wp2
    go_ret
    exact ⟨rfl, rfl⟩
  have e : mostOf t = 0 := by simp [mostOf, h1, h2, h3]
  rw [e]
  clear e
  have b1 : (t == 1) = false := by simp [h1]
  have b2 : (t == 2) = false := by simp [h2]
  have b3 : (t == 3) = false := by simp [h3]
  have b4 : (t == 4) = false := by simp [h4]
  by_cases hlt : t < 1
  · have d1 : decide (1 ≤ t) = false := by simp; omega
    clear h1 h2 h3 h4
    go_enter Tryd.func18, Tryd.ntmps18
    go_wp2
    go_ret
    exact ⟨rfl, rfl⟩
  · have d2 : decide (t ≤ 4) = false := by simp; omega
    have d3 : decide (t ≤ 3) = false := by simp; omega
    have d1 : decide (1 ≤ t) = true := by simp; omega
    clear h1 h2 h3 h4
    go_enter Tryd.func18, Tryd.ntmps18
    go_wp2
    go_ret
    exact ⟨rfl, rfl⟩

set_option maxHeartbeats 400000 in
theorem refRead_any (t : Int) (w : World) :
    Calls Tryd.prog 20 #[.int .i64 t] w fun e w' => e = .returned (.bool (readB t)) ∧ w = w' := by
  by_cases h1 : t = 1
  · subst h1
    go_enter Tryd.func20, Tryd.ntmps20
    go_wp2
    go_ret
    exact ⟨rfl, rfl⟩
  by_cases h2 : t = 2
  · subst h2
    go_enter Tryd.func20, Tryd.ntmps20
    go_wp2
    go_ret
    exact ⟨rfl, rfl⟩
  by_cases h3 : t = 3
  · subst h3
    go_enter Tryd.func20, Tryd.ntmps20
    go_wp2
    go_ret
    exact ⟨rfl, rfl⟩
  by_cases h4 : t = 4
  · subst h4
    go_enter Tryd.func20, Tryd.ntmps20
    go_wp2
    go_ret
    exact ⟨rfl, rfl⟩
  have e : readB t = false := by simp [readB, h1, h3, h4]
  rw [e]
  clear e
  have b1 : (t == 1) = false := by simp [h1]
  have b2 : (t == 2) = false := by simp [h2]
  have b3 : (t == 3) = false := by simp [h3]
  have b4 : (t == 4) = false := by simp [h4]
  by_cases hlt : t < 1
  · have d1 : decide (1 ≤ t) = false := by simp; omega
    clear h1 h2 h3 h4
    go_enter Tryd.func20, Tryd.ntmps20
    go_wp2
    go_ret
    exact ⟨rfl, rfl⟩
  · have d2 : decide (t ≤ 4) = false := by simp; omega
    have d3 : decide (t ≤ 3) = false := by simp; omega
    have d1 : decide (1 ≤ t) = true := by simp; omega
    clear h1 h2 h3 h4
    go_enter Tryd.func20, Tryd.ntmps20
    go_wp2
    go_ret
    exact ⟨rfl, rfl⟩

set_option maxHeartbeats 400000 in
theorem refUpd_any (t : Int) (w : World) :
    Calls Tryd.prog 22 #[.int .i64 t] w fun e w' => e = .returned (.bool (updB t)) ∧ w = w' := by
  by_cases h1 : t = 1
  · subst h1
    go_enter Tryd.func22, Tryd.ntmps22
    go_wp2
    go_ret
    exact ⟨rfl, rfl⟩
  by_cases h2 : t = 2
  · subst h2
    go_enter Tryd.func22, Tryd.ntmps22
    go_wp2
    go_ret
    exact ⟨rfl, rfl⟩
  by_cases h3 : t = 3
  · subst h3
    go_enter Tryd.func22, Tryd.ntmps22
    go_wp2
    go_ret
    exact ⟨rfl, rfl⟩
  by_cases h4 : t = 4
  · subst h4
    go_enter Tryd.func22, Tryd.ntmps22
    go_wp2
    go_ret
    exact ⟨rfl, rfl⟩
  have e : updB t = false := by simp [updB]; omega
  rw [e]
  clear e
  have b1 : (t == 1) = false := by simp [h1]
  have b2 : (t == 2) = false := by simp [h2]
  have b3 : (t == 3) = false := by simp [h3]
  have b4 : (t == 4) = false := by simp [h4]
  by_cases hlt : t < 1
  · have d1 : decide (1 ≤ t) = false := by simp; omega
    clear h1 h2 h3 h4
    go_enter Tryd.func22, Tryd.ntmps22
    go_wp2
    go_ret
    exact ⟨rfl, rfl⟩
  · have d2 : decide (t ≤ 4) = false := by simp; omega
    have d3 : decide (t ≤ 3) = false := by simp; omega
    have d1 : decide (1 ≤ t) = true := by simp; omega
    clear h1 h2 h3 h4
    go_enter Tryd.func22, Tryd.ntmps22
    go_wp2
    go_ret
    exact ⟨rfl, rfl⟩

set_option maxHeartbeats 400000 in
theorem refName_any (t : Int) (w : World) :
    Calls Tryd.prog 25 #[.int .i64 t] w fun e w' => e = .returned (.string (nameOf t)) ∧ w = w' := by
  by_cases h1 : t = 1
  · subst h1
    go_enter Tryd.func25, Tryd.ntmps25
    go_wp2
    go_ret
    exact ⟨rfl, rfl⟩
  by_cases h2 : t = 2
  · subst h2
    go_enter Tryd.func25, Tryd.ntmps25
    go_wp2
    go_ret
    exact ⟨rfl, rfl⟩
  by_cases h3 : t = 3
  · subst h3
    go_enter Tryd.func25, Tryd.ntmps25
    go_wp2
    go_ret
    exact ⟨rfl, rfl⟩
  by_cases h4 : t = 4
  · subst h4
    go_enter Tryd.func25, Tryd.ntmps25
    go_wp2
    go_ret
    exact ⟨rfl, rfl⟩
  have e : nameOf t = ⟨#[]⟩ := by simp [nameOf, h1, h2, h3, h4]
  rw [e]
  clear e
  have b1 : (t == 1) = false := by simp [h1]
  have b2 : (t == 2) = false := by simp [h2]
  have b3 : (t == 3) = false := by simp [h3]
  have b4 : (t == 4) = false := by simp [h4]
  by_cases hlt : t < 1
  · have d1 : decide (1 ≤ t) = false := by simp; omega
    clear h1 h2 h3 h4
    go_enter Tryd.func25, Tryd.ntmps25
    go_wp2
    go_ret
    exact ⟨rfl, rfl⟩
  · have d2 : decide (t ≤ 4) = false := by simp; omega
    have d3 : decide (t ≤ 3) = false := by simp; omega
    have d1 : decide (1 ≤ t) = true := by simp; omega
    clear h1 h2 h3 h4
    go_enter Tryd.func25, Tryd.ntmps25
    go_wp2
    go_ret
    exact ⟨rfl, rfl⟩


set_option maxHeartbeats 400000 in
theorem refPay_any (t n : Int) (w : World) :
    Calls Tryd.prog 13 #[.int .i64 t, .int .i64 n] w fun e w' => e = .returned (.bool (payB t n)) ∧ w = w' := by
  by_cases h4 : t = 4
  · subst h4
    by_cases h0 : n = 0
    · subst h0
      go_enter Tryd.func13, Tryd.ntmps13
      go_wp2
      go_ret
      exact ⟨rfl, rfl⟩
    · have e : payB 4 n = false := by simp [payB, leastOf, mostOf]; omega
      rw [e]
      clear e
      have b0 : (n == 0) = false := by simp [h0]
      clear h0
      go_enter Tryd.func13, Tryd.ntmps13
      go_wp2
      go_ret
      exact ⟨rfl, rfl⟩
  · have b4 : (t == 4) = false := by simp [h4]
    by_cases h1 : 1 ≤ t ∧ t ≤ 4
    · have hm : mayB t = true := by simp [mayB]; omega
      have hl : leastOf t = 1 := by unfold leastOf; rw [if_pos (by omega)]
      by_cases h2 : 1 ≤ n
      · have d2 : decide (1 ≤ n) = true := by simpa using h2
        by_cases h3 : n ≤ mostOf t
        · have d3 : decide (n ≤ mostOf t) = true := by simpa using h3
          have e : payB t n = true := by simp [payB]; omega
          rw [e]
          clear h1 e h4 hl
          go_enter Tryd.func13, Tryd.ntmps13
          go_wp2_with (first | (go_at_call 17; refine (refMay_any _ _).mono ?_; rintro e w2 ⟨rfl, rfl⟩) | (go_at_call 18; refine (refMost_any _ _).mono ?_; rintro e w2 ⟨rfl, rfl⟩))
          go_ret
          exact ⟨rfl, rfl⟩
        · have d3 : decide (n ≤ mostOf t) = false := by simpa using h3
          have e : payB t n = false := by simp [payB]; omega
          rw [e]
          clear h1 e h4 hl
          go_enter Tryd.func13, Tryd.ntmps13
          go_wp2_with (first | (go_at_call 17; refine (refMay_any _ _).mono ?_; rintro e w2 ⟨rfl, rfl⟩) | (go_at_call 18; refine (refMost_any _ _).mono ?_; rintro e w2 ⟨rfl, rfl⟩))
          go_ret
          exact ⟨rfl, rfl⟩
      · have d2 : decide (1 ≤ n) = false := by simpa using h2
        have e : payB t n = false := by simp [payB]; omega
        rw [e]
        clear h1 e h4 hl
        go_enter Tryd.func13, Tryd.ntmps13
        go_wp2_with (first | (go_at_call 17; refine (refMay_any _ _).mono ?_; rintro e w2 ⟨rfl, rfl⟩) | (go_at_call 18; refine (refMost_any _ _).mono ?_; rintro e w2 ⟨rfl, rfl⟩))
        go_ret
        exact ⟨rfl, rfl⟩
    · have hm : mayB t = false := by simp [mayB]; omega
      have e : payB t n = false := decide_eq_false (by omega)
      rw [e]
      clear h1 e h4
      go_enter Tryd.func13, Tryd.ntmps13
      go_wp2_with (first | (go_at_call 17; refine (refMay_any _ _).mono ?_; rintro e w2 ⟨rfl, rfl⟩) | (go_at_call 18; refine (refMost_any _ _).mono ?_; rintro e w2 ⟨rfl, rfl⟩))
      go_ret
      exact ⟨rfl, rfl⟩

set_option maxHeartbeats 400000 in
theorem refCharge_any (t desc size : Int) (w : World) :
    Calls Tryd.prog 10 #[.int .i64 t, .int .i64 desc, .int .i64 size] w fun e w' => e = .returned (.int .u64 (chargeOf t desc size)) ∧ w = w' := by
  by_cases h1 : desc < 0
  · have e : chargeOf t desc size = 0 := by unfold chargeOf; rw [if_pos (by omega)]
    rw [e]
    clear e
    go_enter Tryd.func10, Tryd.ntmps10
    go_wp2_with (first | (go_at_call 17; refine (refMay_any _ _).mono ?_; rintro e w2 ⟨rfl, rfl⟩) | (go_at_call 13; refine (refPay_any _ _ _).mono ?_; rintro e w2 ⟨rfl, rfl⟩))
    go_ret
    exact ⟨rfl, rfl⟩
  · have d1 : decide (desc < 0) = false := by simpa using h1
    by_cases h2 : 32 < desc
    · have e : chargeOf t desc size = 0 := by unfold chargeOf; rw [if_pos (by omega)]
      rw [e]
      clear e
      go_enter Tryd.func10, Tryd.ntmps10
      go_wp2_with (first | (go_at_call 17; refine (refMay_any _ _).mono ?_; rintro e w2 ⟨rfl, rfl⟩) | (go_at_call 13; refine (refPay_any _ _ _).mono ?_; rintro e w2 ⟨rfl, rfl⟩))
      go_ret
      exact ⟨rfl, rfl⟩
    · have d2 : decide (32 < desc) = false := by simpa using h2
      by_cases hm : mayB t = true
      · by_cases h4 : t = 4
        · subst h4
          have e : chargeOf 4 desc size = desc + 17 := by unfold chargeOf; rw [if_neg (by omega), if_pos rfl]
          rw [e]
          clear e
          go_enter Tryd.func10, Tryd.ntmps10
          go_wp2_with (first | (go_at_call 17; refine (refMay_any _ _).mono ?_; rintro e w2 ⟨rfl, rfl⟩) | (go_at_call 13; refine (refPay_any _ _ _).mono ?_; rintro e w2 ⟨rfl, rfl⟩))
          go_ret
          exact ⟨rfl, rfl⟩
        · have b4 : (t == 4) = false := by simp [h4]
          by_cases hp : payB t size = true
          · have e : chargeOf t desc size = desc + 1 + size := by unfold chargeOf; rw [if_neg (by omega), if_neg h4, if_pos hp]
            rw [e]
            obtain ⟨s1, s2⟩ := pay_bounds hp
            clear e h4
            go_enter Tryd.func10, Tryd.ntmps10
            go_wp2_with (first | (go_at_call 17; refine (refMay_any _ _).mono ?_; rintro e w2 ⟨rfl, rfl⟩) | (go_at_call 13; refine (refPay_any _ _ _).mono ?_; rintro e w2 ⟨rfl, rfl⟩))
            go_ret
            exact ⟨rfl, rfl⟩
          · have e : chargeOf t desc size = 0 := by unfold chargeOf; rw [if_neg (by omega), if_neg h4, if_neg hp]
            rw [e]
            have hp' : payB t size = false := by simpa using hp
            clear e h4 hp
            go_enter Tryd.func10, Tryd.ntmps10
            go_wp2_with (first | (go_at_call 17; refine (refMay_any _ _).mono ?_; rintro e w2 ⟨rfl, rfl⟩) | (go_at_call 13; refine (refPay_any _ _ _).mono ?_; rintro e w2 ⟨rfl, rfl⟩))
            go_ret
            exact ⟨rfl, rfl⟩
      · have hm' : mayB t = false := by simpa using hm
        have h4 : ¬ t = 4 := fun h => hm (by subst h; rfl)
        have hp : payB t size = false := decide_eq_false (by simp only [mayB, decide_eq_false_iff_not] at hm'; omega)
        have e : chargeOf t desc size = 0 := by unfold chargeOf; rw [if_neg (by omega), if_neg h4, hp]; rfl
        rw [e]
        clear e h4 hm
        go_enter Tryd.func10, Tryd.ntmps10
        go_wp2_with (first | (go_at_call 17; refine (refMay_any _ _).mono ?_; rintro e w2 ⟨rfl, rfl⟩) | (go_at_call 13; refine (refPay_any _ _ _).mono ?_; rintro e w2 ⟨rfl, rfl⟩))
        go_ret
        exact ⟨rfl, rfl⟩

end Go.Proofs.YtncdpodnhcbjeaaDoor
