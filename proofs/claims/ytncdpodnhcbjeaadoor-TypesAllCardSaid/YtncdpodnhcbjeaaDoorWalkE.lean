/-
  The walks of four laws of layer 14 (TypesCharges, TypesRises, TypesPayloads, TypesAre): each returns true wherever the table lies.
-/
import Derived.Test.YtncdpodnhcbjeaaDoorWalkD
namespace Go.Proofs.YtncdpodnhcbjeaaDoor
open Go.RowKit

theorem charge_le (t desc size : Int) : 0 ≤ chargeOf t desc size ∧ chargeOf t desc size ≤ 289 := by
  unfold chargeOf
  split
  · omega
  · split
    · omega
    · split
      · rename_i h
        have := pay_bounds h
        omega
      · omega

set_option maxHeartbeats 400000 in
theorem law3 (t desc size : Int) (w : World) (h : Tab w) :
    Calls Tryd.prog 3 #[.int .i64 t, .int .i64 desc, .int .i64 size] w fun e w' => e = .returned (.bool true) ∧ Below w.heap.size w w' := by
  have H := Lib.hid h
  clear h
  have hb := Below.refl w.heap.size w
  obtain ⟨c1, c2⟩ := charge_le t desc size
  go_enter Tryd.func3, Tryd.ntmps3
  go_wp2_with (first | (go_at_call 9; refine (charge_any _ _ _ _ (H.out.below hb)).mono ?_; rintro e w1 ⟨rfl, hb'⟩; replace hb := hb.trans (hb'.mono hb.size); clear hb') | (go_at_call 10; refine (refCharge_any _ _ _ _).mono ?_; rintro e w2 ⟨rfl, rfl⟩) | (go_at_call 11; refine (known_any  _ (H.out.below hb)).mono ?_; rintro e w1 ⟨rfl, hb'⟩; replace hb := hb.trans (hb'.mono hb.size); clear hb'))
  go_ret
  exact ⟨rfl, hb⟩

theorem charge_pos {t desc size : Int} (h : chargeOf t desc size ≠ 0) (h4 : t ≠ 4) : 0 ≤ desc ∧ desc ≤ 32 ∧ payB t size = true ∧ chargeOf t desc size = desc + 1 + size := by
  unfold chargeOf at h ⊢
  by_cases c1 : desc < 0 ∨ 32 < desc
  · rw [if_pos c1] at h; exact absurd rfl h
  · rw [if_neg c1, if_neg h4] at h ⊢
    by_cases c3 : payB t size = true
    · rw [if_pos c3]; exact ⟨by omega, by omega, c3, rfl⟩
    · rw [if_neg c3] at h; exact absurd rfl h

set_option maxHeartbeats 400000 in
theorem law4 (t desc a b : Int) (w : World) (h : Tab w) :
    Calls Tryd.prog 4 #[.int .i64 t, .int .i64 desc, .int .i64 a, .int .i64 b] w fun e w' => e = .returned (.bool true) ∧ Below w.heap.size w w' := by
  have H := Lib.hid h
  clear h
  have hb := Below.refl w.heap.size w
  by_cases x0 : chargeOf t desc a = 0
  · have x0' : (chargeOf t desc a == 0) = true := by simp [x0]
    clear x0
    go_enter Tryd.func4, Tryd.ntmps4
    go_wp2_with (first | (go_at_call 9; refine (charge_any _ _ _ _ (H.out.below hb)).mono ?_; rintro e w1 ⟨rfl, hb'⟩; replace hb := hb.trans (hb'.mono hb.size); clear hb') | (go_at_call 11; refine (known_any  _ (H.out.below hb)).mono ?_; rintro e w1 ⟨rfl, hb'⟩; replace hb := hb.trans (hb'.mono hb.size); clear hb'))
    go_ret
    exact ⟨rfl, hb⟩
  · have x0' : (chargeOf t desc a == 0) = false := by simp [x0]
    by_cases y0 : chargeOf t desc b = 0
    · have y0' : (chargeOf t desc b == 0) = true := by simp [y0]
      clear x0 y0
      go_enter Tryd.func4, Tryd.ntmps4
      go_wp2_with (first | (go_at_call 9; refine (charge_any _ _ _ _ (H.out.below hb)).mono ?_; rintro e w1 ⟨rfl, hb'⟩; replace hb := hb.trans (hb'.mono hb.size); clear hb') | (go_at_call 11; refine (known_any  _ (H.out.below hb)).mono ?_; rintro e w1 ⟨rfl, hb'⟩; replace hb := hb.trans (hb'.mono hb.size); clear hb'))
      go_ret
      exact ⟨rfl, hb⟩
    · have y0' : (chargeOf t desc b == 0) = false := by simp [y0]
      by_cases h4 : t = 4
      · have e : (chargeOf t desc a == chargeOf t desc b) = true := by subst h4; simp [chargeOf]
        have b4 : (t == 4) = true := by simp [h4]
        clear x0 y0 h4
        go_enter Tryd.func4, Tryd.ntmps4
        go_wp2_with (first | (go_at_call 9; refine (charge_any _ _ _ _ (H.out.below hb)).mono ?_; rintro e w1 ⟨rfl, hb'⟩; replace hb := hb.trans (hb'.mono hb.size); clear hb') | (go_at_call 11; refine (known_any  _ (H.out.below hb)).mono ?_; rintro e w1 ⟨rfl, hb'⟩; replace hb := hb.trans (hb'.mono hb.size); clear hb'))
        go_ret
        exact ⟨rfl, hb⟩
      · obtain ⟨d1, d2, pa, ea⟩ := charge_pos x0 h4
        obtain ⟨_, _, pb, eb⟩ := charge_pos y0 h4
        obtain ⟨a1, a2⟩ := pay_bounds pa
        obtain ⟨b1, b2⟩ := pay_bounds pb
        have b4 : (t == 4) = false := by simp [h4]
        have f1 : (decide (a < b) == decide (desc + 1 + a < desc + 1 + b)) = true := by simp
        have f2 : (desc + 1 + a - (desc + 1 + b) == a - b) = true := by simp; omega
        have x1 : (desc + 1 + a == 0) = false := by simp; omega
        have y1 : (desc + 1 + b == 0) = false := by simp; omega
        clear x0 y0 h4 x0' y0' pa pb
        go_enter Tryd.func4, Tryd.ntmps4
        go_wp2_with (first | (go_at_call 9; refine (charge_any _ _ _ _ (H.out.below hb)).mono ?_; rintro e w1 ⟨rfl, hb'⟩; replace hb := hb.trans (hb'.mono hb.size); clear hb') | (go_at_call 11; refine (known_any  _ (H.out.below hb)).mono ?_; rintro e w1 ⟨rfl, hb'⟩; replace hb := hb.trans (hb'.mono hb.size); clear hb'))
        go_ret
        exact ⟨rfl, hb⟩

set_option maxHeartbeats 400000 in
theorem law5 (t n : Int) (w : World) (h : Tab w) :
    Calls Tryd.prog 5 #[.int .i64 t, .int .i64 n] w fun e w' => e = .returned (.bool true) ∧ Below w.heap.size w w' := by
  have H := Lib.hid h
  clear h
  have hb := Below.refl w.heap.size w
  by_cases hp : payB t n = true
  · have hp1 := hp
    simp only [payB, decide_eq_true_eq] at hp1
    obtain ⟨_, _, l1, l2⟩ := hp1
    obtain ⟨_, n2⟩ := pay_bounds hp
    have d1 : decide (leastOf t ≤ n) = true := by simpa using l1
    have d2 : decide (n ≤ mostOf t) = true := by simpa using l2
    have d3 : decide (n ≤ 256) = true := by simpa using n2
    go_enter Tryd.func5, Tryd.ntmps5
    go_wp2_with (first | (go_at_call 12; refine (pay_any _ _ _ (H.out.below hb)).mono ?_; rintro e w1 ⟨rfl, hb'⟩; replace hb := hb.trans (hb'.mono hb.size); clear hb') | (go_at_call 13; refine (refPay_any _ _ _).mono ?_; rintro e w2 ⟨rfl, rfl⟩) | (go_at_call 14; refine (least_any _ _ (H.out.below hb)).mono ?_; rintro e w1 ⟨rfl, hb'⟩; replace hb := hb.trans (hb'.mono hb.size); clear hb') | (go_at_call 15; refine (most_any _ _ (H.out.below hb)).mono ?_; rintro e w1 ⟨rfl, hb'⟩; replace hb := hb.trans (hb'.mono hb.size); clear hb') | (go_at_call 11; refine (known_any  _ (H.out.below hb)).mono ?_; rintro e w1 ⟨rfl, hb'⟩; replace hb := hb.trans (hb'.mono hb.size); clear hb'))
    go_ret
    exact ⟨rfl, hb⟩
  · have hp' : payB t n = false := by simpa using hp
    clear hp
    go_enter Tryd.func5, Tryd.ntmps5
    go_wp2_with (first | (go_at_call 12; refine (pay_any _ _ _ (H.out.below hb)).mono ?_; rintro e w1 ⟨rfl, hb'⟩; replace hb := hb.trans (hb'.mono hb.size); clear hb') | (go_at_call 13; refine (refPay_any _ _ _).mono ?_; rintro e w2 ⟨rfl, rfl⟩) | (go_at_call 14; refine (least_any _ _ (H.out.below hb)).mono ?_; rintro e w1 ⟨rfl, hb'⟩; replace hb := hb.trans (hb'.mono hb.size); clear hb') | (go_at_call 15; refine (most_any _ _ (H.out.below hb)).mono ?_; rintro e w1 ⟨rfl, hb'⟩; replace hb := hb.trans (hb'.mono hb.size); clear hb') | (go_at_call 11; refine (known_any  _ (H.out.below hb)).mono ?_; rintro e w1 ⟨rfl, hb'⟩; replace hb := hb.trans (hb'.mono hb.size); clear hb'))
    go_ret
    exact ⟨rfl, hb⟩

set_option maxHeartbeats 1000000 in
theorem law6 (t : Int) (w : World) (h : Tab w) :
    Calls Tryd.prog 6 #[.int .i64 t] w fun e w' => e = .returned (.bool true) ∧ Below w.heap.size w w' := by
  have H := Lib.hid h
  clear h
  have hb := Below.refl w.heap.size w
  have hr : (ringB t == (t == 4)) = true := by by_cases h4 : t = 4 <;> simp [ringB, h4]
  by_cases h1 : 1 ≤ t
  · have d1 : decide (1 ≤ t) = true := by simpa using h1
    by_cases h3 : t ≤ 3
    · have d3 : decide (t ≤ 3) = true := by simpa using h3
      have hl : leastOf t = 1 := by unfold leastOf; rw [if_pos (by omega)]
      go_enter Tryd.func6, Tryd.ntmps6
      go_wp2_with (first | (go_at_call 16; refine (may_any _ _).mono ?_; rintro e w2 ⟨rfl, rfl⟩) | (go_at_call 17; refine (refMay_any _ _).mono ?_; rintro e w2 ⟨rfl, rfl⟩) | (go_at_call 15; refine (most_any _ _ (H.out.below hb)).mono ?_; rintro e w1 ⟨rfl, hb'⟩; replace hb := hb.trans (hb'.mono hb.size); clear hb') | (go_at_call 18; refine (refMost_any _ _).mono ?_; rintro e w2 ⟨rfl, rfl⟩) | (go_at_call 14; refine (least_any _ _ (H.out.below hb)).mono ?_; rintro e w1 ⟨rfl, hb'⟩; replace hb := hb.trans (hb'.mono hb.size); clear hb') | (go_at_call 19; refine (read_any _ _ (H.out.below hb)).mono ?_; rintro e w1 ⟨rfl, hb'⟩; replace hb := hb.trans (hb'.mono hb.size); clear hb') | (go_at_call 20; refine (refRead_any _ _).mono ?_; rintro e w2 ⟨rfl, rfl⟩) | (go_at_call 21; refine (upd_any _ _ (H.out.below hb)).mono ?_; rintro e w1 ⟨rfl, hb'⟩; replace hb := hb.trans (hb'.mono hb.size); clear hb') | (go_at_call 22; refine (refUpd_any _ _).mono ?_; rintro e w2 ⟨rfl, rfl⟩) | (go_at_call 23; refine (ring_any _ _ (H.out.below hb)).mono ?_; rintro e w1 ⟨rfl, hb'⟩; replace hb := hb.trans (hb'.mono hb.size); clear hb') | (go_at_call 24; refine (name_any _ _ (H.out.below hb)).mono ?_; rintro e w1 ⟨rfl, hb'⟩; replace hb := hb.trans (hb'.mono hb.size); clear hb') | (go_at_call 25; refine (refName_any _ _).mono ?_; rintro e w2 ⟨rfl, rfl⟩) | (go_at_call 11; refine (known_any  _ (H.out.below hb)).mono ?_; rintro e w1 ⟨rfl, hb'⟩; replace hb := hb.trans (hb'.mono hb.size); clear hb'))
      go_ret
      exact ⟨rfl, hb⟩
    · have d3 : decide (t ≤ 3) = false := by simpa using h3
      have hl : leastOf t = 0 := by unfold leastOf; rw [if_neg (by omega)]
      go_enter Tryd.func6, Tryd.ntmps6
      go_wp2_with (first | (go_at_call 16; refine (may_any _ _).mono ?_; rintro e w2 ⟨rfl, rfl⟩) | (go_at_call 17; refine (refMay_any _ _).mono ?_; rintro e w2 ⟨rfl, rfl⟩) | (go_at_call 15; refine (most_any _ _ (H.out.below hb)).mono ?_; rintro e w1 ⟨rfl, hb'⟩; replace hb := hb.trans (hb'.mono hb.size); clear hb') | (go_at_call 18; refine (refMost_any _ _).mono ?_; rintro e w2 ⟨rfl, rfl⟩) | (go_at_call 14; refine (least_any _ _ (H.out.below hb)).mono ?_; rintro e w1 ⟨rfl, hb'⟩; replace hb := hb.trans (hb'.mono hb.size); clear hb') | (go_at_call 19; refine (read_any _ _ (H.out.below hb)).mono ?_; rintro e w1 ⟨rfl, hb'⟩; replace hb := hb.trans (hb'.mono hb.size); clear hb') | (go_at_call 20; refine (refRead_any _ _).mono ?_; rintro e w2 ⟨rfl, rfl⟩) | (go_at_call 21; refine (upd_any _ _ (H.out.below hb)).mono ?_; rintro e w1 ⟨rfl, hb'⟩; replace hb := hb.trans (hb'.mono hb.size); clear hb') | (go_at_call 22; refine (refUpd_any _ _).mono ?_; rintro e w2 ⟨rfl, rfl⟩) | (go_at_call 23; refine (ring_any _ _ (H.out.below hb)).mono ?_; rintro e w1 ⟨rfl, hb'⟩; replace hb := hb.trans (hb'.mono hb.size); clear hb') | (go_at_call 24; refine (name_any _ _ (H.out.below hb)).mono ?_; rintro e w1 ⟨rfl, hb'⟩; replace hb := hb.trans (hb'.mono hb.size); clear hb') | (go_at_call 25; refine (refName_any _ _).mono ?_; rintro e w2 ⟨rfl, rfl⟩) | (go_at_call 11; refine (known_any  _ (H.out.below hb)).mono ?_; rintro e w1 ⟨rfl, hb'⟩; replace hb := hb.trans (hb'.mono hb.size); clear hb'))
      go_ret
      exact ⟨rfl, hb⟩
  · have d1 : decide (1 ≤ t) = false := by simpa using h1
    have hl : leastOf t = 0 := by unfold leastOf; rw [if_neg (by omega)]
    go_enter Tryd.func6, Tryd.ntmps6
    go_wp2_with (first | (go_at_call 16; refine (may_any _ _).mono ?_; rintro e w2 ⟨rfl, rfl⟩) | (go_at_call 17; refine (refMay_any _ _).mono ?_; rintro e w2 ⟨rfl, rfl⟩) | (go_at_call 15; refine (most_any _ _ (H.out.below hb)).mono ?_; rintro e w1 ⟨rfl, hb'⟩; replace hb := hb.trans (hb'.mono hb.size); clear hb') | (go_at_call 18; refine (refMost_any _ _).mono ?_; rintro e w2 ⟨rfl, rfl⟩) | (go_at_call 14; refine (least_any _ _ (H.out.below hb)).mono ?_; rintro e w1 ⟨rfl, hb'⟩; replace hb := hb.trans (hb'.mono hb.size); clear hb') | (go_at_call 19; refine (read_any _ _ (H.out.below hb)).mono ?_; rintro e w1 ⟨rfl, hb'⟩; replace hb := hb.trans (hb'.mono hb.size); clear hb') | (go_at_call 20; refine (refRead_any _ _).mono ?_; rintro e w2 ⟨rfl, rfl⟩) | (go_at_call 21; refine (upd_any _ _ (H.out.below hb)).mono ?_; rintro e w1 ⟨rfl, hb'⟩; replace hb := hb.trans (hb'.mono hb.size); clear hb') | (go_at_call 22; refine (refUpd_any _ _).mono ?_; rintro e w2 ⟨rfl, rfl⟩) | (go_at_call 23; refine (ring_any _ _ (H.out.below hb)).mono ?_; rintro e w1 ⟨rfl, hb'⟩; replace hb := hb.trans (hb'.mono hb.size); clear hb') | (go_at_call 24; refine (name_any _ _ (H.out.below hb)).mono ?_; rintro e w1 ⟨rfl, hb'⟩; replace hb := hb.trans (hb'.mono hb.size); clear hb') | (go_at_call 25; refine (refName_any _ _).mono ?_; rintro e w2 ⟨rfl, rfl⟩) | (go_at_call 11; refine (known_any  _ (H.out.below hb)).mono ?_; rintro e w1 ⟨rfl, hb'⟩; replace hb := hb.trans (hb'.mono hb.size); clear hb'))
    go_ret
    exact ⟨rfl, hb⟩

end Go.Proofs.YtncdpodnhcbjeaaDoor
