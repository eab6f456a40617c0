/-
  The reference's Meet (the walk): the restriction whose word is that of all.
-/
import Derived.Test.YtkkoepidjgmkbaaWalkE
namespace Go.Proofs.Ytkkoepidjgmkbaa
open Go.RowKit Go.Shelf

set_option maxHeartbeats 4000000 in
theorem refMeet_good (b off n cap : Nat) (x : Nat → Int) (w : World) (hn : n ≤ 9223372036854775807) (hc : ∀ j, j < n → w.cell? ⟨b, off + j, none⟩ = some (.int .i64 (x j))) (hm : ∀ j : Nat, j < n → mayB (x j) = true) :
    Calls Try.prog 13 #[.slice (some ⟨b, off, none⟩) n cap] w fun e w' => e = .returned (.tuple #[.int .i64 (foldTo x n), .int .i64 0]) ∧ w = w' := by
  have hr := fold_may x n hm
  have HS := Lib.hid (fun r h => same_fold x n hm (r := r) h)
  have HC := Lib.hid hc
  have HM := Lib.hid hm
  have HR := Lib.hid hr
  clear hc hm hr
  go_enter Try.func13, Try.ntmps13
  go_wp2
  go_loop [2, 3, 4] (fun _ _ i => ∃ k : Nat, k ≤ n ∧ i = .int .i64 k) (fun _ _ i => n - (intOf i).toNat)
  case atStart => exact ⟨0, by omega, rfl⟩
  case round =>
    obtain ⟨k, hk, rfl⟩ := hrel
    by_cases hlt : k < n
    · have c := HC.out k hlt
      have m := HM.out k hlt
      go_wp2_with (go_at_call 15; refine (refMay_any _ _).mono ?_; rintro e w1 ⟨rfl, rfl⟩)
      go_round
      case rel => exact ⟨k + 1, by omega, by go_num⟩
      case measure => simp [intOf]; omega
    have hge : ¬ ((k : Int) < (n : Int)) := by omega
    clear hlt
    go_wp2_with fail
    go_loop [2, 3, 5, 6, 7, 8, 9] (fun _ _ r _ _ _ _ => ∃ q : Int, 0 ≤ q ∧ q ≤ foldTo x n ∧ r = .int .i64 q) (fun _ _ r _ _ _ _ => (6 - intOf r).toNat)
    case atStart => exact ⟨0, by omega, (of_decide_eq_true HR.out).1, rfl⟩
    case round =>
      obtain ⟨q, hq0, hqm, rfl⟩ := hrel
      have hq5 : q ≤ 5 := Int.le_trans hqm (of_decide_eq_true HR.out).2
      go_wp2_with fail
      go_loop [6, 7, 8, 9] (fun s t _ _ => ∃ p : Nat, p ≤ 4 ∧ t = .int .i64 ((p : Int) + 1) ∧ s = .bool (sameTo x n q p)) (fun _ t _ _ => (5 - intOf t).toNat)
      case atStart => exact ⟨0, by omega, rfl, rfl⟩
      case round =>
        obtain ⟨p, hp, rfl, rfl⟩ := hrel
        by_cases hp4 : p < 4
        · have hle : ((p : Int) + 1) ≤ 4 := by omega
          go_wp2_with fail
          go_loop [8, 9] (fun al i => ∃ k : Nat, k ≤ n ∧ i = .int .i64 k ∧ al = .bool (allTo x ((p : Int) + 1) k)) (fun _ i => n - (intOf i).toNat)
          case atStart => exact ⟨0, by omega, rfl, rfl⟩
          case round =>
            obtain ⟨k, hk, rfl, rfl⟩ := hrel
            by_cases hlt : k < n
            · have c := HC.out k hlt
              have hs : allTo x ((p : Int) + 1) (k + 1) = (allTo x ((p : Int) + 1) k && allowB (x k) ((p : Int) + 1)) := rfl
              have HA := Lib.hid hs
              clear hs
              by_cases ha : allTo x ((p : Int) + 1) k = true
              · have HA2 := Lib.hid ha
                go_wp2_with (go_at_call 10; refine (refAllows_any _ _ _).mono ?_; rintro e w1 ⟨rfl, rfl⟩)
                go_round
                case rel => exact ⟨k + 1, by omega, by go_num, by rw [HA.out, HA2.out]; rfl⟩
                case measure => simp [intOf]; omega
              · have ha' : allTo x ((p : Int) + 1) k = false := by simpa using ha
                have HA2 := Lib.hid ha'
                clear ha
                go_wp2_with (go_at_call 10; refine (refAllows_any _ _ _).mono ?_; rintro e w1 ⟨rfl, rfl⟩)
                go_round
                case rel => exact ⟨k + 1, by omega, by go_num, by rw [HA.out, HA2.out]; rfl⟩
                case measure => simp [intOf]; omega
            have hge2 : ¬ ((k : Int) < (n : Int)) := by omega
            have hkn : k = n := by omega
            have HK := Lib.hid hkn
            clear hlt hkn
            have hs : sameTo x n q (p + 1) = (sameTo x n q p && (allowB q ((p : Int) + 1) == allTo x ((p : Int) + 1) n)) := rfl
            have HA := Lib.hid hs
            clear hs
            by_cases ha : sameTo x n q p = true
            · have HA2 := Lib.hid ha
              go_wp2_with (go_at_call 10; refine (refAllows_any _ _ _).mono ?_; rintro e w1 ⟨rfl, rfl⟩)
              go_round
              case rel => exact ⟨p + 1, by omega, by go_num, by rw [HA.out, HA2.out, ← HK.out]; simp⟩
              case measure => simp [intOf]; omega
            · have ha' : sameTo x n q p = false := by simpa using ha
              have HA2 := Lib.hid ha'
              clear ha
              go_wp2_with (go_at_call 10; refine (refAllows_any _ _ _).mono ?_; rintro e w1 ⟨rfl, rfl⟩)
              go_round
              case rel => exact ⟨p + 1, by omega, by go_num, by rw [HA.out, HA2.out]; rfl⟩
              case measure => simp [intOf]; omega
        · have hge : ¬ (((p : Int) + 1) ≤ 4) := by omega
          have hp4' : p = 4 := by omega
          have hsm := HS.out q (decide_eq_true ⟨hq0, hq5⟩)
          rw [← hp4'] at hsm
          have HSM := Lib.hid hsm
          clear hsm hp4' hp4
          by_cases hqq : q = foldTo x n
          · have hsame : sameTo x n q p = true := by rw [HSM.out]; exact decide_eq_true hqq
            have HQ := Lib.hid hqq
            clear hqq
            rw [hsame]
            go_wp2
            go_ret2
            exact ⟨ret_two HQ.out rfl, rfl⟩
          · have hsame : sameTo x n q p = false := by rw [HSM.out]; exact decide_eq_false hqq
            have hlt3 : q + 1 ≤ foldTo x n := by omega
            have hle5 : q ≤ 4 := by have := (of_decide_eq_true HR.out).2; omega
            clear hqq
            rw [hsame]
            go_wp2
            go_round
            case rel => exact ⟨q + 1, by omega, hlt3, rfl⟩
            case measure => simp [intOf]; omega

set_option maxHeartbeats 4000000 in
theorem refMeet_nil (a : Option Addr) (cap : Nat) (x : Nat → Int) (w : World) :
    Calls Try.prog 13 #[.slice a 0 cap] w fun e w' => e = .returned (.tuple #[.int .i64 (foldTo x 0), .int .i64 0]) ∧ w = w' := by
  have hm : ∀ j : Nat, j < 0 → mayB (x j) = true := fun j hj => by omega
  have HM := Lib.hid hm
  have hr := fold_may x 0 hm
  have HS := Lib.hid (fun r h => same_fold x 0 hm (r := r) h)
  have HR := Lib.hid hr
  clear hm hr
  go_enter Try.func13, Try.ntmps13
  go_wp2
  refine wp_loop_rounds 1 ?_
  rw [rounds_succ]
  go_wp2_with fail
  go_loop [2, 3, 5, 6, 7, 8, 9] (fun _ _ r _ _ _ _ => ∃ q : Int, 0 ≤ q ∧ q ≤ foldTo x 0 ∧ r = .int .i64 q) (fun _ _ r _ _ _ _ => (6 - intOf r).toNat)
  case atStart => exact ⟨0, by omega, (of_decide_eq_true HR.out).1, rfl⟩
  case round =>
    obtain ⟨q, hq0, hqm, rfl⟩ := hrel
    have hq5 : q ≤ 5 := Int.le_trans hqm (of_decide_eq_true HR.out).2
    go_wp2_with fail
    go_loop [6, 7, 8, 9] (fun s t _ _ => ∃ p : Nat, p ≤ 4 ∧ t = .int .i64 ((p : Int) + 1) ∧ s = .bool (sameTo x 0 q p)) (fun _ t _ _ => (5 - intOf t).toNat)
    case atStart => exact ⟨0, by omega, rfl, rfl⟩
    case round =>
      obtain ⟨p, hp, rfl, rfl⟩ := hrel
      by_cases hp4 : p < 4
      · have hle : ((p : Int) + 1) ≤ 4 := by omega
        go_wp2_with fail
        refine wp_loop_rounds 1 ?_
        rw [rounds_succ]
        have hs : sameTo x 0 q (p + 1) = (sameTo x 0 q p && (allowB q ((p : Int) + 1) == allTo x ((p : Int) + 1) 0)) := rfl
        have HA := Lib.hid hs
        clear hs
        by_cases ha : sameTo x 0 q p = true
        · have HA2 := Lib.hid ha
          go_wp2_with (go_at_call 10; refine (refAllows_any _ _ _).mono ?_; rintro e w1 ⟨rfl, rfl⟩)
          go_round
          case rel => exact ⟨p + 1, by omega, by go_num, by rw [HA.out, HA2.out]; simp [allTo]⟩
          case measure => simp [intOf]; omega
        · have ha' : sameTo x 0 q p = false := by simpa using ha
          have HA2 := Lib.hid ha'
          clear ha
          go_wp2_with (go_at_call 10; refine (refAllows_any _ _ _).mono ?_; rintro e w1 ⟨rfl, rfl⟩)
          go_round
          case rel => exact ⟨p + 1, by omega, by go_num, by rw [HA.out, HA2.out]; rfl⟩
          case measure => simp [intOf]; omega
      · have hge : ¬ (((p : Int) + 1) ≤ 4) := by omega
        have hp4' : p = 4 := by omega
        have hsm := HS.out q (decide_eq_true ⟨hq0, hq5⟩)
        rw [← hp4'] at hsm
        have HSM := Lib.hid hsm
        clear hsm hp4' hp4
        by_cases hqq : q = foldTo x 0
        · have hsame : sameTo x 0 q p = true := by rw [HSM.out]; exact decide_eq_true hqq
          have HQ := Lib.hid hqq
          clear hqq
          rw [hsame]
          go_wp2
          go_ret2
          exact ⟨ret_two HQ.out rfl, rfl⟩
        · have hsame : sameTo x 0 q p = false := by rw [HSM.out]; exact decide_eq_false hqq
          have hlt3 : q + 1 ≤ foldTo x 0 := by omega
          have hle5 : q ≤ 4 := by have := (of_decide_eq_true HR.out).2; omega
          clear hqq
          rw [hsame]
          go_wp2
          go_round
          case rel => exact ⟨q + 1, by omega, hlt3, rfl⟩
          case measure => simp [intOf]; omega


set_option maxHeartbeats 1000000 in
theorem refMeet_bad (b off n cap : Nat) (x : Nat → Int) (w : World) (hn : n ≤ 9223372036854775807) (hc : ∀ j, j < n → w.cell? ⟨b, off + j, none⟩ = some (.int .i64 (x j))) (hm : ¬ ∀ j : Nat, j < n → mayB (x j) = true) :
    Calls Try.prog 13 #[.slice (some ⟨b, off, none⟩) n cap] w fun e w' => e = .returned (.tuple #[.int .i64 0, .int .i64 2]) ∧ w = w' := by
  have HC := Lib.hid hc
  have HM := Lib.hid hm
  clear hc hm
  go_enter Try.func13, Try.ntmps13
  go_wp2
  go_loop [2, 3, 4] (fun _ _ i => ∃ k : Nat, k ≤ n ∧ i = .int .i64 k ∧ ∀ j : Nat, j < k → mayB (x j) = true) (fun _ _ i => n - (intOf i).toNat)
  case atStart => exact ⟨0, by omega, rfl, fun j hj => by omega⟩
  case round =>
    obtain ⟨k, hk, rfl, hb⟩ := hrel
    have HB := Lib.hid hb
    clear hb
    by_cases hlt : k < n
    · have c := HC.out k hlt
      by_cases m : mayB (x k) = true
      · have M := Lib.hid m
        go_wp2_with (go_at_call 15; refine (refMay_any _ _).mono ?_; rintro e w1 ⟨rfl, rfl⟩)
        go_round
        case rel => exact ⟨k + 1, by omega, by go_num, fun j hj => (Nat.lt_succ_iff_lt_or_eq.1 hj).elim (HB.out j) (fun e => by rw [e]; exact M.out)⟩
        case measure => simp [intOf]; omega
      · have m' : mayB (x k) = false := by simpa using m
        clear m
        go_wp2_with (go_at_call 15; refine (refMay_any _ _).mono ?_; rintro e w1 ⟨rfl, rfl⟩)
        go_ret2
        exact ⟨rfl, rfl⟩
    · exact absurd (fun j hj => HB.out j (by omega)) HM.out

end Go.Proofs.Ytkkoepidjgmkbaa
