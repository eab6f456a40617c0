/-
  The walks of Has, Among and Rights, and of the reference's May, has, Has, Among and Rights.
-/
import Derived.Test.YtneiclolkfcboaaPlain
namespace Go.Proofs.Ytneiclolkfcboaa
open Go.RowKit

set_option maxHeartbeats 1000000 in
theorem refMay_any (p : Int) (w : World) (h : IsMask p) :
    Calls Try.prog 10 #[.int .u32 p] w fun e w' => e = .returned (.bool (mayB p)) ∧ w = w' := by
  have H := Lib.hid h
  clear h
  go_enter Try.func10, Try.ntmps10
  go_wp2
  go_loop [2, 3] (fun _ i => ∃ k : Nat, k ≤ 4 ∧ i = .int .i64 k ∧ ∀ j : Nat, j < k → byt p j ≤ 63) (fun _ i => 4 - (intOf i).toNat)
  case atStart => exact ⟨0, by omega, rfl, fun j hj => by omega⟩
  case round =>
    obtain ⟨k, hk, rfl, hb⟩ := hrel
    have HB := Lib.hid hb
    clear hb
    by_cases h4 : k = 4
    · subst h4
      go_wp2
      go_ret
      exact ⟨ret_bool (decide_eq_true ⟨HB.out 0 (by omega), HB.out 1 (by omega), HB.out 2 (by omega), HB.out 3 (by omega)⟩).symm, rfl⟩
    · have hlt : k < 4 := by omega
      clear h4
      by_cases h63 : byt p k ≤ 63
      · have H63 := Lib.hid h63
        go_wp2_with (go_at_call 29; refine (refByte_any _ _ _ H.out (by omega)).mono ?_; rintro e w1 ⟨rfl, rfl⟩)
        go_round
        case rel => exact ⟨k + 1, by omega, by go_num, fun j hj => (Nat.lt_succ_iff_lt_or_eq.1 hj).elim (HB.out j) (fun e => by rw [e]; exact H63.out)⟩
        case measure => simp [intOf]; omega
      · have gt : 63 < byt p k := by omega
        have HN := Lib.hid (show mayB p = false from decide_eq_false (fun h => h63 (by
          have hc : k = 0 ∨ k = 1 ∨ k = 2 ∨ k = 3 := by omega
          rcases hc with e | e | e | e <;> rw [e]
          · exact h.1
          · exact h.2.1
          · exact h.2.2.1
          · exact h.2.2.2)))
        clear h63
        go_wp2_with (go_at_call 29; refine (refByte_any _ _ _ H.out (by omega)).mono ?_; rintro e w1 ⟨rfl, rfl⟩)
        go_ret
        exact ⟨ret_bool HN.out.symm, rfl⟩

set_option maxHeartbeats 400000 in
theorem has_any (b r : Int) (w : World) (hb : 0 ≤ b) (hb' : b < 256) (hr : 1 ≤ r) (hr' : r ≤ 128) :
    Calls Try.prog 30 #[.int .i64 b, .int .i64 r] w fun e w' => e = .returned (.bool (hasB b r)) ∧ w = w' := by
  have h0 : 0 ≤ b / r := Int.ediv_nonneg hb (by omega)
  have h1 : b / r ≤ b := Int.ediv_le_self r hb
  go_enter Try.func30, Try.ntmps30
  go_wp2
  go_ret
  exact ⟨rfl, rfl⟩

set_option maxHeartbeats 400000 in
theorem hasP_any (r want : Int) (w : World) :
    Calls Try.prog 16 #[.int .u8 r, .int .u8 want] w fun e w' => e = .returned (.bool (hasP r want)) ∧ w = w' := by
  go_enter Try.func16, Try.ntmps16
  go_wp2
  go_ret
  exact ⟨rfl, rfl⟩

theorem hasP_not {r want : Int} {j : Nat} (hr : 0 ≤ r ∧ r < 256) (hw : 0 ≤ want ∧ want < 256) (hj : j < 8) (h1 : hasB want (pw j) = true) (h2 : hasB r (pw j) = false) : hasP r want = false := by
  cases h : hasP r want with
  | false => rfl
  | true => have := (hasP_all hr hw).1 h j hj h1; rw [h2] at this; cases this

set_option maxRecDepth 100000 in
set_option maxHeartbeats 1000000 in
theorem refHas_any (r want : Int) (w : World) (hr : 0 ≤ r ∧ r < 256) (hw : 0 ≤ want ∧ want < 256) :
    Calls Try.prog 21 #[.int .i64 r, .int .i64 want] w fun e w' => e = .returned (.bool (hasP r want)) ∧ w = w' := by
  have HR := Lib.hid hr
  have HW := Lib.hid hw
  clear hr hw
  go_enter Try.func21, Try.ntmps21
  go_wp2
  go_loop [4, 5] (fun _ t => ∃ j : Nat, j ≤ 8 ∧ t = .int .i64 (pw j) ∧ ∀ i : Nat, i < j → hasB want (pw i) = true → hasB r (pw i) = true) (fun _ t => (256 - intOf t).toNat)
  case atStart => exact ⟨0, by omega, rfl, fun i hi => by omega⟩
  case round =>
    obtain ⟨j, hj, rfl, hb⟩ := hrel
    have HB := Lib.hid hb
    clear hb
    have p1 := pw_pos j
    by_cases h8 : j = 8
    · have HN := Lib.hid ((hasP_all HR.out HW.out).2 (fun i hi => HB.out i (by omega)))
      have p2 : ¬ pw j < 256 := by rw [h8]; decide
      clear h8
      go_wp2
      go_ret
      exact ⟨ret_bool HN.out.symm, rfl⟩
    · have hlt : j < 8 := by omega
      have p2 : pw j ≤ 128 := pw_le (k := 7) (by omega)
      have ps := Lib.hid (pw_succ j)
      clear h8
      by_cases h1 : hasB want (pw j) = true
      · by_cases h2 : hasB r (pw j) = true
        · have H2 := Lib.hid h2
          go_wp2_with (go_at_call 30; refine (has_any _ _ _ (by first | exact HW.out.1 | exact HR.out.1) (by first | exact HW.out.2 | exact HR.out.2) p1 p2).mono ?_; rintro e w1 ⟨rfl, rfl⟩)
          go_round
          case rel => exact ⟨j + 1, by omega, by rw [ps.out], fun i hi => (Nat.lt_succ_iff_lt_or_eq.1 hi).elim (HB.out i) (fun e _ => by rw [e]; exact H2.out)⟩
          case measure => simp [intOf]; omega
        · have h2' : hasB r (pw j) = false := by simpa using h2
          have HN := Lib.hid (hasP_not HR.out HW.out hlt h1 h2')
          clear h2
          go_wp2_with (go_at_call 30; refine (has_any _ _ _ (by first | exact HW.out.1 | exact HR.out.1) (by first | exact HW.out.2 | exact HR.out.2) p1 p2).mono ?_; rintro e w1 ⟨rfl, rfl⟩)
          go_ret
          exact ⟨ret_bool HN.out.symm, rfl⟩
      · have h1' : hasB want (pw j) = false := by simpa using h1
        have H1 := Lib.hid h1'
        clear h1
        go_wp2_with (go_at_call 30; refine (has_any _ _ _ (by first | exact HW.out.1 | exact HR.out.1) (by first | exact HW.out.2 | exact HR.out.2) p1 p2).mono ?_; rintro e w1 ⟨rfl, rfl⟩)
        go_round
        case rel => exact ⟨j + 1, by omega, by rw [ps.out], fun i hi => (Nat.lt_succ_iff_lt_or_eq.1 hi).elim (HB.out i) (fun e h => by rw [e, H1.out] at h; cases h)⟩
        case measure => simp [intOf]; omega

end Go.Proofs.Ytneiclolkfcboaa
