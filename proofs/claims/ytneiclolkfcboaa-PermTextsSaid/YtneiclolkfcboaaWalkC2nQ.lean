/-
  The walk of the reference's Rights: one case.
-/
import Derived.Test.YtneiclolkfcboaaWalkC0
namespace Go.Proofs.Ytneiclolkfcboaa
open Go.RowKit

set_option maxRecDepth 100000 in
set_option maxHeartbeats 8000000 in
theorem refR_nQ (p u g r uid gid : Int) (w : World) (h : IsMask p) (b2 : (g == gid) = false) (b1 : (u == uid) = false) (ea : atOf u uid g gid = 3) :
    Calls Try.prog 12 #[.int .u32 p, .agg #[.int .i64 u, .int .i64 g, .int .i64 r], .int .i64 uid, .int .i64 gid, .bool false] w fun e w' =>
      e = .returned (.int .i64 (rightsOf (byt p (atOf u uid g gid)) (byt p 0) false)) ∧ Below w.heap.size w w' := by
  have H := Lib.hid h
  have HB := Lib.hid ((Below.refl w.heap.size w).alloc (Nat.le_refl _) (.cells #[.int .i64 u, .int .i64 g, .int .i64 r] 25))
  have B0 := Lib.hid (byt_bounds h 0)
  clear h
  have R := Lib.hid (show sumTo (byt p 3) (byt p 0) false 6 = rightsOf (byt p (atOf u uid g gid)) (byt p 0) false from by rw [ea]; exact sum_rights (byt_bounds H.out _) (byt_bounds H.out _) _)
  have BA := Lib.hid (byt_bounds H.out 3)
  clear ea
  go_enter Try.func12, Try.ntmps12
  go_wp2
  go_loop [12, 13] (fun s t => ∃ j : Nat, j ≤ 6 ∧ t = .int .i64 (pw j) ∧ s = .int .i64 (sumTo (byt p 3) (byt p 0) false j)) (fun _ t => (256 - intOf t).toNat)
  case atStart => exact ⟨0, by omega, rfl, rfl⟩
  case round =>
    obtain ⟨j, hj, rfl, rfl⟩ := hrel
    have p1 := pw_pos j
    by_cases h6 : j = 6
    · subst h6
      have p2 : ¬ pw 6 < 64 := by decide
      go_wp2
      go_ret
      exact ⟨ret_int R.out, HB.out⟩
    · have hlt : j < 6 := by omega
      have p3 : pw j ≤ 32 := pw_le (k := 5) (by omega)
      have p2 : pw j ≤ 128 := by omega
      have p4 : pw j < 64 := by omega
      have ps := Lib.hid (pw_succ j)
      have sb := sum_bounds (byt p 3) (byt p 0) false j
      clear h6
      by_cases h1 : hasB (byt p 3) (pw j) = true
      · have SE := Lib.hid (show sumTo (byt p 3) (byt p 0) false (j + 1) = sumTo (byt p 3) (byt p 0) false j + pw j from by show _ + _ = _; rw [h1]; rfl)
        go_wp2_with fail
        go_at_call 29
        refine (refByteI _ _ 3 _ H.out (by omega) rfl).mono ?_; rintro e w1 ⟨rfl, rfl⟩
        go_wp2_with fail
        go_at_call 30; refine (has_any _ _ _ BA.out.1 BA.out.2 p1 p2).mono ?_; rintro e w1 ⟨rfl, rfl⟩
        go_wp2
        go_round
        case rel => exact ⟨j + 1, by omega, by rw [ps.out], by rw [SE.out]⟩
        case measure => simp [intOf]; omega
      · have h1' : hasB (byt p 3) (pw j) = false := by simpa using h1
        clear h1
        have SE := Lib.hid (show sumTo (byt p 3) (byt p 0) false (j + 1) = sumTo (byt p 3) (byt p 0) false j from by show _ + _ = _; rw [h1']; exact Int.add_zero _)
        go_wp2_with fail
        go_at_call 29
        refine (refByteI _ _ 3 _ H.out (by omega) rfl).mono ?_; rintro e w1 ⟨rfl, rfl⟩
        go_wp2_with fail
        go_at_call 30; refine (has_any _ _ _ BA.out.1 BA.out.2 p1 p2).mono ?_; rintro e w1 ⟨rfl, rfl⟩
        go_wp2
        go_round
        case rel => exact ⟨j + 1, by omega, by rw [ps.out], by rw [SE.out]⟩
        case measure => simp [intOf]; omega

end Go.Proofs.Ytneiclolkfcboaa
