/-
  The plain functions of layer 19 and of its reference: May, Only, Allows, Among (the walks).
-/
import Derived.Test.YtkkoepidjgmkbaaWalkC
namespace Go.Proofs.Ytkkoepidjgmkbaa
open Go.RowKit Go.Shelf

def mayB (r : Int) : Bool := decide (0 ≤ r ∧ r ≤ 5)

set_option maxHeartbeats 400000 in
theorem may_any (r : Int) (w : World) : Calls Try.prog 14 #[.int .i64 r] w fun e w' => e = .returned (.bool (mayB r)) ∧ w = w' := by
  by_cases h1 : 0 ≤ r
  · have d1 : decide (0 ≤ r) = true := by simpa using h1
    by_cases h2 : r ≤ 5
    · have d2 : decide (r ≤ 5) = true := by simpa using h2
      have e : mayB r = true := decide_eq_true ⟨h1, h2⟩
      rw [e]; clear e
      go_enter Try.func14, Try.ntmps14
      go_wp2
      go_ret
      exact ⟨rfl, rfl⟩
    · have d2 : decide (r ≤ 5) = false := by simpa using h2
      have e : mayB r = false := decide_eq_false (by omega)
      rw [e]; clear e
      go_enter Try.func14, Try.ntmps14
      go_wp2
      go_ret
      exact ⟨rfl, rfl⟩
  · have d1 : decide (0 ≤ r) = false := by simpa using h1
    have e : mayB r = false := decide_eq_false (by omega)
    rw [e]; clear e
    go_enter Try.func14, Try.ntmps14
    go_wp2
    go_ret
    exact ⟨rfl, rfl⟩

set_option maxHeartbeats 400000 in
theorem refMay_any (r : Int) (w : World) : Calls Try.prog 15 #[.int .i64 r] w fun e w' => e = .returned (.bool (mayB r)) ∧ w = w' := by
  by_cases h1 : 0 ≤ r
  · have d1 : decide (0 ≤ r) = true := by simpa using h1
    by_cases h2 : r ≤ 5
    · have d2 : decide (r ≤ 5) = true := by simpa using h2
      have e : mayB r = true := decide_eq_true ⟨h1, h2⟩
      rw [e]; clear e
      go_enter Try.func15, Try.ntmps15
      go_wp2
      go_ret
      exact ⟨rfl, rfl⟩
    · have d2 : decide (r ≤ 5) = false := by simpa using h2
      have e : mayB r = false := decide_eq_false (by omega)
      rw [e]; clear e
      go_enter Try.func15, Try.ntmps15
      go_wp2
      go_ret
      exact ⟨rfl, rfl⟩
  · have d1 : decide (0 ≤ r) = false := by simpa using h1
    have e : mayB r = false := decide_eq_false (by omega)
    rw [e]; clear e
    go_enter Try.func15, Try.ntmps15
    go_wp2
    go_ret
    exact ⟨rfl, rfl⟩

set_option maxHeartbeats 400000 in
theorem only_is (t : Int) (w : World) (h1 : 1 ≤ t) (h4 : t ≤ 4) : Calls Try.prog 17 #[.int .i64 t] w fun e w' => e = .returned (.tuple #[.int .i64 t, .int .i64 0]) ∧ w = w' := by
  have d1 : decide (t < 1) = false := by simp; omega
  have d2 : decide (4 < t) = false := by simp; omega
  go_enter Try.func17, Try.ntmps17
  go_wp2
  go_ret2
  exact ⟨rfl, rfl⟩
set_option maxHeartbeats 400000 in
theorem only_none (t : Int) (w : World) (h : t < 1 ∨ 4 < t) : Calls Try.prog 17 #[.int .i64 t] w fun e w' => e = .returned (.tuple #[.int .i64 0, .int .i64 2]) ∧ w = w' := by
  by_cases h1 : t < 1
  · have d1 : decide (t < 1) = true := by simpa using h1
    clear h
    go_enter Try.func17, Try.ntmps17
    go_wp2
    go_ret2
    exact ⟨rfl, rfl⟩
  · have d1 : decide (t < 1) = false := by simpa using h1
    have d2 : decide (4 < t) = true := by simp; omega
    clear h
    go_enter Try.func17, Try.ntmps17
    go_wp2
    go_ret2
    exact ⟨rfl, rfl⟩

set_option maxHeartbeats 400000 in
theorem refAllows_any (r t : Int) (w : World) : Calls Try.prog 10 #[.int .i64 r, .int .i64 t] w fun e w' => e = .returned (.bool (allowB r t)) ∧ w = w' := by
  by_cases h1 : 1 ≤ t
  · have d1 : decide (1 ≤ t) = true := by simpa using h1
    by_cases h4 : t ≤ 4
    · have d4 : decide (t ≤ 4) = true := by simpa using h4
      by_cases h0 : r = 0
      · have e : allowB r t = true := decide_eq_true ⟨h1, h4, .inl h0⟩
        have b0 : (r == 0) = true := by simp [h0]
        rw [e]; clear e h0
        go_enter Try.func10, Try.ntmps10
        go_wp2
        go_ret
        exact ⟨rfl, rfl⟩
      · have b0 : (r == 0) = false := by simp [h0]
        by_cases ht : r = t
        · have e : allowB r t = true := decide_eq_true ⟨h1, h4, .inr ht⟩
          have b1 : (r == t) = true := by simp [ht]
          rw [e]; clear e h0 ht
          go_enter Try.func10, Try.ntmps10
          go_wp2
          go_ret
          exact ⟨rfl, rfl⟩
        · have e : allowB r t = false := decide_eq_false (fun h => h.2.2.elim h0 ht)
          have b1 : (r == t) = false := by simp [ht]
          rw [e]; clear e h0 ht
          go_enter Try.func10, Try.ntmps10
          go_wp2
          go_ret
          exact ⟨rfl, rfl⟩
    · have d4 : decide (t ≤ 4) = false := by simpa using h4
      have e : allowB r t = false := decide_eq_false (fun h => h4 h.2.1)
      rw [e]; clear e
      go_enter Try.func10, Try.ntmps10
      go_wp2
      go_ret
      exact ⟨rfl, rfl⟩
  · have d1 : decide (1 ≤ t) = false := by simpa using h1
    have e : allowB r t = false := decide_eq_false (fun h => h1 h.1)
    rw [e]; clear e
    go_enter Try.func10, Try.ntmps10
    go_wp2
    go_ret
    exact ⟨rfl, rfl⟩

theorem among_iff (a b : Int) : amongB a b = true ↔ ∀ t, allowB a t = true → allowB b t = true := by
  unfold amongB
  rw [List.all_eq_true]
  constructor
  · intro h t ht
    rw [← mem_lets] at ht
    exact h t (of_decide_eq_true ht)
  · intro h t ht
    exact h t (by rw [← mem_lets]; exact decide_eq_true ht)

theorem allow_range {r t : Int} (h : allowB r t = true) : 1 ≤ t ∧ t ≤ 4 := by
  have := of_decide_eq_true h
  omega

/-- All types below k that a lets in b lets in. -/
def amTo (a b k : Int) : Prop := ∀ t : Int, t < k → allowB a t = true → allowB b t = true
theorem am_succ {a b k : Int} (h : amTo a b k) (hk : allowB a k = true → allowB b k = true) : amTo a b (k + 1) := by
  intro t ht ha
  by_cases e : t = k
  · subst e; exact hk ha
  · exact h t (by omega) ha
theorem am_done {a b : Int} (h : amTo a b 5) : amongB a b = true := (among_iff a b).2 fun t ha => h t (by have := allow_range ha; omega) ha
theorem am_not {a b k : Int} (h1 : allowB a k = true) (h2 : allowB b k = false) : amongB a b = false := by
  cases h : amongB a b with
  | false => rfl
  | true => have := (among_iff a b).1 h k h1; rw [h2] at this; cases this

theorem ret_bool {a b : Bool} (h : a = b) : Ending.returned (.bool a) = .returned (.bool b) := by rw [h]

set_option maxHeartbeats 1000000 in
theorem refAmong_any (a b : Int) (w : World) : Calls Try.prog 19 #[.int .i64 a, .int .i64 b] w fun e w' => e = .returned (.bool (amongB a b)) ∧ w = w' := by
  go_enter Try.func19, Try.ntmps19
  go_wp2
  go_loop [4, 5] (fun _ t => ∃ k : Int, 1 ≤ k ∧ k ≤ 5 ∧ t = .int .i64 k ∧ amTo a b k) (fun _ t => (5 - intOf t).toNat)
  case atStart => exact ⟨1, by omega, by omega, rfl, fun t ht ha => by have := allow_range ha; omega⟩
  case round =>
    obtain ⟨k, h1, hk, rfl, hbf⟩ := hrel
    have HBF := Lib.hid hbf
    clear hbf
    by_cases h5 : k = 5
    · subst h5
      go_wp2
      go_ret
      exact ⟨ret_bool (am_done HBF.out).symm, rfl⟩
    · have hlt : k ≤ 4 := by omega
      clear h5
      by_cases ha : allowB a k = true
      · by_cases hb : allowB b k = true
        · have HB := Lib.hid hb
          go_wp2_with (go_at_call 10; refine (refAllows_any _ _ _).mono ?_; rintro e w1 ⟨rfl, rfl⟩)
          go_round
          case rel => exact ⟨k + 1, by omega, by omega, rfl, am_succ HBF.out (fun _ => HB.out)⟩
          case measure => simp [intOf]; omega
        · have hb' : allowB b k = false := by simpa using hb
          have HA := Lib.hid ha
          have HB := Lib.hid hb'
          clear hb
          go_wp2_with (go_at_call 10; refine (refAllows_any _ _ _).mono ?_; rintro e w1 ⟨rfl, rfl⟩)
          go_ret
          exact ⟨ret_bool (am_not HA.out HB.out).symm, rfl⟩
      · have ha' : allowB a k = false := by simpa using ha
        have HA := Lib.hid ha'
        clear ha
        go_wp2_with (go_at_call 10; refine (refAllows_any _ _ _).mono ?_; rintro e w1 ⟨rfl, rfl⟩)
        go_round
        case rel => exact ⟨k + 1, by omega, by omega, rfl, am_succ HBF.out (fun h => by rw [HA.out] at h; cases h)⟩
        case measure => simp [intOf]; omega

end Go.Proofs.Ytkkoepidjgmkbaa
