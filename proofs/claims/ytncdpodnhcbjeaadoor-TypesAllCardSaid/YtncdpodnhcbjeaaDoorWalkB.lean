/-
  What each function of package types, and of its reference, returns at any type (the walks, each function once).
-/
import Derived.Test.YtncdpodnhcbjeaaDoorWalkA
import Derived.Lib.Hide
namespace Go.Proofs.YtncdpodnhcbjeaaDoor
open Go.RowKit
theorem fld0 (a : ByteArray) (b c d : Int) (w : World) : Sem.run Tryd.prog (Instr.field 40 (.agg #[.string a, .int .i64 b, .int .i64 c, .int .i64 d]) 0) w = .ok (.string a) w := by kernel_rfl
theorem fld1 (a : ByteArray) (b c d : Int) (w : World) : Sem.run Tryd.prog (Instr.field 40 (.agg #[.string a, .int .i64 b, .int .i64 c, .int .i64 d]) 1) w = .ok (.int .i64 b) w := by kernel_rfl
theorem fld2 (a : ByteArray) (b c d : Int) (w : World) : Sem.run Tryd.prog (Instr.field 40 (.agg #[.string a, .int .i64 b, .int .i64 c, .int .i64 d]) 2) w = .ok (.int .i64 c) w := by kernel_rfl
theorem fld3 (a : ByteArray) (b c d : Int) (w : World) : Sem.run Tryd.prog (Instr.field 40 (.agg #[.string a, .int .i64 b, .int .i64 c, .int .i64 d]) 3) w = .ok (.int .i64 d) w := by kernel_rfl

set_option maxHeartbeats 400000 in
theorem name_any (t : Int) (w : World) (h : Tab w) :
    Calls Tryd.prog 24 #[.int .i64 t] w fun e w' => e = .returned (.string (nameOf t)) ∧ Below w.heap.size w w' := by
  have H := Lib.hid h
  clear h
  have fl := fld0
  go_enter Tryd.func24, Tryd.ntmps24
  go_wp2_with (go_at_call 29; refine (of_any _ _ H.out).mono ?_; rintro e w1 ⟨rfl, hb⟩)
  go_ret
  exact ⟨rfl, hb⟩

set_option maxHeartbeats 400000 in
theorem most_any (t : Int) (w : World) (h : Tab w) :
    Calls Tryd.prog 15 #[.int .i64 t] w fun e w' => e = .returned (.int .i64 (mostOf t)) ∧ Below w.heap.size w w' := by
  have H := Lib.hid h
  clear h
  have fl := fld2
  go_enter Tryd.func15, Tryd.ntmps15
  go_wp2_with (go_at_call 29; refine (of_any _ _ H.out).mono ?_; rintro e w1 ⟨rfl, hb⟩)
  go_ret
  exact ⟨rfl, hb⟩

set_option maxHeartbeats 400000 in
theorem least_any (t : Int) (w : World) (h : Tab w) :
    Calls Tryd.prog 14 #[.int .i64 t] w fun e w' => e = .returned (.int .i64 (leastOf t)) ∧ Below w.heap.size w w' := by
  have H := Lib.hid h
  clear h
  have fl := fld1
  go_enter Tryd.func14, Tryd.ntmps14
  go_wp2_with (go_at_call 29; refine (of_any _ _ H.out).mono ?_; rintro e w1 ⟨rfl, hb⟩)
  go_ret
  exact ⟨rfl, hb⟩

/-- Does a type's row bear a right (1, 2, 4)? -/
def canB (t what : Int) : Bool := bits .and .i64 (canOf t) what != 0

set_option maxHeartbeats 400000 in
theorem can_any (t what : Int) (w : World) (h : Tab w) :
    Calls Tryd.prog 30 #[.int .i64 t, .int .i64 what] w fun e w' => e = .returned (.bool (canB t what)) ∧ Below w.heap.size w w' := by
  have H := Lib.hid h
  clear h
  have fl := fld3
  go_enter Tryd.func30, Tryd.ntmps30
  go_wp2_with (go_at_call 29; refine (of_any _ _ H.out).mono ?_; rintro e w1 ⟨rfl, hb⟩)
  go_ret
  exact ⟨rfl, hb⟩

/-- A type's three rights. -/
def readB (t : Int) : Bool := decide (t = 1 ∨ t = 3 ∨ t = 4)
def updB (t : Int) : Bool := decide (1 ≤ t ∧ t ≤ 3)
def ringB (t : Int) : Bool := decide (t = 4)
def mayB (t : Int) : Bool := decide (1 ≤ t ∧ t ≤ 4)

theorem canB_eq (t : Int) : canB t 1 = readB t ∧ canB t 2 = updB t ∧ canB t 4 = ringB t := by
  by_cases h1 : t = 1
  · subst h1; decide
  by_cases h2 : t = 2
  · subst h2; decide
  by_cases h3 : t = 3
  · subst h3; decide
  by_cases h4 : t = 4
  · subst h4; decide
  have e3 : canOf t = 0 := by simp [canOf, h1, h2, h3, h4]
  have a : canB t 1 = false ∧ canB t 2 = false ∧ canB t 4 = false := by unfold canB; rw [e3]; decide
  refine ⟨a.1.trans ?_, a.2.1.trans ?_, a.2.2.trans ?_⟩
  · symm; simp [readB, h1, h3, h4]
  · symm; simp [updB]; omega
  · symm; simp [ringB, h4]

set_option maxHeartbeats 400000 in
theorem read_any (t : Int) (w : World) (h : Tab w) :
    Calls Tryd.prog 19 #[.int .i64 t] w fun e w' => e = .returned (.bool (readB t)) ∧ Below w.heap.size w w' := by
  rw [← (canB_eq t).1]
  have H := Lib.hid h
  clear h
  go_enter Tryd.func19, Tryd.ntmps19
  go_wp2_with (go_at_call 30; refine (can_any _ _ _ H.out).mono ?_; rintro e w1 ⟨rfl, hb⟩)
  go_ret
  exact ⟨rfl, hb⟩

set_option maxHeartbeats 400000 in
theorem upd_any (t : Int) (w : World) (h : Tab w) :
    Calls Tryd.prog 21 #[.int .i64 t] w fun e w' => e = .returned (.bool (updB t)) ∧ Below w.heap.size w w' := by
  rw [← (canB_eq t).2.1]
  have H := Lib.hid h
  clear h
  go_enter Tryd.func21, Tryd.ntmps21
  go_wp2_with (go_at_call 30; refine (can_any _ _ _ H.out).mono ?_; rintro e w1 ⟨rfl, hb⟩)
  go_ret
  exact ⟨rfl, hb⟩

set_option maxHeartbeats 400000 in
theorem ring_any (t : Int) (w : World) (h : Tab w) :
    Calls Tryd.prog 23 #[.int .i64 t] w fun e w' => e = .returned (.bool (ringB t)) ∧ Below w.heap.size w w' := by
  rw [← (canB_eq t).2.2]
  have H := Lib.hid h
  clear h
  go_enter Tryd.func23, Tryd.ntmps23
  go_wp2_with (go_at_call 30; refine (can_any _ _ _ H.out).mono ?_; rintro e w1 ⟨rfl, hb⟩)
  go_ret
  exact ⟨rfl, hb⟩

set_option maxHeartbeats 400000 in
theorem may_any (t : Int) (w : World) :
    Calls Tryd.prog 16 #[.int .i64 t] w fun e w' => e = .returned (.bool (mayB t)) ∧ w = w' := by
  by_cases h1 : 0 < t
  · by_cases h2 : t < 5
    · have e : mayB t = true := by simp [mayB]; omega
      rw [e]
      have d2 : decide (t < 5) = true := by simpa using h2
      go_enter Tryd.func16, Tryd.ntmps16
      go_wp2
      go_ret
      exact ⟨rfl, rfl⟩
    · have e : mayB t = false := by simp [mayB]; omega
      rw [e]
      have d2 : decide (t < 5) = false := by simpa using h2
      go_enter Tryd.func16, Tryd.ntmps16
      go_wp2
      go_ret
      exact ⟨rfl, rfl⟩
  · have e : mayB t = false := by simp [mayB]; omega
    rw [e]
    have d1 : decide (0 < t) = false := by simpa using h1
    go_enter Tryd.func16, Tryd.ntmps16
    go_wp2
    go_ret
    exact ⟨rfl, rfl⟩

def payB (t n : Int) : Bool := decide (1 ≤ t ∧ t ≤ 4 ∧ leastOf t ≤ n ∧ n ≤ mostOf t)

set_option maxHeartbeats 400000 in
theorem pay_any (t n : Int) (w : World) (h : Tab w) :
    Calls Tryd.prog 12 #[.int .i64 t, .int .i64 n] w fun e w' => e = .returned (.bool (payB t n)) ∧ Below w.heap.size w w' := by
  have H := Lib.hid h
  clear h
  by_cases h1 : 1 ≤ t ∧ t ≤ 4
  · have hm : mayB t = true := by simp [mayB]; omega
    by_cases h2 : leastOf t ≤ n
    · have d2 : decide (leastOf t ≤ n) = true := by simpa using h2
      by_cases h3 : n ≤ mostOf t
      · have d3 : decide (n ≤ mostOf t) = true := by simpa using h3
        have e : payB t n = true := by simp [payB]; omega
        rw [e]
        clear h1 e
        go_enter Tryd.func12, Tryd.ntmps12
        go_wp2_with (first | (go_at_call 29; refine (of_any _ _ H.out).mono ?_; rintro e w1 ⟨rfl, hb⟩) | (go_at_call 16; refine (may_any _ _).mono ?_; rintro e w2 ⟨rfl, rfl⟩))
        go_ret
        exact ⟨rfl, hb.alloc hb.size _⟩
      · have d3 : decide (n ≤ mostOf t) = false := by simpa using h3
        have e : payB t n = false := by simp [payB]; omega
        rw [e]
        clear h1 e
        go_enter Tryd.func12, Tryd.ntmps12
        go_wp2_with (first | (go_at_call 29; refine (of_any _ _ H.out).mono ?_; rintro e w1 ⟨rfl, hb⟩) | (go_at_call 16; refine (may_any _ _).mono ?_; rintro e w2 ⟨rfl, rfl⟩))
        go_ret
        exact ⟨rfl, hb.alloc hb.size _⟩
    · have d2 : decide (leastOf t ≤ n) = false := by simpa using h2
      have e : payB t n = false := by simp [payB]; omega
      rw [e]
      clear h1 e
      go_enter Tryd.func12, Tryd.ntmps12
      go_wp2_with (first | (go_at_call 29; refine (of_any _ _ H.out).mono ?_; rintro e w1 ⟨rfl, hb⟩) | (go_at_call 16; refine (may_any _ _).mono ?_; rintro e w2 ⟨rfl, rfl⟩))
      go_ret
      exact ⟨rfl, hb.alloc hb.size _⟩
  · have hm : mayB t = false := by simp [mayB]; omega
    have e : payB t n = false := by simp [payB]; omega
    rw [e]
    clear h1 e
    go_enter Tryd.func12, Tryd.ntmps12
    go_wp2_with (first | (go_at_call 29; refine (of_any _ _ H.out).mono ?_; rintro e w1 ⟨rfl, hb⟩) | (go_at_call 16; refine (may_any _ _).mono ?_; rintro e w2 ⟨rfl, rfl⟩))
    go_ret
    exact ⟨rfl, hb.alloc hb.size _⟩

end Go.Proofs.YtncdpodnhcbjeaaDoor
