/-
  The walks of Default and Of, and of the reference's.
-/
import Derived.Test.YtneiclolkfcboaaWalkB
namespace Go.Proofs.Ytneiclolkfcboaa
open Go.RowKit

theorem ret_two {a b c d : Int} {k l : IntKind} (h1 : a = c) (h2 : b = d) : Ending.returned (.tuple #[.int k a, .int l b]) = .returned (.tuple #[.int k c, .int l d]) := by rw [h1, h2]

/-- A type's default mask. -/
def defOf (t : Int) : Int := if t = 1 ∨ t = 3 ∨ t = 4 then 1057161216 else 1057030144
theorem def_mask (t : Int) : IsMask (defOf t) := by unfold defOf IsMask; split <;> omega
theorem mask3 : maskOf 63 3 0 0 = 1057161216 := by decide
theorem mask1 : maskOf 63 1 0 0 = 1057030144 := by decide
theorem or12 : bits .or .u8 1 2 = 3 := by decide
theorem may3 : mayB 1057161216 = true := by decide
theorem may1 : mayB 1057030144 = true := by decide
theorem def_may (t : Int) : mayB (defOf t) = true := by unfold defOf; split; exact may3; exact may1

set_option maxRecDepth 100000 in
set_option maxHeartbeats 1000000 in
theorem default_any (t : Int) (w : World) :
    Calls Try.prog 19 #[.int .i64 t] w fun e w' => e = .returned (.int .u32 (defOf t)) ∧ Below w.heap.size w w' := by
  have o := or12
  by_cases h1 : t = 1
  · have D := Lib.hid (show maskOf 63 3 0 0 = defOf t from by unfold defOf; rw [if_pos (by omega)]; exact mask3)
    have b1 : (t == 1) = true := by simp [h1]
    clear h1
    go_enter Try.func19, Try.ntmps19
    go_wp2_with fail
    go_at_call 31
    refine (mask_any 63 3 0 0 _ ⟨by omega, by omega⟩ ⟨by omega, by omega⟩ ⟨by omega, by omega⟩ ⟨by omega, by omega⟩).mono ?_
    rintro e w1 ⟨rfl, hb1⟩
    have HB1 := Lib.hid hb1
    clear hb1
    go_wp2
    go_ret
    exact ⟨ret_int D.out, HB1.out⟩
  · have b1 : (t == 1) = false := by simp [h1]
    by_cases h3 : t = 3
    · have D := Lib.hid (show maskOf 63 3 0 0 = defOf t from by unfold defOf; rw [if_pos (by omega)]; exact mask3)
      have b3 : (t == 3) = true := by simp [h3]
      clear h1 h3
      go_enter Try.func19, Try.ntmps19
      go_wp2_with fail
      go_at_call 31
      refine (mask_any 63 3 0 0 _ ⟨by omega, by omega⟩ ⟨by omega, by omega⟩ ⟨by omega, by omega⟩ ⟨by omega, by omega⟩).mono ?_
      rintro e w1 ⟨rfl, hb1⟩
      have HB1 := Lib.hid hb1
      clear hb1
      go_wp2
      go_ret
      exact ⟨ret_int D.out, HB1.out⟩
    · have b3 : (t == 3) = false := by simp [h3]
      by_cases h4 : t = 4
      · have D := Lib.hid (show maskOf 63 3 0 0 = defOf t from by unfold defOf; rw [if_pos (by omega)]; exact mask3)
        have b4 : (t == 4) = true := by simp [h4]
        clear h1 h3 h4
        go_enter Try.func19, Try.ntmps19
        go_wp2_with fail
        go_at_call 31
        refine (mask_any 63 3 0 0 _ ⟨by omega, by omega⟩ ⟨by omega, by omega⟩ ⟨by omega, by omega⟩ ⟨by omega, by omega⟩).mono ?_
        rintro e w1 ⟨rfl, hb1⟩
        have HB1 := Lib.hid hb1
        clear hb1
        go_wp2
        go_ret
        exact ⟨ret_int D.out, HB1.out⟩
      · have b4 : (t == 4) = false := by simp [h4]
        have D := Lib.hid (show maskOf 63 1 0 0 = defOf t from by unfold defOf; rw [if_neg (by omega)]; exact mask1)
        clear h1 h3 h4
        go_enter Try.func19, Try.ntmps19
        go_wp2_with fail
        go_at_call 31
        refine (mask_any 63 1 0 0 _ ⟨by omega, by omega⟩ ⟨by omega, by omega⟩ ⟨by omega, by omega⟩ ⟨by omega, by omega⟩).mono ?_
        rintro e w1 ⟨rfl, hb1⟩
        have HB1 := Lib.hid hb1
        clear hb1
        go_wp2
        go_ret
        exact ⟨ret_int D.out, HB1.out⟩

set_option maxHeartbeats 1000000 in
theorem refDefault_any (t : Int) (w : World) :
    Calls Try.prog 20 #[.int .i64 t] w fun e w' => e = .returned (.int .u32 (defOf t)) ∧ w = w' := by
  by_cases h1 : t = 1
  · have D := Lib.hid (show 1057161216 = defOf t from by unfold defOf; rw [if_pos (by omega)])
    have b1 : (t == 1) = true := by simp [h1]
    clear h1
    go_enter Try.func20, Try.ntmps20
    go_wp2
    go_ret
    exact ⟨ret_int D.out, rfl⟩
  · have b1 : (t == 1) = false := by simp [h1]
    by_cases h3 : t = 3
    · have D := Lib.hid (show 1057161216 = defOf t from by unfold defOf; rw [if_pos (by omega)])
      have b3 : (t == 3) = true := by simp [h3]
      clear h1 h3
      go_enter Try.func20, Try.ntmps20
      go_wp2
      go_ret
      exact ⟨ret_int D.out, rfl⟩
    · have b3 : (t == 3) = false := by simp [h3]
      by_cases h4 : t = 4
      · have D := Lib.hid (show 1057161216 = defOf t from by unfold defOf; rw [if_pos (by omega)])
        have b4 : (t == 4) = true := by simp [h4]
        clear h1 h3 h4
        go_enter Try.func20, Try.ntmps20
        go_wp2
        go_ret
        exact ⟨ret_int D.out, rfl⟩
      · have b4 : (t == 4) = false := by simp [h4]
        have D := Lib.hid (show 1057030144 = defOf t from by unfold defOf; rw [if_neg (by omega)])
        clear h1 h3 h4
        go_enter Try.func20, Try.ntmps20
        go_wp2
        go_ret
        exact ⟨ret_int D.out, rfl⟩

/-- Are four bytes each a mask's? -/
def ofOk (a b c d : Int) : Bool := decide (a ≤ 63 ∧ b ≤ 63 ∧ c ≤ 63 ∧ d ≤ 63)
def ofMask (a b c d : Int) : Int := if ofOk a b c d = true then maskOf a b c d else 0
def ofErr (a b c d : Int) : Int := if ofOk a b c d = true then 0 else 2
theorem may_of {a b c d : Int} (ha : 0 ≤ a ∧ a < 256) (hb : 0 ≤ b ∧ b < 256) (hc : 0 ≤ c ∧ c < 256) (hd : 0 ≤ d ∧ d < 256) : mayB (maskOf a b c d) = ofOk a b c d := by
  obtain ⟨h0, h1, h2, h3⟩ := byt_of_mask ha hb hc hd
  unfold mayB ofOk maskOf
  rw [h0, h1, h2, h3]
theorem isMask_of {a b c d : Int} (ha : 0 ≤ a ∧ a < 256) (hb : 0 ≤ b ∧ b < 256) (hc : 0 ≤ c ∧ c < 256) (hd : 0 ≤ d ∧ d < 256) : IsMask (maskOf a b c d) := by
  unfold maskOf IsMask; omega
theorem ofMask_mask {a b c d : Int} (ha : 0 ≤ a ∧ a < 256) (hb : 0 ≤ b ∧ b < 256) (hc : 0 ≤ c ∧ c < 256) (hd : 0 ≤ d ∧ d < 256) : IsMask (ofMask a b c d) := by
  unfold ofMask; split
  · exact isMask_of ha hb hc hd
  · unfold IsMask; omega

set_option maxRecDepth 100000 in
set_option maxHeartbeats 1000000 in
theorem of_any (a b c d : Int) (w : World) (ha : 0 ≤ a ∧ a < 256) (hb : 0 ≤ b ∧ b < 256) (hc : 0 ≤ c ∧ c < 256) (hd : 0 ≤ d ∧ d < 256) :
    Calls Try.prog 17 #[.int .u8 a, .int .u8 b, .int .u8 c, .int .u8 d] w fun e w' => e = .returned (.tuple #[.int .u32 (ofMask a b c d), .int .i64 (ofErr a b c d)]) ∧ Below w.heap.size w w' := by
  have A := Lib.hid ha
  have B := Lib.hid hb
  have C := Lib.hid hc
  have D := Lib.hid hd
  have M := Lib.hid (may_of ha hb hc hd)
  have I := Lib.hid (isMask_of ha hb hc hd)
  clear ha hb hc hd
  cases ok : ofOk a b c d with
  | true =>
    have E1 := Lib.hid (show ofMask a b c d = maskOf a b c d from by unfold ofMask; rw [if_pos ok])
    have E2 := Lib.hid (show ofErr a b c d = 0 from by unfold ofErr; rw [if_pos ok])
    have OK := Lib.hid ok
    clear ok
    go_enter Try.func17, Try.ntmps17
    go_wp2_with fail
    go_at_call 31
    refine (mask_any a b c d _ A.out B.out C.out D.out).mono ?_
    rintro e w1 ⟨rfl, hb1⟩
    have HB1 := Lib.hid hb1
    clear hb1
    go_wp2_with fail
    go_at_call 9
    refine (may_any _ _ I.out).mono ?_
    rintro e w2 ⟨rfl, hb2⟩
    have HB2 := Lib.hid hb2
    clear hb2
    rw [M.out, OK.out]
    go_wp2
    go_ret2
    exact ⟨ret_two E1.out.symm E2.out.symm, HB1.out.trans (HB2.out.mono HB1.out.size)⟩
  | false =>
    have E1 := Lib.hid (show ofMask a b c d = 0 from by unfold ofMask; rw [ok]; rfl)
    have E2 := Lib.hid (show ofErr a b c d = 2 from by unfold ofErr; rw [ok]; rfl)
    have OK := Lib.hid ok
    clear ok
    go_enter Try.func17, Try.ntmps17
    go_wp2_with fail
    go_at_call 31
    refine (mask_any a b c d _ A.out B.out C.out D.out).mono ?_
    rintro e w1 ⟨rfl, hb1⟩
    have HB1 := Lib.hid hb1
    clear hb1
    go_wp2_with fail
    go_at_call 9
    refine (may_any _ _ I.out).mono ?_
    rintro e w2 ⟨rfl, hb2⟩
    have HB2 := Lib.hid hb2
    clear hb2
    rw [M.out, OK.out]
    go_wp2
    go_ret2
    exact ⟨ret_two E1.out.symm E2.out.symm, HB1.out.trans (HB2.out.mono HB1.out.size)⟩

set_option maxRecDepth 100000 in
set_option maxHeartbeats 4000000 in
theorem refOf_any (a b c d : Int) (w : World) (ha : 0 ≤ a ∧ a < 256) (hb : 0 ≤ b ∧ b < 256) (hc : 0 ≤ c ∧ c < 256) (hd : 0 ≤ d ∧ d < 256) :
    Calls Try.prog 18 #[.agg #[.int .u8 a, .int .u8 b, .int .u8 c, .int .u8 d]] w fun e w' => e = .returned (.tuple #[.int .u32 (ofMask a b c d), .int .i64 (ofErr a b c d)]) ∧ Below w.heap.size w w' := by
  have HB := Lib.hid ((Below.refl w.heap.size w).alloc (Nat.le_refl _) (.cells #[.int .u8 a, .int .u8 b, .int .u8 c, .int .u8 d] 35))
  obtain ⟨ha, ha'⟩ := ha
  obtain ⟨hb, hb'⟩ := hb
  obtain ⟨hc, hc'⟩ := hc
  obtain ⟨hd, hd'⟩ := hd
  by_cases q0 : a ≤ 63
  rotate_left
  · have d0 : 63 < a := by omega
    have OK : ofOk a b c d = false := decide_eq_false (by omega)
    have E1 := Lib.hid (show ofMask a b c d = 0 from by unfold ofMask; rw [OK]; rfl)
    have E2 := Lib.hid (show ofErr a b c d = 2 from by unfold ofErr; rw [OK]; rfl)
    clear OK
    go_enter Try.func18, Try.ntmps18
    go_wp2
    refine wp_loop_rounds 5 ?_
    rw [rounds_succ]
    go_wp2
    go_ret2
    exact ⟨ret_two E1.out.symm E2.out.symm, HB.out⟩
  by_cases q1 : b ≤ 63
  rotate_left
  · have d1 : 63 < b := by omega
    have OK : ofOk a b c d = false := decide_eq_false (by omega)
    have E1 := Lib.hid (show ofMask a b c d = 0 from by unfold ofMask; rw [OK]; rfl)
    have E2 := Lib.hid (show ofErr a b c d = 2 from by unfold ofErr; rw [OK]; rfl)
    clear OK
    go_enter Try.func18, Try.ntmps18
    go_wp2
    refine wp_loop_rounds 5 ?_
    rw [rounds_succ]
    go_wp2
    rw [rounds_succ]
    go_wp2
    go_ret2
    exact ⟨ret_two E1.out.symm E2.out.symm, HB.out⟩
  by_cases q2 : c ≤ 63
  rotate_left
  · have d2 : 63 < c := by omega
    have OK : ofOk a b c d = false := decide_eq_false (by omega)
    have E1 := Lib.hid (show ofMask a b c d = 0 from by unfold ofMask; rw [OK]; rfl)
    have E2 := Lib.hid (show ofErr a b c d = 2 from by unfold ofErr; rw [OK]; rfl)
    clear OK
    go_enter Try.func18, Try.ntmps18
    go_wp2
    refine wp_loop_rounds 5 ?_
    rw [rounds_succ]
    go_wp2
    rw [rounds_succ]
    go_wp2
    rw [rounds_succ]
    go_wp2
    go_ret2
    exact ⟨ret_two E1.out.symm E2.out.symm, HB.out⟩
  by_cases q3 : d ≤ 63
  rotate_left
  · have d3 : 63 < d := by omega
    have OK : ofOk a b c d = false := decide_eq_false (by omega)
    have E1 := Lib.hid (show ofMask a b c d = 0 from by unfold ofMask; rw [OK]; rfl)
    have E2 := Lib.hid (show ofErr a b c d = 2 from by unfold ofErr; rw [OK]; rfl)
    clear OK
    go_enter Try.func18, Try.ntmps18
    go_wp2
    refine wp_loop_rounds 5 ?_
    rw [rounds_succ]
    go_wp2
    rw [rounds_succ]
    go_wp2
    rw [rounds_succ]
    go_wp2
    rw [rounds_succ]
    go_wp2
    go_ret2
    exact ⟨ret_two E1.out.symm E2.out.symm, HB.out⟩
  have OK : ofOk a b c d = true := decide_eq_true ⟨q0, q1, q2, q3⟩
  have E1 := Lib.hid (show ofMask a b c d = maskOf a b c d from by unfold ofMask; rw [if_pos OK])
  have E2 := Lib.hid (show ofErr a b c d = 0 from by unfold ofErr; rw [if_pos OK])
  have EM := Lib.hid (show ((((256 * (256 * (256 * a + b) + c) + d) % 4294967296) : Int)) = maskOf a b c d from by unfold maskOf; omega)
  clear OK
  go_enter Try.func18, Try.ntmps18
  go_wp2
  refine wp_loop_rounds 5 ?_
  rw [rounds_succ]
  go_wp2
  rw [rounds_succ]
  go_wp2
  rw [rounds_succ]
  go_wp2
  rw [rounds_succ]
  go_wp2
  rw [rounds_succ]
  go_wp2
  go_ret2
  exact ⟨ret_two (by rw [E1.out, ← EM.out]; congr 1; omega) E2.out.symm, HB.out⟩

end Go.Proofs.Ytneiclolkfcboaa
