/-
  The walk of the law's known answers.
-/
import Derived.Test.YtneiclolkfcboaaWalkF
import Derived.Test.YtneiclolkfcboaaWalkC
namespace Go.Proofs.Ytneiclolkfcboaa
open Go.RowKit

theorem kD1 : defOf 1 = 1057161216 := by decide
theorem kD2 : defOf 2 = 1057030144 := by decide
theorem kT1 : textOf 1057161216 = { data := #[51, 102, 48, 51, 48, 48, 48, 48] } := by kernel_rfl
theorem kT2 : textOf 1057030144 = { data := #[51, 102, 48, 49, 48, 48, 48, 48] } := by kernel_rfl
theorem kR1 : rightsOf (byt 1057161729 (atOf 1 1 1 2)) (byt 1057161729 0) false = 3 := by decide
theorem kR2 : rightsOf (byt 1057161729 (atOf 1 2 1 1)) (byt 1057161729 0) false = 2 := by decide
theorem kR3 : rightsOf (byt 1057161729 (atOf 1 2 1 2)) (byt 1057161729 0) false = 1 := by decide
theorem kR4 : rightsOf (byt 1057161729 (atOf 1 2 1 2)) (byt 1057161729 0) true = 63 := by decide
theorem kM : IsMask 1057161729 := by unfold IsMask; decide
theorem kM1 : IsMask 1057161216 := by unfold IsMask; decide
theorem kM2 : IsMask 1057030144 := by unfold IsMask; decide

set_option maxRecDepth 100000 in
set_option maxHeartbeats 2000000 in
theorem known_any (w : World) : Calls Try.prog 13 #[] w fun e w' => e = .returned (.bool true) ∧ Below w.heap.size w w' := by
  have k0 : (w.alloc (.cells #[.int .i64 1, .int .i64 1, .int .i64 0] 25)).cell? ⟨w.heap.size, 0, none⟩ = some (.int .i64 1) := by go_simp
  have k1 : (w.alloc (.cells #[.int .i64 1, .int .i64 1, .int .i64 0] 25)).cell? ⟨w.heap.size, 1, none⟩ = some (.int .i64 1) := by go_simp
  have k2 : (w.alloc (.cells #[.int .i64 1, .int .i64 1, .int .i64 0] 25)).cell? ⟨w.heap.size, 2, none⟩ = some (.int .i64 0) := by go_simp
  have hs : w.heap.size < (w.alloc (.cells #[.int .i64 1, .int .i64 1, .int .i64 0] 25)).heap.size := by simp
  have hb := Lib.hid ((Below.refl w.heap.size w).alloc (Nat.le_refl _) (.cells #[.int .i64 1, .int .i64 1, .int .i64 0] 25))
  go_enter Try.func13, Try.ntmps13
  go_wp2_with fail
  go_at_call 19
  refine (default_any 1 _).mono ?_
  rintro e w1 ⟨rfl, hb'⟩
  replace k0 := (hb'.cell (p := ⟨w.heap.size, 0, none⟩) hs).trans k0
  replace k1 := (hb'.cell (p := ⟨w.heap.size, 1, none⟩) hs).trans k1
  replace k2 := (hb'.cell (p := ⟨w.heap.size, 2, none⟩) hs).trans k2
  replace hb := Lib.hid (hb.out.trans (hb'.mono hb.out.size))
  replace hs := Nat.lt_of_lt_of_le hs hb'.size
  clear hb'
  rw [kD1]
  go_wp2_with fail
  go_at_call 24
  refine (text_good 1057161216 _ kM1 may3).mono ?_
  rintro e w2 ⟨rfl, hb'⟩
  replace k0 := (hb'.cell (p := ⟨w.heap.size, 0, none⟩) hs).trans k0
  replace k1 := (hb'.cell (p := ⟨w.heap.size, 1, none⟩) hs).trans k1
  replace k2 := (hb'.cell (p := ⟨w.heap.size, 2, none⟩) hs).trans k2
  replace hb := Lib.hid (hb.out.trans (hb'.mono hb.out.size))
  replace hs := Nat.lt_of_lt_of_le hs hb'.size
  clear hb'
  rw [kT1]
  go_wp2_with fail
  go_at_call 19
  refine (default_any 2 _).mono ?_
  rintro e w3 ⟨rfl, hb'⟩
  replace k0 := (hb'.cell (p := ⟨w.heap.size, 0, none⟩) hs).trans k0
  replace k1 := (hb'.cell (p := ⟨w.heap.size, 1, none⟩) hs).trans k1
  replace k2 := (hb'.cell (p := ⟨w.heap.size, 2, none⟩) hs).trans k2
  replace hb := Lib.hid (hb.out.trans (hb'.mono hb.out.size))
  replace hs := Nat.lt_of_lt_of_le hs hb'.size
  clear hb'
  rw [kD2]
  go_wp2_with fail
  go_at_call 24
  refine (text_good 1057030144 _ kM2 may1).mono ?_
  rintro e w4 ⟨rfl, hb'⟩
  replace k0 := (hb'.cell (p := ⟨w.heap.size, 0, none⟩) hs).trans k0
  replace k1 := (hb'.cell (p := ⟨w.heap.size, 1, none⟩) hs).trans k1
  replace k2 := (hb'.cell (p := ⟨w.heap.size, 2, none⟩) hs).trans k2
  replace hb := Lib.hid (hb.out.trans (hb'.mono hb.out.size))
  replace hs := Nat.lt_of_lt_of_le hs hb'.size
  clear hb'
  rw [kT2]
  go_wp2_with fail
  go_at_call 11
  refine (rights_any 1057161729 1 1 0 1 2 false _ kM).mono ?_
  rintro e w5 ⟨rfl, hb'⟩
  replace k0 := (hb'.cell (p := ⟨w.heap.size, 0, none⟩) hs).trans k0
  replace k1 := (hb'.cell (p := ⟨w.heap.size, 1, none⟩) hs).trans k1
  replace k2 := (hb'.cell (p := ⟨w.heap.size, 2, none⟩) hs).trans k2
  replace hb := Lib.hid (hb.out.trans (hb'.mono hb.out.size))
  replace hs := Nat.lt_of_lt_of_le hs hb'.size
  clear hb'
  rw [kR1]
  go_wp2_with fail
  go_at_call 11
  refine (rights_any 1057161729 1 1 0 2 1 false _ kM).mono ?_
  rintro e w6 ⟨rfl, hb'⟩
  replace k0 := (hb'.cell (p := ⟨w.heap.size, 0, none⟩) hs).trans k0
  replace k1 := (hb'.cell (p := ⟨w.heap.size, 1, none⟩) hs).trans k1
  replace k2 := (hb'.cell (p := ⟨w.heap.size, 2, none⟩) hs).trans k2
  replace hb := Lib.hid (hb.out.trans (hb'.mono hb.out.size))
  replace hs := Nat.lt_of_lt_of_le hs hb'.size
  clear hb'
  rw [kR2]
  go_wp2_with fail
  go_at_call 11
  refine (rights_any 1057161729 1 1 0 2 2 false _ kM).mono ?_
  rintro e w7 ⟨rfl, hb'⟩
  replace k0 := (hb'.cell (p := ⟨w.heap.size, 0, none⟩) hs).trans k0
  replace k1 := (hb'.cell (p := ⟨w.heap.size, 1, none⟩) hs).trans k1
  replace k2 := (hb'.cell (p := ⟨w.heap.size, 2, none⟩) hs).trans k2
  replace hb := Lib.hid (hb.out.trans (hb'.mono hb.out.size))
  replace hs := Nat.lt_of_lt_of_le hs hb'.size
  clear hb'
  rw [kR3]
  go_wp2_with fail
  go_at_call 11
  refine (rights_any 1057161729 1 1 0 2 2 true _ kM).mono ?_
  rintro e w8 ⟨rfl, hb'⟩
  replace k0 := (hb'.cell (p := ⟨w.heap.size, 0, none⟩) hs).trans k0
  replace k1 := (hb'.cell (p := ⟨w.heap.size, 1, none⟩) hs).trans k1
  replace k2 := (hb'.cell (p := ⟨w.heap.size, 2, none⟩) hs).trans k2
  replace hb := Lib.hid (hb.out.trans (hb'.mono hb.out.size))
  replace hs := Nat.lt_of_lt_of_le hs hb'.size
  clear hb'
  rw [kR4]
  go_wp2
  go_ret
  exact ⟨rfl, hb.out⟩

end Go.Proofs.Ytneiclolkfcboaa
