/-
  The walks of Rights, of the program and of the reference.
-/
import Derived.Test.YtneiclolkfcboaaWalkB
namespace Go.Proofs.Ytneiclolkfcboaa
open Go.RowKit

/-- Which byte of a mask is a task's own: the owner's, the group's, others'. -/
def atOf (u uid g gid : Int) : Nat := if u = uid then 1 else if g = gid then 2 else 3
theorem at_le (u uid g gid : Int) : atOf u uid g gid ≤ 3 := by unfold atOf; (repeat' split) <;> omega

set_option maxRecDepth 100000 in
set_option maxHeartbeats 1000000 in
theorem rights_any (p u g r uid gid : Int) (poss : Bool) (w : World) (h : IsMask p) :
    Calls Try.prog 11 #[.int .u32 p, .agg #[.int .i64 u, .int .i64 g, .int .i64 r], .int .i64 uid, .int .i64 gid, .bool poss] w fun e w' =>
      e = .returned (.int .u8 (rightsOf (byt p (atOf u uid g gid)) (byt p 0) poss)) ∧ Below w.heap.size w w' := by
  have H := Lib.hid h
  have hb := (Below.refl w.heap.size w).alloc (Nat.le_refl _) (.cells #[.int .i64 u, .int .i64 g, .int .i64 r] 25)
  have HB := Lib.hid hb
  have c0 : (w.alloc (.cells #[.int .i64 u, .int .i64 g, .int .i64 r] 25)).cell? ⟨w.heap.size, 0, none⟩ = some (.int .i64 u) := by go_simp
  have c1 : (w.alloc (.cells #[.int .i64 u, .int .i64 g, .int .i64 r] 25)).cell? ⟨w.heap.size, 1, none⟩ = some (.int .i64 g) := by go_simp
  clear h hb
  by_cases h1 : u = uid
  · have ea : atOf u uid g gid = 1 := by unfold atOf; rw [if_pos h1]
    have b1 : (u == uid) = true := by simp [h1]
    clear h1
    cases poss with
    | false =>
      have R := Lib.hid (show rightsOf (byt p (atOf u uid g gid)) (byt p 0) false = bits .and .u8 (byt p 1) 63 from by rw [ea]; rfl)
      clear ea
      go_enter Try.func11, Try.ntmps11
      go_wp2_with fail
      go_at_call 28; refine (bytes_any _ _ H.out).mono ?_
      rintro e w1 ⟨rfl, hb1⟩
      have k0 := (hb1.cell (p := ⟨w.heap.size, 0, none⟩) (by simp)).trans c0
      have k1 := (hb1.cell (p := ⟨w.heap.size, 1, none⟩) (by simp)).trans c1
      have hs1 : w.heap.size < w1.heap.size := by (have := hb1.size; simp at this; omega)
      have HB1 := Lib.hid hb1
      clear hb1
      go_wp2
      go_ret
      exact ⟨ret_int R.out.symm, (HB.out.trans (HB1.out.mono HB.out.size)).alloc (Nat.le_trans HB.out.size HB1.out.size) _⟩
    | true =>
      have R := Lib.hid (show rightsOf (byt p (atOf u uid g gid)) (byt p 0) true = bits .and .u8 (bits .or .u8 (byt p 1) (byt p 0)) 63 from by rw [ea]; rfl)
      clear ea
      go_enter Try.func11, Try.ntmps11
      go_wp2_with fail
      go_at_call 28; refine (bytes_any _ _ H.out).mono ?_
      rintro e w1 ⟨rfl, hb1⟩
      have k0 := (hb1.cell (p := ⟨w.heap.size, 0, none⟩) (by simp)).trans c0
      have k1 := (hb1.cell (p := ⟨w.heap.size, 1, none⟩) (by simp)).trans c1
      have hs1 : w.heap.size < w1.heap.size := by (have := hb1.size; simp at this; omega)
      have HB1 := Lib.hid hb1
      clear hb1
      go_wp2
      go_ret
      exact ⟨ret_int R.out.symm, (HB.out.trans (HB1.out.mono HB.out.size)).alloc (Nat.le_trans HB.out.size HB1.out.size) _⟩
  · have b1 : (u == uid) = false := by simp [h1]
    by_cases h2 : g = gid
    · have ea : atOf u uid g gid = 2 := by unfold atOf; rw [if_neg h1, if_pos h2]
      have b2 : (g == gid) = true := by simp [h2]
      clear h1 h2
      cases poss with
      | false =>
        have R := Lib.hid (show rightsOf (byt p (atOf u uid g gid)) (byt p 0) false = bits .and .u8 (byt p 2) 63 from by rw [ea]; rfl)
        clear ea
        go_enter Try.func11, Try.ntmps11
        go_wp2_with fail
        go_at_call 28; refine (bytes_any _ _ H.out).mono ?_
        rintro e w1 ⟨rfl, hb1⟩
        have k0 := (hb1.cell (p := ⟨w.heap.size, 0, none⟩) (by simp)).trans c0
        have k1 := (hb1.cell (p := ⟨w.heap.size, 1, none⟩) (by simp)).trans c1
        have hs1 : w.heap.size < w1.heap.size := by (have := hb1.size; simp at this; omega)
        have HB1 := Lib.hid hb1
        clear hb1
        go_wp2
        go_ret
        exact ⟨ret_int R.out.symm, (HB.out.trans (HB1.out.mono HB.out.size)).alloc (Nat.le_trans HB.out.size HB1.out.size) _⟩
      | true =>
        have R := Lib.hid (show rightsOf (byt p (atOf u uid g gid)) (byt p 0) true = bits .and .u8 (bits .or .u8 (byt p 2) (byt p 0)) 63 from by rw [ea]; rfl)
        clear ea
        go_enter Try.func11, Try.ntmps11
        go_wp2_with fail
        go_at_call 28; refine (bytes_any _ _ H.out).mono ?_
        rintro e w1 ⟨rfl, hb1⟩
        have k0 := (hb1.cell (p := ⟨w.heap.size, 0, none⟩) (by simp)).trans c0
        have k1 := (hb1.cell (p := ⟨w.heap.size, 1, none⟩) (by simp)).trans c1
        have hs1 : w.heap.size < w1.heap.size := by (have := hb1.size; simp at this; omega)
        have HB1 := Lib.hid hb1
        clear hb1
        go_wp2
        go_ret
        exact ⟨ret_int R.out.symm, (HB.out.trans (HB1.out.mono HB.out.size)).alloc (Nat.le_trans HB.out.size HB1.out.size) _⟩
    · have ea : atOf u uid g gid = 3 := by unfold atOf; rw [if_neg h1, if_neg h2]
      have b2 : (g == gid) = false := by simp [h2]
      clear h1 h2
      cases poss with
      | false =>
        have R := Lib.hid (show rightsOf (byt p (atOf u uid g gid)) (byt p 0) false = bits .and .u8 (byt p 3) 63 from by rw [ea]; rfl)
        clear ea
        go_enter Try.func11, Try.ntmps11
        go_wp2_with fail
        go_at_call 28; refine (bytes_any _ _ H.out).mono ?_
        rintro e w1 ⟨rfl, hb1⟩
        have k0 := (hb1.cell (p := ⟨w.heap.size, 0, none⟩) (by simp)).trans c0
        have k1 := (hb1.cell (p := ⟨w.heap.size, 1, none⟩) (by simp)).trans c1
        have hs1 : w.heap.size < w1.heap.size := by (have := hb1.size; simp at this; omega)
        have HB1 := Lib.hid hb1
        clear hb1
        go_wp2
        go_ret
        exact ⟨ret_int R.out.symm, (HB.out.trans (HB1.out.mono HB.out.size)).alloc (Nat.le_trans HB.out.size HB1.out.size) _⟩
      | true =>
        have R := Lib.hid (show rightsOf (byt p (atOf u uid g gid)) (byt p 0) true = bits .and .u8 (bits .or .u8 (byt p 3) (byt p 0)) 63 from by rw [ea]; rfl)
        clear ea
        go_enter Try.func11, Try.ntmps11
        go_wp2_with fail
        go_at_call 28; refine (bytes_any _ _ H.out).mono ?_
        rintro e w1 ⟨rfl, hb1⟩
        have k0 := (hb1.cell (p := ⟨w.heap.size, 0, none⟩) (by simp)).trans c0
        have k1 := (hb1.cell (p := ⟨w.heap.size, 1, none⟩) (by simp)).trans c1
        have hs1 : w.heap.size < w1.heap.size := by (have := hb1.size; simp at this; omega)
        have HB1 := Lib.hid hb1
        clear hb1
        go_wp2
        go_ret
        exact ⟨ret_int R.out.symm, (HB.out.trans (HB1.out.mono HB.out.size)).alloc (Nat.le_trans HB.out.size HB1.out.size) _⟩

end Go.Proofs.Ytneiclolkfcboaa
