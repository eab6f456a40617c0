/-
  The walk of the law PermOf: it returns true for every four bytes and type.
-/
import Derived.Test.YtneiclolkfcboaaWalkH
import Derived.Test.YtneiclolkfcboaaWalkE
import Derived.OpenShut
namespace Go.Proofs.Ytneiclolkfcboaa
open Go.RowKit

theorem ofMask_may {a b c d : Int} (ha : 0 ≤ a ∧ a < 256) (hb : 0 ≤ b ∧ b < 256) (hc : 0 ≤ c ∧ c < 256) (hd : 0 ≤ d ∧ d < 256) (ok : ofOk a b c d = true) : mayB (ofMask a b c d) = true := by
  unfold ofMask
  rw [if_pos ok, may_of ha hb hc hd, ok]

set_option maxRecDepth 100000 in
set_option maxHeartbeats 4000000 in
theorem law5 (a : Int) (wa : (Lit.int .u8 a).wf = true) (b : Int) (wb : (Lit.int .u8 b).wf = true) (c : Int) (wc : (Lit.int .u8 c).wf = true) (d : Int) (wd : (Lit.int .u8 d).wf = true) (t : Int) (w : World) :
    Calls Try.prog 5 #[.agg #[.int .u8 a, .int .u8 b, .int .u8 c, .int .u8 d], .int .i64 t] w fun e w' => e = .returned (.bool true) ∧ Below w.heap.size w w' := by
  have ba := bounds_u8 wa
  have bb := bounds_u8 wb
  have bc := bounds_u8 wc
  have bd := bounds_u8 wd
  have A := Lib.hid (show 0 ≤ a ∧ a < 256 by omega)
  have B := Lib.hid (show 0 ≤ b ∧ b < 256 by omega)
  have C := Lib.hid (show 0 ≤ c ∧ c < 256 by omega)
  have D := Lib.hid (show 0 ≤ d ∧ d < 256 by omega)
  have I := Lib.hid (ofMask_mask A.out B.out C.out D.out)
  have HB := Lib.hid ((Below.refl w.heap.size w).alloc (Nat.le_refl _) (.cells #[.int .u8 a, .int .u8 b, .int .u8 c, .int .u8 d] 35))
  have c0 : (w.alloc (.cells #[.int .u8 a, .int .u8 b, .int .u8 c, .int .u8 d] 35)).cell? ⟨w.heap.size, 0, none⟩ = some (.int .u8 a) := by go_simp
  have c1 : (w.alloc (.cells #[.int .u8 a, .int .u8 b, .int .u8 c, .int .u8 d] 35)).cell? ⟨w.heap.size, 1, none⟩ = some (.int .u8 b) := by go_simp
  have c2 : (w.alloc (.cells #[.int .u8 a, .int .u8 b, .int .u8 c, .int .u8 d] 35)).cell? ⟨w.heap.size, 2, none⟩ = some (.int .u8 c) := by go_simp
  have c3 : (w.alloc (.cells #[.int .u8 a, .int .u8 b, .int .u8 c, .int .u8 d] 35)).cell? ⟨w.heap.size, 3, none⟩ = some (.int .u8 d) := by go_simp
  clear wa wb wc wd ba bb bc bd
  cases ok : ofOk a b c d with
  | true =>
    have E := Lib.hid (show ofErr a b c d = 0 from by unfold ofErr; rw [ok]; rfl)
    have M := Lib.hid (ofMask_may A.out B.out C.out D.out ok)
    clear ok
    go_enter Try.func5, Try.ntmps5
    go_wp2_with fail
    go_at_call 17
    refine (of_any a b c d _ A.out B.out C.out D.out).mono ?_
    rintro e w1 ⟨rfl, hb1⟩
    have k0 := (hb1.cell (p := ⟨w.heap.size, 0, none⟩) (by simp)).trans c0
    have k1 := (hb1.cell (p := ⟨w.heap.size, 1, none⟩) (by simp)).trans c1
    have k2 := (hb1.cell (p := ⟨w.heap.size, 2, none⟩) (by simp)).trans c2
    have k3 := (hb1.cell (p := ⟨w.heap.size, 3, none⟩) (by simp)).trans c3
    have HB1 := Lib.hid (HB.out.trans (hb1.mono HB.out.size))
    clear hb1 c0 c1 c2 c3
    rw [E.out]
    go_wp2_with fail
    go_at_call 18
    refine (refOf_any a b c d _ A.out B.out C.out D.out).mono ?_
    rintro e w2 ⟨rfl, hb2⟩
    have HB2 := Lib.hid (HB1.out.trans (hb2.mono HB1.out.size))
    clear hb2 k0 k1 k2 k3
    rw [E.out]
    go_wp2_with fail
    go_at_call 9
    refine (may_any _ _ I.out).mono ?_
    rintro e w3 ⟨rfl, hb3⟩
    have HB3 := Lib.hid (HB2.out.trans (hb3.mono HB2.out.size))
    clear hb3
    rw [M.out]
    go_wp2_with fail
    go_at_call 19
    refine (default_any t _).mono ?_
    rintro e w4 ⟨rfl, hb4⟩
    have HB4 := Lib.hid (HB3.out.trans (hb4.mono HB3.out.size))
    clear hb4
    go_wp2_with fail
    go_at_call 20
    refine (refDefault_any t _).mono ?_
    rintro e w5 ⟨rfl, rfl⟩
    go_wp2_with fail
    go_at_call 9
    refine (may_any _ _ (def_mask t)).mono ?_
    rintro e w6 ⟨rfl, hb6⟩
    have HB6 := Lib.hid (HB4.out.trans (hb6.mono HB4.out.size))
    clear hb6
    rw [def_may]
    go_wp2_with fail
    go_at_call 13; refine (known_any _).mono ?_; rintro e w7 ⟨rfl, hb7⟩
    have HB7 := Lib.hid (HB6.out.trans (hb7.mono HB6.out.size))
    clear hb7
    go_wp2
    go_ret
    exact ⟨rfl, HB7.out⟩
  | false =>
    have E := Lib.hid (show ofErr a b c d = 2 from by unfold ofErr; rw [ok]; rfl)
    clear ok
    go_enter Try.func5, Try.ntmps5
    go_wp2_with fail
    go_at_call 17
    refine (of_any a b c d _ A.out B.out C.out D.out).mono ?_
    rintro e w1 ⟨rfl, hb1⟩
    have k0 := (hb1.cell (p := ⟨w.heap.size, 0, none⟩) (by simp)).trans c0
    have k1 := (hb1.cell (p := ⟨w.heap.size, 1, none⟩) (by simp)).trans c1
    have k2 := (hb1.cell (p := ⟨w.heap.size, 2, none⟩) (by simp)).trans c2
    have k3 := (hb1.cell (p := ⟨w.heap.size, 3, none⟩) (by simp)).trans c3
    have HB1 := Lib.hid (HB.out.trans (hb1.mono HB.out.size))
    clear hb1 c0 c1 c2 c3
    rw [E.out]
    go_wp2_with fail
    go_at_call 18
    refine (refOf_any a b c d _ A.out B.out C.out D.out).mono ?_
    rintro e w2 ⟨rfl, hb2⟩
    have HB2 := Lib.hid (HB1.out.trans (hb2.mono HB1.out.size))
    clear hb2 k0 k1 k2 k3
    rw [E.out]
    go_wp2_with fail
    go_at_call 19
    refine (default_any t _).mono ?_
    rintro e w4 ⟨rfl, hb4⟩
    have HB4 := Lib.hid (HB2.out.trans (hb4.mono HB2.out.size))
    clear hb4
    go_wp2_with fail
    go_at_call 20
    refine (refDefault_any t _).mono ?_
    rintro e w5 ⟨rfl, rfl⟩
    go_wp2_with fail
    go_at_call 9
    refine (may_any _ _ (def_mask t)).mono ?_
    rintro e w6 ⟨rfl, hb6⟩
    have HB6 := Lib.hid (HB4.out.trans (hb6.mono HB4.out.size))
    clear hb6
    rw [def_may]
    go_wp2_with fail
    go_at_call 13; refine (known_any _).mono ?_; rintro e w7 ⟨rfl, hb7⟩
    have HB7 := Lib.hid (HB6.out.trans (hb7.mono HB6.out.size))
    clear hb7
    go_wp2
    go_ret
    exact ⟨rfl, HB7.out⟩

end Go.Proofs.Ytneiclolkfcboaa
