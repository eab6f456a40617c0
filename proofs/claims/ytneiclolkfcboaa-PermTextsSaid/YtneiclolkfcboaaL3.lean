/-
  The walk of the law PermRights: it returns true for every mask, credential, user, group and possession.
-/
import Derived.Test.YtneiclolkfcboaaWalkH
import Derived.Test.YtneiclolkfcboaaWalkC2
import Derived.Deep.RegionHeld3
namespace Go.Proofs.Ytneiclolkfcboaa
open Go.RowKit

theorem mask_wf {p : Int} (h : (Lit.int .u32 p).wf = true) : IsMask p := by
  simp [Lit.wf, IntKind.min, IntKind.max, IntKind.signed, IntKind.bits] at h
  unfold IsMask
  omega
theorem keepC {w w1 w2 : World} {u g r : Int} (h : w1.cell? ⟨w.heap.size, 0, none⟩ = some (.int .i64 u) ∧ w1.cell? ⟨w.heap.size, 1, none⟩ = some (.int .i64 g) ∧ w1.cell? ⟨w.heap.size, 2, none⟩ = some (.int .i64 r) ∧ w.heap.size < w1.heap.size ∧ Below w.heap.size w w1) (hb : Below w1.heap.size w1 w2) :
    w2.cell? ⟨w.heap.size, 0, none⟩ = some (.int .i64 u) ∧ w2.cell? ⟨w.heap.size, 1, none⟩ = some (.int .i64 g) ∧ w2.cell? ⟨w.heap.size, 2, none⟩ = some (.int .i64 r) ∧ w.heap.size < w2.heap.size ∧ Below w.heap.size w w2 :=
  ⟨(hb.cell (p := ⟨w.heap.size, 0, none⟩) h.2.2.2.1).trans h.1, (hb.cell (p := ⟨w.heap.size, 1, none⟩) h.2.2.2.1).trans h.2.1, (hb.cell (p := ⟨w.heap.size, 2, none⟩) h.2.2.2.1).trans h.2.2.1, Nat.lt_of_lt_of_le h.2.2.2.1 hb.size, h.2.2.2.2.trans (hb.mono h.2.2.2.2.size)⟩

set_option maxRecDepth 100000 in
set_option maxHeartbeats 4000000 in
theorem law3 (p u g r uid gid : Int) (poss : Bool) (w : World) (h : IsMask p) :
    Calls Try.prog 3 #[.int .u32 p, .agg #[.int .i64 u, .int .i64 g, .int .i64 r], .int .i64 uid, .int .i64 gid, .bool poss] w fun e w' => e = .returned (.bool true) ∧ Below w.heap.size w w' := by
  have H := Lib.hid h
  have S0 : (fun w' : World => w'.cell? ⟨w.heap.size, 0, none⟩ = some (.int .i64 u) ∧ w'.cell? ⟨w.heap.size, 1, none⟩ = some (.int .i64 g) ∧ w'.cell? ⟨w.heap.size, 2, none⟩ = some (.int .i64 r) ∧ w.heap.size < w'.heap.size ∧ Below w.heap.size w w') (w.alloc (.cells #[.int .i64 u, .int .i64 g, .int .i64 r] 25)).drew :=
    ⟨by go_simp, by go_simp, by go_simp, by simp, ((Below.refl w.heap.size w).alloc (Nat.le_refl _) (.cells #[.int .i64 u, .int .i64 g, .int .i64 r] 25)).drew⟩
  have S1 := Lib.hid S0
  have rb := rights_bounds (byt_bounds h (atOf u uid g gid)) (byt_bounds h 0) poss
  obtain ⟨rb0, rb1⟩ := rb
  have R11 := fun W => rights_any p u g r uid gid poss W h
  have R12 := fun W => refRights_any p u g r uid gid poss W h
  clear h S0
  generalize rightsOf (byt p (atOf u uid g gid)) (byt p 0) poss = v at R11 R12 rb0 rb1
  have wr : IntKind.i64.wrap v = v := by rw [IntKind.wrap_i64]; omega
  have RA := Lib.hid R11
  have RB := Lib.hid R12
  clear R11 R12
  go_enter Try.func3, Try.ntmps3
  go_wp2_with fail
  go_region_held3 (fun w' => w'.cell? ⟨w.heap.size, 0, none⟩ = some (.int .i64 u) ∧ w'.cell? ⟨w.heap.size, 1, none⟩ = some (.int .i64 g) ∧ w'.cell? ⟨w.heap.size, 2, none⟩ = some (.int .i64 r) ∧ w.heap.size < w'.heap.size ∧ Below w.heap.size w w') (first | exact S1.out | assumption | exact keepC (by assumption) (by assumption))
    (first
      | (go_at_call 9; refine (may_any _ _ H.out).mono ?_; rintro e w3 ⟨rfl, hb3⟩)
      | (go_at_call 10; refine (refMay_any _ _ H.out).mono ?_; rintro e w3 ⟨rfl, rfl⟩)
      | (go_at_call 11; refine (RA.out _).mono ?_; rintro e w3 ⟨rfl, hb3⟩)
      | (go_at_call 12; refine (RB.out _).mono ?_; rintro e w3 ⟨rfl, hb3⟩)
      | (go_at_call 13; refine (known_any _).mono ?_; rintro e w3 ⟨rfl, hb3⟩))
  all_goals (
    rename_i w4 hS4
    obtain ⟨_, _, _, _, hb4⟩ := hS4
    go_wp2
    go_ret
    exact ⟨rfl, hb4⟩)

theorem law3w (p : Int) (wp : (Lit.int .u32 p).wf = true) (u g r uid gid : Int) (poss : Bool) (w : World) :
    Calls Try.prog 3 #[.int .u32 p, .agg #[.int .i64 u, .int .i64 g, .int .i64 r], .int .i64 uid, .int .i64 gid, .bool poss] w fun e w' => e = .returned (.bool true) ∧ Below w.heap.size w w' :=
  law3 p u g r uid gid poss w (mask_wf wp)

end Go.Proofs.Ytneiclolkfcboaa
