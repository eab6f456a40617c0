/-
  The walks of known, and of the laws RestrictAllows and RestrictNames: each returns true for every input.
-/
import Derived.Test.YtkkoepidjgmkbaaWalkG
namespace Go.Proofs.Ytkkoepidjgmkbaa
open Go.RowKit Go.Shelf

def pair (a b : Int) : Nat → Int
  | 0 => a
  | _ => b
theorem pair_cells (w : World) (a b : Int) (t : TypeId) (B : Nat) (hB : B = w.heap.size) : ∀ j, j < 2 → (w.alloc (.cells #[.int .i64 a, .int .i64 b] t)).cell? ⟨B, 0 + j, none⟩ = some (.int .i64 (pair a b j)) := by
  intro j hj
  rw [World.cell?_alloc_at _ _ _ _ hB]
  match j, hj with
  | 0, _ => rfl
  | 1, _ => rfl
theorem pair_may {a b : Int} (ha : mayB a = true) (hb : mayB b = true) : ∀ j : Nat, j < 2 → mayB (pair a b j) = true := by
  intro j hj
  match j, hj with
  | 0, _ => exact ha
  | 1, _ => exact hb

set_option maxHeartbeats 1000000 in
theorem known_any (w : World) : Calls Try.prog 11 #[] w fun e w' => e = .returned (.bool true) ∧ Below w.heap.size w w' := by
  have k1 : foldTo (pair 0 3) 2 = 3 := rfl
  have k2 : foldTo (pair 3 1) 2 = 5 := rfl
  have p1 : allowB 0 4 = true := rfl
  have p2 : allowB 1 2 = false := rfl
  have p3 : allowB 5 1 = false := rfl
  have M1 := meet_good w.heap.size 0 2 2 (pair 0 3) (w.alloc (.cells #[.int .i64 0, .int .i64 3] 22)) (by omega) (pair_cells w 0 3 22 _ rfl) (pair_may rfl rfl)
  have M2 := meet_good (w.heap.size + 1) 0 2 2 (pair 3 1) ((w.alloc (.cells #[.int .i64 0, .int .i64 3] 22)).alloc (.cells #[.int .i64 3, .int .i64 1] 22)) (by omega) (pair_cells (w.alloc (.cells #[.int .i64 0, .int .i64 3] 22)) 3 1 22 _ (by simp)) (pair_may rfl rfl)
  rw [k1] at M1
  rw [k2] at M2
  have HM1 := Lib.hid M1
  have HM2 := Lib.hid M2
  clear M1 M2 k1 k2
  go_enter Try.func11, Try.ntmps11
  go_wp2_with fail
  refine HM1.out.mono ?_
  rintro e w1 ⟨rfl, rfl⟩
  go_wp2_with fail
  refine HM2.out.mono ?_
  rintro e w1 ⟨rfl, rfl⟩
  go_wp2_with fail
  refine (meet_nil _ _ _).mono ?_
  rintro e w1 ⟨rfl, rfl⟩
  have hb := ((Below.refl w.heap.size w).alloc (Nat.le_refl _) (.cells #[.int .i64 0, .int .i64 3] 22)).alloc (by simp) (.cells #[.int .i64 3, .int .i64 1] 22)
  go_wp2_with (go_at_call 16; refine (allows_any _ _ _).mono ?_; rintro e w1 ⟨rfl, hb'⟩; replace hb := hb.trans (hb'.mono hb.size); clear hb')
  go_ret
  exact ⟨rfl, hb⟩
end Go.Proofs.Ytkkoepidjgmkbaa
