/-
  The walk of the law RestrictAmong at an empty slice; and the law at every slice.
-/
import Derived.Test.YtkkoepidjgmkbaaWalkM
namespace Go.Proofs.Ytkkoepidjgmkbaa
open Go.RowKit Go.Shelf

theorem among_zero (y : Int) : amongB y 0 = true := (among_iff _ _).2 fun _ ht => decide_eq_true ⟨(allow_range ht).1, (allow_range ht).2, .inl rfl⟩

set_option maxHeartbeats 1000000 in
theorem law6_nil (y turn : Int) (w : World) :
    Calls Try.prog 6 #[.slice none 0 0, .int .i64 y, .int .i64 turn] w fun e w' => e = .returned (.bool true) ∧ Below w.heap.size w w' := by
  have am := among_zero y
  go_enter Try.func6, Try.ntmps6
  go_wp2_with (first | (go_at_call 12; refine (meet_nil _ _ _).mono ?_; rintro e w2 ⟨rfl, rfl⟩))
  refine wp_loop_rounds 1 ?_
  rw [rounds_succ]
  go_wp2_with (go_at_call 18; refine (among_any _ _ _).mono ?_; rintro e w3 ⟨rfl, hb3⟩)
  go_region_law (first | (go_simp; go_at_call 12; refine (meet_nil _ _ _).mono ?_; rintro e w7 ⟨rfl, rfl⟩))
  go_wp2_with (go_at_call 11; refine (known_any _).mono ?_; rintro e w7 ⟨rfl, hb'⟩)
  go_ret
  exact ⟨rfl, hb3.drew.trans (hb'.mono hb3.size)⟩

set_option maxHeartbeats 1000000 in
theorem law6_empty (ad : Addr) (cap : Nat) (y turn : Int) (w : World) :
    Calls Try.prog 6 #[.slice (some ad) 0 cap, .int .i64 y, .int .i64 turn] w fun e w' => e = .returned (.bool true) ∧ Below w.heap.size w w' := by
  have am := among_zero y
  go_enter Try.func6, Try.ntmps6
  go_wp2_with (first | (go_at_call 12; refine (meet_nil _ _ _).mono ?_; rintro e w2 ⟨rfl, rfl⟩))
  refine wp_loop_rounds 1 ?_
  rw [rounds_succ]
  go_wp2_with (go_at_call 18; refine (among_any _ _ _).mono ?_; rintro e w3 ⟨rfl, hb3⟩)
  go_region_law (first | (go_simp; go_at_call 12; refine (meet_nil _ _ _).mono ?_; rintro e w7 ⟨rfl, rfl⟩))
  go_wp2_with (go_at_call 11; refine (known_any _).mono ?_; rintro e w7 ⟨rfl, hb'⟩)
  go_ret
  exact ⟨rfl, hb3.drew.trans (hb'.mono hb3.size)⟩

theorem law6 (a : Option Addr) (len cap : Nat) (zs : List Int) (y turn : Int) (w : World) (h : IsRow w a len cap zs) :
    Calls Try.prog 6 #[.slice a len cap, .int .i64 y, .int .i64 turn] w fun e w' => e = .returned (.bool true) ∧ Below w.heap.size w w' := by
  by_cases hl : 20 < len
  · exact law6_long a len cap y turn w hl
  · by_cases h0 : len = 0
    · subst h0
      rcases h with ⟨rfl, _, rfl, _⟩ | ⟨x, rfl, _⟩
      · exact law6_nil y turn w
      · exact law6_empty x cap y turn w
    · have hcap : len ≤ cap := by rcases h with ⟨_, h, _⟩ | ⟨x, _, h, _⟩ <;> omega
      obtain ⟨b, off, rfl, hC, hb⟩ := row_cells h (by omega)
      by_cases hm : ∀ j : Nat, j < len → mayB (zs.getD j 0) = true
      · exact law6_good b off len cap _ y turn w (by omega) (by omega) hcap hC hb hm
      · exact law6_bad b off len cap _ y turn w (by omega) hC hm

end Go.Proofs.Ytkkoepidjgmkbaa
