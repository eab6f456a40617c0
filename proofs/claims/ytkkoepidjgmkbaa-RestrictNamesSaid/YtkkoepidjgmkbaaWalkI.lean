/-
  The walks of the laws RestrictAllows and RestrictNames: each returns true for every input.
-/
import Derived.Test.YtkkoepidjgmkbaaWalkH
namespace Go.Proofs.Ytkkoepidjgmkbaa
open Go.RowKit Go.Shelf

set_option maxHeartbeats 1000000 in
theorem law5 (r t : Int) (w : World) : Calls Try.prog 5 #[.int .i64 r, .int .i64 t] w fun e w' => e = .returned (.bool true) ∧ Below w.heap.size w w' := by
  have hb := Below.refl w.heap.size w
  by_cases hn : t < 1 ∨ 4 < t
  · by_cases h1 : t < 1
    · have d1 : decide (t < 1) = true := by simpa using h1
      go_enter Try.func5, Try.ntmps5
      go_wp2_with (first | (go_at_call 14; refine (may_any _ _).mono ?_; rintro e w2 ⟨rfl, rfl⟩) | (go_at_call 15; refine (refMay_any _ _).mono ?_; rintro e w2 ⟨rfl, rfl⟩) | (go_at_call 16; refine (allows_any _ _ _).mono ?_; rintro e w1 ⟨rfl, hb'⟩; replace hb := hb.trans (hb'.mono hb.size); clear hb') | (go_at_call 10; refine (refAllows_any _ _ _).mono ?_; rintro e w2 ⟨rfl, rfl⟩) | (go_at_call 17; refine (only_none _ _ hn).mono ?_; rintro e w2 ⟨rfl, rfl⟩) | (go_at_call 11; refine (known_any _).mono ?_; rintro e w1 ⟨rfl, hb'⟩; replace hb := hb.trans (hb'.mono hb.size); clear hb'))
      go_ret
      exact ⟨rfl, hb⟩
    · have d1 : decide (t < 1) = false := by simpa using h1
      have d2 : decide (4 < t) = true := by simp; omega
      go_enter Try.func5, Try.ntmps5
      go_wp2_with (first | (go_at_call 14; refine (may_any _ _).mono ?_; rintro e w2 ⟨rfl, rfl⟩) | (go_at_call 15; refine (refMay_any _ _).mono ?_; rintro e w2 ⟨rfl, rfl⟩) | (go_at_call 16; refine (allows_any _ _ _).mono ?_; rintro e w1 ⟨rfl, hb'⟩; replace hb := hb.trans (hb'.mono hb.size); clear hb') | (go_at_call 10; refine (refAllows_any _ _ _).mono ?_; rintro e w2 ⟨rfl, rfl⟩) | (go_at_call 17; refine (only_none _ _ hn).mono ?_; rintro e w2 ⟨rfl, rfl⟩) | (go_at_call 11; refine (known_any _).mono ?_; rintro e w1 ⟨rfl, hb'⟩; replace hb := hb.trans (hb'.mono hb.size); clear hb'))
      go_ret
      exact ⟨rfl, hb⟩
  · have h1 : 1 ≤ t := by omega
    have h4 : t ≤ 4 := by omega
    have d1 : decide (t < 1) = false := by simp; omega
    have d2 : decide (4 < t) = false := by simp; omega
    have ha : allowB t t = true := decide_eq_true ⟨h1, h4, .inr rfl⟩
    clear hn
    go_enter Try.func5, Try.ntmps5
    go_wp2_with (first | (go_at_call 14; refine (may_any _ _).mono ?_; rintro e w2 ⟨rfl, rfl⟩) | (go_at_call 15; refine (refMay_any _ _).mono ?_; rintro e w2 ⟨rfl, rfl⟩) | (go_at_call 16; refine (allows_any _ _ _).mono ?_; rintro e w1 ⟨rfl, hb'⟩; replace hb := hb.trans (hb'.mono hb.size); clear hb') | (go_at_call 10; refine (refAllows_any _ _ _).mono ?_; rintro e w2 ⟨rfl, rfl⟩) | (go_at_call 17; refine (only_is _ _ h1 h4).mono ?_; rintro e w2 ⟨rfl, rfl⟩) | (go_at_call 11; refine (known_any _).mono ?_; rintro e w1 ⟨rfl, hb'⟩; replace hb := hb.trans (hb'.mono hb.size); clear hb'))
    go_ret
    exact ⟨rfl, hb⟩

/-- What Of says of a restriction's own name. -/
theorem own_name (r : Int) : (mayB r = true ∧ whoOf (nameOf r) = r ∧ errOf (nameOf r) = 0) ∨ (mayB r = false ∧ errOf (nameOf r) = 16) := by
  by_cases hm : mayB r = true
  · left
    refine ⟨hm, ?_⟩
    rcases may_cases hm with rfl | rfl | rfl | rfl | rfl | rfl <;> exact ⟨by kernel_rfl, by kernel_rfl⟩
  · right
    have hm' : mayB r = false := by simpa using hm
    have e : nameOf r = ⟨#[63]⟩ := by unfold nameOf; rw [if_neg hm]
    rw [e]
    exact ⟨hm', by kernel_rfl⟩

theorem beq_swap (a b : List UInt8) : (a == b) = (b == a) := Bool.beq_comm

/-- What Of says of any text. -/
theorem of_text (s : ByteArray) : (errOf s = 16 ∧ whoOf s = 0 ∧ ∀ i : Int, 0 ≤ i → i ≤ 5 → ((nameOf i).toList == s.toList) = false) ∨ (errOf s = 0 ∧ mayB (whoOf s) = true ∧ ((nameOf (whoOf s)).toList == s.toList) = true) := by
  have key : before s 6 ∨ ∃ k : Nat, k < 6 ∧ before s k ∧ isNm s k = true := by
    have step : ∀ m : Nat, before s m ∨ ∃ k : Nat, k < m ∧ before s k ∧ isNm s k = true := by
      intro m
      induction m with
      | zero => exact .inl fun j hj => by omega
      | succ m ih =>
        rcases ih with h | ⟨k, hk, h⟩
        · cases hm : isNm s m with
          | true => exact .inr ⟨m, by omega, h, hm⟩
          | false => exact .inl (before_succ h hm)
        · exact .inr ⟨k, by omega, h⟩
    exact step 6
  have nmOf : ∀ k : Nat, k < 6 → nameOf (k : Int) = nm k := fun k hk => by
    unfold nameOf
    rw [if_pos (show mayB (k : Int) = true from decide_eq_true ⟨by omega, by omega⟩), Int.toNat_natCast]
  rcases key with h | ⟨k, hk, hb, hi⟩
  · left
    have e := idx_none h
    refine ⟨by unfold errOf; rw [e]; rfl, by unfold whoOf; rw [e]; rfl, fun i h0 h5 => ?_⟩
    obtain ⟨k, rfl⟩ := Int.eq_ofNat_of_zero_le h0
    rw [nmOf k (by omega), beq_swap]
    exact h k (by omega)
  · right
    have e := idx_found hk hb hi
    have n0 : ¬ ((k : Int) < 0) := by omega
    have ew : whoOf s = k := by unfold whoOf; rw [e, if_neg n0]
    refine ⟨by unfold errOf; rw [e, if_neg n0], by rw [ew]; exact decide_eq_true ⟨by omega, by omega⟩, ?_⟩
    rw [ew, nmOf k hk, beq_swap]
    exact hi

end Go.Proofs.Ytkkoepidjgmkbaa
