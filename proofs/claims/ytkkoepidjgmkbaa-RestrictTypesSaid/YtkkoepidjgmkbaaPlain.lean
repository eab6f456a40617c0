/-
  The plain law of layer 19: the restriction that is folded out of some is the one that lets in just what all of them do.
-/
import Derived.Test.YtkkoepidjgmkbaaWalkD
namespace Go.Proofs.Ytkkoepidjgmkbaa
open Go.RowKit Go.Shelf

/-- One step of Meet. -/
def stepM (out r : Int) : Int := if out = 0 then r else if r = 0 then out else if r = out then out else 5
def foldTo (x : Nat → Int) : Nat → Int
  | 0 => 0
  | k + 1 => stepM (foldTo x k) (x k)

theorem step_may {a b : Int} (ha : mayB a = true) (hb : mayB b = true) : mayB (stepM a b) = true := by
  unfold stepM
  repeat' split
  all_goals first | assumption | rfl

theorem may_cases {a : Int} (h : mayB a = true) : a = 0 ∨ a = 1 ∨ a = 2 ∨ a = 3 ∨ a = 4 ∨ a = 5 := by
  have := of_decide_eq_true h
  omega

theorem allow_out {r t : Int} (h : ¬ (1 ≤ t ∧ t ≤ 4)) : allowB r t = false := decide_eq_false (fun k => h ⟨k.1, k.2.1⟩)

theorem step_allow {a b : Int} (ha : mayB a = true) (hb : mayB b = true) (t : Int) : allowB (stepM a b) t = (allowB a t && allowB b t) := by
  by_cases ht : 1 ≤ t ∧ t ≤ 4
  · have c : t = 1 ∨ t = 2 ∨ t = 3 ∨ t = 4 := by omega
    rcases may_cases ha with rfl | rfl | rfl | rfl | rfl | rfl <;> rcases may_cases hb with rfl | rfl | rfl | rfl | rfl | rfl <;> rcases c with rfl | rfl | rfl | rfl <;> decide
  · rw [allow_out ht, allow_out ht]; rfl

/-- Do all of the first k let a type in? -/
def allTo (x : Nat → Int) (t : Int) : Nat → Bool
  | 0 => true
  | k + 1 => allTo x t k && allowB (x k) t
/-- Is a restriction's word on the types below t that of all? -/
def sameTo (x : Nat → Int) (n : Nat) (r : Int) : Nat → Bool
  | 0 => true
  | t + 1 => sameTo x n r t && (allowB r ((t : Int) + 1) == allTo x ((t : Int) + 1) n)

theorem fold_may (x : Nat → Int) : ∀ k : Nat, (∀ j : Nat, j < k → mayB (x j) = true) → mayB (foldTo x k) = true
  | 0, _ => rfl
  | k + 1, h => step_may (fold_may x k fun j hj => h j (by omega)) (h k (by omega))

theorem fold_allow (x : Nat → Int) (t : Int) (ht : 1 ≤ t ∧ t ≤ 4) : ∀ k : Nat, (∀ j : Nat, j < k → mayB (x j) = true) → allowB (foldTo x k) t = allTo x t k
  | 0, _ => decide_eq_true ⟨ht.1, ht.2, .inl rfl⟩
  | k + 1, h => by
    show allowB (stepM (foldTo x k) (x k)) t = (allTo x t k && allowB (x k) t)
    rw [step_allow (fold_may x k fun j hj => h j (by omega)) (h k (by omega)), fold_allow x t ht k fun j hj => h j (by omega)]

theorem same_iff (x : Nat → Int) (n : Nat) (r : Int) : ∀ m : Nat, sameTo x n r m = true ↔ ∀ j : Nat, j < m → allowB r ((j : Int) + 1) = allTo x ((j : Int) + 1) n
  | 0 => ⟨fun _ j hj => by omega, fun _ => rfl⟩
  | m + 1 => by
    show (sameTo x n r m && (allowB r ((m : Int) + 1) == allTo x ((m : Int) + 1) n)) = true ↔ _
    rw [Bool.and_eq_true, same_iff x n r m, beq_iff_eq]
    constructor
    · rintro ⟨h, k⟩ j hj
      by_cases e : j = m
      · subst e; exact k
      · exact h j (by omega)
    · intro h
      exact ⟨fun j hj => h j (by omega), h m (by omega)⟩

/-- The restriction whose word is that of all is the folded one. -/
theorem same_fold (x : Nat → Int) (n : Nat) (h : ∀ j : Nat, j < n → mayB (x j) = true) {r : Int} (hr : mayB r = true) : sameTo x n r 4 = decide (r = foldTo x n) := by
  have hm := fold_may x n h
  by_cases e : r = foldTo x n
  · rw [decide_eq_true e]
    refine (same_iff x n r 4).2 fun j hj => ?_
    rw [e]
    exact fold_allow x _ (by omega) n h
  · rw [decide_eq_false e]
    cases hs : sameTo x n r 4 with
    | false => rfl
    | true =>
      exfalso
      apply e
      have k := (same_iff x n r 4).1 hs
      have k' : ∀ j : Nat, j < 4 → allowB r ((j : Int) + 1) = allowB (foldTo x n) ((j : Int) + 1) := fun j hj => by rw [k j hj, fold_allow x _ (by omega) n h]
      generalize foldTo x n = m at hm k'
      have q0 := k' 0 (by omega)
      have q1 := k' 1 (by omega)
      have q2 := k' 2 (by omega)
      have q3 := k' 3 (by omega)
      clear k k' hs e
      revert q0 q1 q2 q3
      rcases may_cases hr with rfl | rfl | rfl | rfl | rfl | rfl <;> rcases may_cases hm with rfl | rfl | rfl | rfl | rfl | rfl <;> decide

end Go.Proofs.Ytkkoepidjgmkbaa
