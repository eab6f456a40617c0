/-
  The plain laws of layer 5: rights as sets of bits.
-/
import Derived.Test.YtneiclolkfcboaaWalkA
namespace Go.Proofs.Ytneiclolkfcboaa
open Go.RowKit

/-- The j-th right: 1, 2, 4, .. -/
def pw (j : Nat) : Int := ((2 ^ j : Nat) : Int)
theorem pw_succ (j : Nat) : pw (j + 1) = pw j * 2 := by unfold pw; rw [Nat.pow_succ]; omega
theorem pw_pos (j : Nat) : 1 ≤ pw j := by unfold pw; have := Nat.pow_pos (n := j) (show 0 < 2 by omega); omega
theorem pw_le {j k : Nat} (h : j ≤ k) : pw j ≤ pw k := by unfold pw; have := Nat.pow_le_pow_right (show 0 < 2 by omega) h; omega

/-- Does a byte bear a right? -/
def hasB (b r : Int) : Bool := b / r % 2 == 1

theorem hasB_bit (m j : Nat) : hasB (m : Int) (pw j) = m.testBit j := by
  unfold hasB pw
  rw [Nat.testBit_eq_decide_div_mod_eq]
  have e : (m : Int) / ((2 ^ j : Nat) : Int) % 2 = ((m / 2 ^ j % 2 : Nat) : Int) := by
    rw [← Int.natCast_ediv]; rfl
  rw [e]
  by_cases h : m / 2 ^ j % 2 = 1
  · simp [h]
  · rw [decide_eq_false h]
    simp only [beq_eq_false_iff_ne]
    omega

/-- Is each bit of m among n's? -/
def Sub (m n : Nat) : Prop := ∀ j : Nat, m.testBit j = true → n.testBit j = true

theorem sub_iff (m n : Nat) : n &&& m = m ↔ Sub m n := by
  constructor
  · intro h j hj
    rw [← h, Nat.testBit_and, Bool.and_eq_true] at hj
    exact hj.1
  · intro h
    apply Nat.eq_of_testBit_eq
    intro j
    rw [Nat.testBit_and]
    cases hm : m.testBit j with
    | false => simp
    | true => rw [h j hm]; rfl

/-- Are all rights that are wanted there? -/
def hasP (r want : Int) : Bool := bits .and .u8 r want == want

theorem hasP_iff {m n : Nat} (hm : m < 256) (hn : n < 256) : hasP (m : Int) (n : Int) = true ↔ Sub n m := by
  unfold hasP
  rw [u8_and_nat m n hm hn, beq_iff_eq, ← sub_iff]
  exact Int.ofNat_inj

theorem bit_high {m : Nat} (hm : m < 256) {j : Nat} (hj : 8 ≤ j) : m.testBit j = false := by
  apply Nat.testBit_lt_two_pow
  calc m < 2 ^ 8 := hm
    _ ≤ 2 ^ j := Nat.pow_le_pow_right (by omega) hj

theorem sub_low {m n : Nat} (hm : m < 256) : Sub m n ↔ ∀ j : Nat, j < 8 → m.testBit j = true → n.testBit j = true := by
  constructor
  · intro h j _ hj; exact h j hj
  · intro h j hj
    by_cases hl : j < 8
    · exact h j hl hj
    · rw [bit_high hm (by omega)] at hj; cases hj

/-- As the reference asks it. -/
theorem hasP_all {r want : Int} (hr : 0 ≤ r ∧ r < 256) (hw : 0 ≤ want ∧ want < 256) : hasP r want = true ↔ ∀ j : Nat, j < 8 → hasB want (pw j) = true → hasB r (pw j) = true := by
  obtain ⟨m, rfl⟩ := Int.eq_ofNat_of_zero_le hr.1
  obtain ⟨n, rfl⟩ := Int.eq_ofNat_of_zero_le hw.1
  rw [hasP_iff (by omega) (by omega), sub_low (by omega)]
  constructor
  · intro h j hj; rw [hasB_bit, hasB_bit]; exact h j hj
  · intro h j hj; have := h j hj; rwa [hasB_bit, hasB_bit] at this

/-- The rights that two bytes give: the task's own, and, if it possesses the key, the first byte's. -/
def rightsOf (a b : Int) (poss : Bool) : Int := bits .and .u8 (if poss = true then bits .or .u8 a b else a) 63
def rightsN (a b : Nat) (poss : Bool) : Nat := (if poss = true then a ||| b else a) &&& 63

theorem or_lt {a b : Nat} (ha : a < 256) (hb : b < 256) : a ||| b < 256 := Nat.or_lt_two_pow (n := 8) ha hb

theorem rights_nat {a b : Nat} (ha : a < 256) (hb : b < 256) (poss : Bool) : rightsOf (a : Int) (b : Int) poss = ((rightsN a b poss : Nat) : Int) := by
  unfold rightsOf rightsN
  have e : (63 : Int) = ((63 : Nat) : Int) := rfl
  cases poss with
  | false => simp only [Bool.false_eq_true, if_false]; rw [e, u8_and_nat a 63 ha (by omega)]
  | true => simp only [if_true]; rw [u8_or_nat a b ha hb, e, u8_and_nat _ 63 (or_lt ha hb) (by omega)]

theorem rights_bit (a b : Nat) (poss : Bool) (j : Nat) : (rightsN a b poss).testBit j = ((a.testBit j || (poss && b.testBit j)) && (63 : Nat).testBit j) := by
  unfold rightsN
  cases poss with
  | false => simp
  | true => simp [Nat.testBit_and, Nat.testBit_or]

theorem rights_lt (a b : Nat) (poss : Bool) : rightsN a b poss < 64 := by
  unfold rightsN
  exact Nat.and_lt_two_pow _ (n := 6) (by omega)

theorem rights_bounds {a b : Int} (ha : 0 ≤ a ∧ a < 256) (hb : 0 ≤ b ∧ b < 256) (poss : Bool) : 0 ≤ rightsOf a b poss ∧ rightsOf a b poss < 64 := by
  obtain ⟨m, rfl⟩ := Int.eq_ofNat_of_zero_le ha.1
  obtain ⟨n, rfl⟩ := Int.eq_ofNat_of_zero_le hb.1
  rw [rights_nat (by omega) (by omega)]
  have := rights_lt m n poss
  omega

/-- The sum that the reference makes, right by right. -/
def sumTo (a b : Int) (poss : Bool) : Nat → Int
  | 0 => 0
  | j + 1 => sumTo a b poss j + if (hasB a (pw j) || (poss && hasB b (pw j))) = true then pw j else 0

theorem sum_nat (a b : Nat) (poss : Bool) : ∀ k : Nat, sumTo (a : Int) (b : Int) poss k = ((((if poss = true then a ||| b else a) % 2 ^ k : Nat)) : Int)
  | 0 => by simp [sumTo, Nat.mod_one]
  | k + 1 => by
    unfold sumTo
    rw [sum_nat a b poss k, hasB_bit, hasB_bit]
    have hb : (a.testBit k || (poss && b.testBit k)) = (if poss = true then a ||| b else a).testBit k := by
      cases poss with
      | false => simp
      | true => simp [Nat.testBit_or]
    rw [hb]
    generalize (if poss = true then a ||| b else a) = v
    rw [Nat.mod_pow_succ, Nat.testBit_eq_decide_div_mod_eq]
    have h2 : v / 2 ^ k % 2 = 0 ∨ v / 2 ^ k % 2 = 1 := by omega
    unfold pw
    rcases h2 with h | h
    · rw [h]; simp
    · rw [h]; simp

theorem sum_rights {a b : Int} (ha : 0 ≤ a ∧ a < 256) (hb : 0 ≤ b ∧ b < 256) (poss : Bool) : sumTo a b poss 6 = rightsOf a b poss := by
  obtain ⟨m, rfl⟩ := Int.eq_ofNat_of_zero_le ha.1
  obtain ⟨n, rfl⟩ := Int.eq_ofNat_of_zero_le hb.1
  rw [rights_nat (by omega) (by omega), sum_nat]
  unfold rightsN
  rw [show (63 : Nat) = 2 ^ 6 - 1 from rfl, Nat.and_two_pow_sub_one_eq_mod]

theorem sum_bounds (a b : Int) (poss : Bool) : ∀ k : Nat, 0 ≤ sumTo a b poss k ∧ sumTo a b poss k < pw k
  | 0 => by simp [sumTo, pw]
  | k + 1 => by
    have h := sum_bounds a b poss k
    have p := pw_pos k
    have s := pw_succ k
    unfold sumTo
    split <;> omega

end Go.Proofs.Ytneiclolkfcboaa
