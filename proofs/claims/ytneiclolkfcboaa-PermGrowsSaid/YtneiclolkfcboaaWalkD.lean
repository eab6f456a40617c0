/-
  The walks of Among, and of the reference's; Default and Of, and the reference's.
-/
import Derived.Test.YtneiclolkfcboaaWalkB
namespace Go.Proofs.Ytneiclolkfcboaa
open Go.RowKit

/-- Is one mask among the other one? -/
def amongB (p q : Int) : Bool := bits .andNot .u32 p q == 0

theorem andNot_zero {m n : Nat} (hm : m < 4294967296) (hn : n < 4294967296) : m &&& (4294967295 - n) = 0 ↔ Sub m n := by
  constructor
  · intro h j hj
    have hl : j < 32 := by
      apply Classical.byContradiction
      intro hc
      rw [Nat.testBit_lt_two_pow (Nat.lt_of_lt_of_le hm (Nat.pow_le_pow_right (show 0 < 2 by omega) (show 32 ≤ j by omega)))] at hj
      cases hj
    have e : (m &&& (4294967295 - n)).testBit j = false := by rw [h]; exact Nat.zero_testBit j
    rw [show 4294967295 - n = 2 ^ 32 - (n + 1) from by omega, Nat.testBit_and, Nat.testBit_two_pow_sub_succ hn, hj] at e
    simpa [hl] using e
  · intro h
    apply Nat.eq_of_testBit_eq
    intro j
    rw [Nat.zero_testBit, show 4294967295 - n = 2 ^ 32 - (n + 1) from by omega, Nat.testBit_and, Nat.testBit_two_pow_sub_succ hn]
    cases hj : m.testBit j with
    | false => rfl
    | true => rw [h j hj]; simp

theorem among_sub {m n : Nat} (hm : m < 4294967296) (hn : n < 4294967296) : amongB (m : Int) (n : Int) = true ↔ Sub m n := by
  unfold amongB
  rw [u32_andNot_nat m n hm hn, beq_iff_eq, ← andNot_zero hm hn]
  exact Int.ofNat_inj

def bytN (m : Nat) : Nat → Nat
  | 0 => m / 2 ^ 24
  | 1 => m / 2 ^ 16 % 2 ^ 8
  | 2 => m / 2 ^ 8 % 2 ^ 8
  | _ => m % 2 ^ 8
theorem byt_nat (m : Nat) (i : Nat) : byt (m : Int) i = ((bytN m i : Nat) : Int) := by
  match i with
  | 0 => simp only [byt, bytN]; omega
  | 1 => simp only [byt, bytN]; omega
  | 2 => simp only [byt, bytN]; omega
  | _ + 3 => simp only [byt, bytN]; omega
theorem bytN_lt {m : Nat} (hm : m < 4294967296) (i : Nat) : bytN m i < 256 := by
  match i with
  | 0 => simp only [bytN]; omega
  | 1 => simp only [bytN]; omega
  | 2 => simp only [bytN]; omega
  | _ + 3 => simp only [bytN]; omega

theorem sub_bytes {m n : Nat} : Sub m n ↔ ∀ i : Nat, i < 4 → Sub (bytN m i) (bytN n i) := by
  constructor
  · intro h i hi j hj
    have hc : i = 0 ∨ i = 1 ∨ i = 2 ∨ i = 3 := by omega
    rcases hc with e | e | e | e <;> subst e
    · simp only [bytN] at hj ⊢
      rw [Nat.testBit_div_two_pow] at hj ⊢
      exact h _ hj
    · simp only [bytN] at hj ⊢
      rw [Nat.testBit_mod_two_pow, Nat.testBit_div_two_pow, Bool.and_eq_true] at hj ⊢
      exact ⟨hj.1, h _ hj.2⟩
    · simp only [bytN] at hj ⊢
      rw [Nat.testBit_mod_two_pow, Nat.testBit_div_two_pow, Bool.and_eq_true] at hj ⊢
      exact ⟨hj.1, h _ hj.2⟩
    · simp only [bytN] at hj ⊢
      rw [Nat.testBit_mod_two_pow, Bool.and_eq_true] at hj ⊢
      exact ⟨hj.1, h _ hj.2⟩
  · intro h j hj
    by_cases h3 : j < 8
    · have := h 3 (by omega) j
      simp only [bytN, Nat.testBit_mod_two_pow, Bool.and_eq_true] at this
      exact (this ⟨by simpa using h3, hj⟩).2
    by_cases h2 : j < 16
    · have := h 2 (by omega) (j - 8)
      simp only [bytN, Nat.testBit_mod_two_pow, Nat.testBit_div_two_pow, Bool.and_eq_true] at this
      have e' : j - 8 + 8 = j := by omega
      simp only [e'] at this
      exact (this ⟨decide_eq_true (by omega), hj⟩).2
    by_cases h1 : j < 24
    · have := h 1 (by omega) (j - 16)
      simp only [bytN, Nat.testBit_mod_two_pow, Nat.testBit_div_two_pow, Bool.and_eq_true] at this
      have e' : j - 16 + 16 = j := by omega
      simp only [e'] at this
      exact (this ⟨decide_eq_true (by omega), hj⟩).2
    · have := h 0 (by omega) (j - 24)
      simp only [bytN, Nat.testBit_div_two_pow] at this
      have e' : j - 24 + 24 = j := by omega
      simp only [e'] at this
      exact this hj

theorem among_bytes {p q : Int} (hp : IsMask p) (hq : IsMask q) : amongB p q = true ↔ ∀ i : Nat, i < 4 → hasP (byt q i) (byt p i) = true := by
  obtain ⟨m, rfl⟩ := Int.eq_ofNat_of_zero_le hp.1
  obtain ⟨n, rfl⟩ := Int.eq_ofNat_of_zero_le hq.1
  have hm : m < 4294967296 := by have := hp.2; omega
  have hn : n < 4294967296 := by have := hq.2; omega
  rw [among_sub hm hn, sub_bytes]
  constructor
  · intro h i hi; rw [byt_nat, byt_nat]; exact (hasP_iff (bytN_lt hn i) (bytN_lt hm i)).2 (h i hi)
  · intro h i hi
    have := h i hi
    rw [byt_nat, byt_nat] at this
    exact (hasP_iff (bytN_lt hn i) (bytN_lt hm i)).1 this

theorem among_self {p : Int} (hp : IsMask p) : amongB p p = true := by
  obtain ⟨m, rfl⟩ := Int.eq_ofNat_of_zero_le hp.1
  have hm : m < 4294967296 := by have := hp.2; omega
  exact (among_sub hm hm).2 fun j h => h
theorem among_zero {p : Int} (hp : IsMask p) : amongB 0 p = true := by
  obtain ⟨m, rfl⟩ := Int.eq_ofNat_of_zero_le hp.1
  have hm : m < 4294967296 := by have := hp.2; omega
  exact (among_sub (m := 0) (by omega) hm).2 fun j h => by rw [Nat.zero_testBit] at h; cases h

set_option maxHeartbeats 400000 in
theorem among_any (p q : Int) (w : World) :
    Calls Try.prog 14 #[.int .u32 p, .int .u32 q] w fun e w' => e = .returned (.bool (amongB p q)) ∧ w = w' := by
  go_enter Try.func14, Try.ntmps14
  go_wp2
  go_ret
  exact ⟨rfl, rfl⟩

set_option maxRecDepth 100000 in
set_option maxHeartbeats 1000000 in
theorem refAmong_any (p q : Int) (w : World) (hp : IsMask p) (hq : IsMask q) :
    Calls Try.prog 15 #[.int .u32 p, .int .u32 q] w fun e w' => e = .returned (.bool (amongB p q)) ∧ w = w' := by
  have HP := Lib.hid hp
  have HQ := Lib.hid hq
  clear hp hq
  go_enter Try.func15, Try.ntmps15
  go_wp2
  go_loop [4, 5] (fun _ t => ∃ j : Nat, j ≤ 4 ∧ t = .int .i64 j ∧ ∀ i : Nat, i < j → hasP (byt q i) (byt p i) = true) (fun _ t => 4 - (intOf t).toNat)
  case atStart => exact ⟨0, by omega, rfl, fun i hi => by omega⟩
  case round =>
    obtain ⟨j, hj, rfl, hb⟩ := hrel
    have HB := Lib.hid hb
    clear hb
    by_cases h4 : j = 4
    · have HN := Lib.hid ((among_bytes HP.out HQ.out).2 (fun i hi => HB.out i (by omega)))
      subst h4
      go_wp2
      go_ret
      exact ⟨ret_bool HN.out.symm, rfl⟩
    · have hlt : j < 4 := by omega
      clear h4
      by_cases h1 : hasP (byt q j) (byt p j) = true
      · have H1 := Lib.hid h1
        go_wp2_with (first | (go_at_call 29; refine (refByte_any _ _ _ (by first | exact HP.out | exact HQ.out) (by omega)).mono ?_; rintro e w1 ⟨rfl, rfl⟩) | (go_at_call 21; refine (refHas_any _ _ _ (byt_bounds HQ.out _) (byt_bounds HP.out _)).mono ?_; rintro e w1 ⟨rfl, rfl⟩))
        go_round
        case rel => exact ⟨j + 1, by omega, by go_num, fun i hi => (Nat.lt_succ_iff_lt_or_eq.1 hi).elim (HB.out i) (fun e => by rw [e]; exact H1.out)⟩
        case measure => simp [intOf]; omega
      · have h1' : hasP (byt q j) (byt p j) = false := by simpa using h1
        have HN := Lib.hid (show amongB p q = false from by
          cases h : amongB p q with
          | false => rfl
          | true => exact absurd ((among_bytes HP.out HQ.out).1 h j hlt) h1)
        clear h1
        go_wp2_with (first | (go_at_call 29; refine (refByte_any _ _ _ (by first | exact HP.out | exact HQ.out) (by omega)).mono ?_; rintro e w1 ⟨rfl, rfl⟩) | (go_at_call 21; refine (refHas_any _ _ _ (byt_bounds HQ.out _) (byt_bounds HP.out _)).mono ?_; rintro e w1 ⟨rfl, rfl⟩))
        go_ret
        exact ⟨ret_bool HN.out.symm, rfl⟩

end Go.Proofs.Ytneiclolkfcboaa
