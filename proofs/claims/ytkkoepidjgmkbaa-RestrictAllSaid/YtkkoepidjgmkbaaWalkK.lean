/-
  The walk of the closed law RestrictAll: it returns true.
-/
import Derived.Test.YtkkoepidjgmkbaaWalkH
namespace Go.Proofs.Ytkkoepidjgmkbaa
open Go.RowKit Go.Shelf

/-- How many pairs are let in, up to the t-th type of a restriction, from a count on. -/
def inner (n r : Int) : Nat → Int
  | 0 => n
  | t + 1 => inner n r t + if allowB r t = true then 1 else 0
/-- How many pairs and which text, behind k restrictions from -1 on. -/
def outerN : Nat → Int
  | 0 => 0
  | k + 1 => inner (outerN k) ((k : Int) - 1) 6

def strTo : Nat → ByteArray
  | 0 => ⟨#[]⟩
  | k + 1 => strTo k ++ nameOf ((k : Int) - 1) ++ ⟨#[32]⟩

theorem nm_size : ∀ k : Nat, (nm k).size ≤ 5
  | 0 | 1 | 2 | 3 | 4 | 5 => by decide
  | _ + 6 => by show (1 : Nat) ≤ 5; omega
theorem nameOf_size (r : Int) : (nameOf r).size ≤ 5 := by
  unfold nameOf
  split
  · exact nm_size _
  · show (1 : Nat) ≤ 5; omega
theorem str_size : ∀ k : Nat, (strTo k).size ≤ 6 * k
  | 0 => Nat.le_refl _
  | k + 1 => by
    have h := str_size k
    have h2 := nameOf_size ((k : Int) - 1)
    have e : (strTo (k + 1)).size = (strTo k).size + (nameOf ((k : Int) - 1)).size + 1 := by simp [strTo, ByteArray.size_append]; rfl
    omega

theorem inner_bounds (n r : Int) : ∀ t : Nat, n ≤ inner n r t ∧ inner n r t ≤ n + t
  | 0 => by simp [inner]
  | t + 1 => by
    have := inner_bounds n r t
    unfold inner
    split <;> omega
theorem outer_bounds : ∀ k : Nat, 0 ≤ outerN k ∧ outerN k ≤ 6 * k
  | 0 => by simp [outerN]
  | k + 1 => by
    have h := outer_bounds k
    have h2 := inner_bounds (outerN k) ((k : Int) - 1) 6
    unfold outerN
    omega

theorem inner_yes {n r : Int} {t : Nat} (h : allowB r t = true) : inner n r (t + 1) = inner n r t + 1 := by simp [inner, h]
theorem inner_no {n r : Int} {t : Nat} (h : allowB r t = false) : inner n r (t + 1) = inner n r t := by simp [inner, h]

theorem val_int {a b : Int} {k : IntKind} (h : a = b) : Value.int k a = Value.int k b := by rw [h]

set_option maxHeartbeats 1000000 in
theorem law7 (w : World) : Calls Try.prog 7 #[] w fun e w' => e = .returned (.bool true) ∧ Below w.heap.size w w' := by
  go_enter Try.func7, Try.ntmps7
  go_wp2
  go_loopw [1, 2, 3, 4] (fun n s r _ wr => ∃ k : Nat, k ≤ 8 ∧ r = .int .i64 ((k : Int) - 1) ∧ n = .int .i64 (outerN k) ∧ s = .string (strTo k) ∧ Below w.heap.size w wr) (fun _ _ r _ _ => (7 - intOf r).toNat)
  case atStart => exact ⟨0, by omega, rfl, rfl, rfl, Below.refl _ _⟩
  case round =>
    obtain ⟨k, hk, rfl, rfl, rfl, hb⟩ := hrel
    obtain ⟨on1, on2⟩ := outer_bounds k
    by_cases hlt : k < 8
    · have hle : (k : Int) - 1 ≤ 6 := by omega
      clear hlt
      obtain ⟨wo, rfl⟩ : ∃ wo : World, wo = wr := ⟨_, rfl⟩
      have HB0 := Lib.hid hb
      clear hb
      go_wp2_with fail
      go_loopw [1, 4] (fun n t wr => ∃ q : Nat, q ≤ 6 ∧ t = .int .i64 q ∧ n = .int .i64 (inner (outerN k) ((k : Int) - 1) q) ∧ Below w.heap.size w wr) (fun _ t _ => (6 - intOf t).toNat)
      case atStart => exact ⟨0, by omega, rfl, rfl, HB0.out⟩
      case round =>
        obtain ⟨q, hq, rfl, rfl, hb⟩ := hrel
        obtain ⟨in1, in2⟩ := inner_bounds (outerN k) ((k : Int) - 1) q
        clear HB0
        by_cases hlt2 : q < 6
        · have hle2 : (q : Int) ≤ 5 := by omega
          clear hlt2
          by_cases ha : allowB ((k : Int) - 1) q = true
          · have HA := Lib.hid (inner_yes (n := outerN k) ha)
            go_wp2_with (first | (go_at_call 16; refine (allows_any _ _ _).mono ?_; rintro e w1 ⟨rfl, hb'⟩; replace hb := hb.trans (hb'.mono hb.size); clear hb'))
            go_roundw
            case rel => exact ⟨q + 1, by omega, by go_num, val_int HA.out.symm, hb⟩
            case measure => simp [intOf]; omega
          · have ha' : allowB ((k : Int) - 1) q = false := by simpa using ha
            have HA := Lib.hid (inner_no (n := outerN k) ha')
            clear ha
            go_wp2_with (first | (go_at_call 16; refine (allows_any _ _ _).mono ?_; rintro e w1 ⟨rfl, hb'⟩; replace hb := hb.trans (hb'.mono hb.size); clear hb'))
            go_roundw
            case rel => exact ⟨q + 1, by omega, by go_num, val_int HA.out.symm, hb⟩
            case measure => simp [intOf]; omega
        · have hge : ¬ ((q : Int) ≤ 5) := by omega
          have hq6 : q = 6 := by omega
          have HQ := Lib.hid hq6
          have s1 := str_size k
          have s2 := nameOf_size ((k : Int) - 1)
          have t1 : ¬ 9223372036854775807 < (strTo k).size + (nameOf ((k : Int) - 1)).size := by omega
          have t2 : ¬ 9223372036854775807 < (strTo k).size + (nameOf ((k : Int) - 1)).size + 1 := by omega
          clear hlt2 hq6 s1 s2
          go_wp2_with (first | (go_at_call 20; refine (name_any _ _).mono ?_; rintro e w1 ⟨rfl, hb'⟩; replace hb := hb.trans (hb'.mono hb.size); clear hb'))
          go_roundw
          case rel => exact ⟨k + 1, by omega, val_int (by omega), val_int (by rw [HQ.out]; rfl), rfl, hb⟩
          case measure => simp [intOf]; omega
    · have hk8 : k = 8 := by omega
      subst hk8
      have n8 : outerN 8 = 8 := by kernel_rfl
      have t8 : ((strTo 8).toList == ([63, 32, 97, 110, 121, 32, 117, 115, 101, 114, 32, 108, 111, 103, 111, 110, 32, 98, 105, 103, 32, 114, 105, 110, 103, 32, 110, 111, 110, 101, 32, 63, 32] : List UInt8)) = true := by kernel_rfl
      clear hlt on1 on2
      go_wp2_with (first | (go_at_call 11; refine (known_any _).mono ?_; rintro e w1 ⟨rfl, hb'⟩; replace hb := hb.trans (hb'.mono hb.size); clear hb'))
      go_ret
      exact ⟨rfl, hb⟩

end Go.Proofs.Ytkkoepidjgmkbaa
