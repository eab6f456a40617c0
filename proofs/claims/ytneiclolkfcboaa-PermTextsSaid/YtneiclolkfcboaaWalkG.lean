/-
  The walk of the reference's Text.
-/
import Derived.Test.YtneiclolkfcboaaWalkF
import Derived.BigQuiet
namespace Go.Proofs.Ytneiclolkfcboaa
open Go.RowKit

theorem dig_str {n : Int} (h0 : 0 ≤ n) (h1 : n < 16) : ByteArray.extract { data := #[48, 49, 50, 51, 52, 53, 54, 55, 56, 57, 97, 98, 99, 100, 101, 102] } n.toNat (n + 1).toNat = strOfNums [dig n] := by
  obtain ⟨m, rfl⟩ := Int.eq_ofNat_of_zero_le h0
  have hm : m < 16 := by omega
  clear h0 h1
  have hc : m = 0 ∨ m = 1 ∨ m = 2 ∨ m = 3 ∨ m = 4 ∨ m = 5 ∨ m = 6 ∨ m = 7 ∨ m = 8 ∨ m = 9 ∨ m = 10 ∨ m = 11 ∨ m = 12 ∨ m = 13 ∨ m = 14 ∨ m = 15 := by omega
  rcases hc with rfl | rfl | rfl | rfl | rfl | rfl | rfl | rfl | rfl | rfl | rfl | rfl | rfl | rfl | rfl | rfl
  all_goals rfl

theorem str_app (a b : List Int) : strOfNums a ++ strOfNums b = strOfNums (a ++ b) := by
  have e : (strOfNums a ++ strOfNums b).data = (strOfNums (a ++ b)).data := by
    rw [ByteArray.data_append]
    simp [strOfNums]
  exact ByteArray.ext e

theorem below_drewN {n : Nat} {w wr : World} (h : Below n w wr) : ∀ q : Nat, Below n w (wr.drewN q)
  | 0 => by rw [World.drewN_zero]; exact h
  | q + 1 => by rw [← World.drew_drewN]; exact (below_drewN h q).drew
theorem ret_str {a b : ByteArray} (h : a = b) : Ending.returned (.string a) = .returned (.string b) := by rw [h]
theorem val_str {a b : ByteArray} (h : a = b) : Value.string a = Value.string b := by rw [h]

set_option maxRecDepth 100000 in
set_option maxHeartbeats 2000000 in
theorem refText_any (p : Int) (w : World) (h : IsMask p) :
    Calls Try.prog 26 #[.int .u32 p] w fun e w' => e = .returned (.string (textOf p)) ∧ Below w.heap.size w w' := by
  have H := Lib.hid h
  clear h
  go_enter Try.func26, Try.ntmps26
  go_wp2
  go_loopw [3, 5] (fun s i wr => ∃ k : Nat, k ≤ 4 ∧ i = .int .i64 k ∧ s = .string (strOfNums (digs p k)) ∧ Below w.heap.size w wr) (fun _ i _ => 4 - (intOf i).toNat)
  case atStart => exact ⟨0, by omega, rfl, rfl, Below.refl _ _⟩
  case round =>
    obtain ⟨k, hk, rfl, rfl, hb⟩ := hrel
    have HB0 := Lib.hid hb
    clear hb
    by_cases h4 : k = 4
    · subst h4
      go_wp2
      go_ret
      exact ⟨rfl, HB0.out⟩
    · have hlt : k < 4 := by omega
      have b0 := byt_bounds H.out k
      have n1 : 0 ≤ byt p k / 16 := by omega
      have n2 : byt p k / 16 < 16 := by omega
      have n3 : 0 ≤ byt p k % 16 := by omega
      have n4 : byt p k % 16 < 16 := by omega
      have E1 := dig_str n1 n2
      have E2 := dig_str n3 n4
      have sz : (strOfNums (digs p k)).size ≤ 8 := by rw [strOfNums_size, digs_len]; omega
      have sz1 : (strOfNums (digs p k) ++ strOfNums [dig (byt p k / 16)]).size ≤ 9 := by rw [str_app, strOfNums_size, List.length_append, digs_len]; simp; omega
      have s1 : (strOfNums [dig (byt p k / 16)]).size = 1 := strOfNums_size _
      have s2 : (strOfNums [dig (byt p k % 16)]).size = 1 := strOfNums_size _
      obtain ⟨b0, b1⟩ := b0
      have ES := Lib.hid (show strOfNums (digs p k) ++ strOfNums [dig (byt p k / 16)] ++ strOfNums [dig (byt p k % 16)] = strOfNums (digs p (k + 1)) from by rw [str_app, str_app]; congr 1; simp [digs])
      clear h4
      go_wp2_with fail
      go_at_call 29; refine (refByte_any _ _ _ H.out (by omega)).mono ?_; rintro e w1 ⟨rfl, rfl⟩
      go_wp2_with fail
      go_quiet (fail)
      have HB4 := Lib.hid (below_drewN HB0.out nq)
      clear HB0
      go_wp2
      go_roundw
      case rel => exact ⟨k + 1, by omega, by go_num, val_str ES.out, HB4.out⟩
      case measure => simp [intOf]; omega

end Go.Proofs.Ytneiclolkfcboaa
