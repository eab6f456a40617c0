/-
  Masks by their bytes: the walks of bytes, mask, May and Has, and of the reference's Byte, May, has and Has.
-/
import Derived.Test.YtneiclolkfcboaaRows
import Derived.WalkKit
import Derived.WalkSpells
import Derived.WalkLawsBesides
import Derived.Lib.Hide
import Derived.Laws.BitsAllLaws
namespace Go.Proofs.Ytneiclolkfcboaa
open Go.RowKit

/-- A mask's bytes, the highest one first. -/
def byt (p : Int) : Nat → Int
  | 0 => p / 16777216
  | 1 => p / 65536 % 256
  | 2 => p / 256 % 256
  | _ => p % 256

/-- A mask. -/
def IsMask (p : Int) : Prop := 0 ≤ p ∧ p < 4294967296

theorem byt_bounds {p : Int} (h : IsMask p) (i : Nat) : 0 ≤ byt p i ∧ byt p i < 256 := by
  obtain ⟨h0, h1⟩ := h
  match i with
  | 0 => simp only [byt]; omega
  | 1 => simp only [byt]; omega
  | 2 => simp only [byt]; omega
  | _ + 3 => simp only [byt]; omega

theorem mask_of_byt {p : Int} (h : IsMask p) : ((byt p 0 * 256 + byt p 1) * 256 + byt p 2) * 256 + byt p 3 = p := by
  obtain ⟨h0, h1⟩ := h
  simp only [byt]
  omega

theorem byt_of_mask {a b c d : Int} (_ha : 0 ≤ a ∧ a < 256) (hb : 0 ≤ b ∧ b < 256) (hc : 0 ≤ c ∧ c < 256) (hd : 0 ≤ d ∧ d < 256) :
    byt (((a * 256 + b) * 256 + c) * 256 + d) 0 = a ∧ byt (((a * 256 + b) * 256 + c) * 256 + d) 1 = b ∧ byt (((a * 256 + b) * 256 + c) * 256 + d) 2 = c ∧ byt (((a * 256 + b) * 256 + c) * 256 + d) 3 = d := by
  simp only [byt]
  omega

set_option maxHeartbeats 400000 in
theorem bytes_any (p : Int) (w : World) (h : IsMask p) :
    Calls Try.prog 28 #[.int .u32 p] w fun e w' => e = .returned (.agg #[.int .u8 (byt p 0), .int .u8 (byt p 1), .int .u8 (byt p 2), .int .u8 (byt p 3)]) ∧ Below w.heap.size w w' := by
  obtain ⟨h0, h1⟩ := h
  go_enter Try.func28, Try.ntmps28
  go_wp2
  exact bodyPost_ret (v := .agg #[.int .u8 (byt p 0), .int .u8 (byt p 1), .int .u8 (byt p 2), .int .u8 (byt p 3)]) (by simp [results, Try.results28, go_sem, byt]) rfl ⟨rfl, (Below.refl _ _).alloc (Nat.le_refl _) _⟩

theorem idx0 (a b c d : Int) (w : World) : Sem.run Try.prog (Instr.index 53 (.agg #[.int .u8 a, .int .u8 b, .int .u8 c, .int .u8 d]) (.int .i64 0)) w = .ok (.int .u8 a) w := by kernel_rfl
theorem idx1 (a b c d : Int) (w : World) : Sem.run Try.prog (Instr.index 53 (.agg #[.int .u8 a, .int .u8 b, .int .u8 c, .int .u8 d]) (.int .i64 1)) w = .ok (.int .u8 b) w := by kernel_rfl
theorem idx2 (a b c d : Int) (w : World) : Sem.run Try.prog (Instr.index 53 (.agg #[.int .u8 a, .int .u8 b, .int .u8 c, .int .u8 d]) (.int .i64 2)) w = .ok (.int .u8 c) w := by kernel_rfl
theorem idx3 (a b c d : Int) (w : World) : Sem.run Try.prog (Instr.index 53 (.agg #[.int .u8 a, .int .u8 b, .int .u8 c, .int .u8 d]) (.int .i64 3)) w = .ok (.int .u8 d) w := by kernel_rfl

theorem or_low (x y : Int) (hx : 0 ≤ x) (hx' : x < 16777216) (hy : 0 ≤ y) (hy' : y < 256) : bits .or .u32 (x * 256 % 4294967296) y = x * 256 + y := by
  obtain ⟨m, rfl⟩ := Int.eq_ofNat_of_zero_le hx
  obtain ⟨n, rfl⟩ := Int.eq_ofNat_of_zero_le hy
  have e : (m : Int) * 256 % 4294967296 = ((m * 256 : Nat) : Int) := by omega
  rw [e, u32_or_nat _ _ (by omega) (by omega), nat_join 8 (m * 256) n (by omega) (by omega)]
  omega
theorem or_zero (y : Int) (hy : 0 ≤ y) (hy' : y < 256) : bits .or .u32 0 y = y := by
  have := or_low 0 y (by omega) (by omega) hy hy'
  simpa using this

def maskOf (a b c d : Int) : Int := ((a * 256 + b) * 256 + c) * 256 + d
theorem mask_bits {a b c d : Int} (ha : 0 ≤ a ∧ a < 256) (hb : 0 ≤ b ∧ b < 256) (hc : 0 ≤ c ∧ c < 256) (hd : 0 ≤ d ∧ d < 256) :
    bits .or .u32 (bits .or .u32 (bits .or .u32 (bits .or .u32 0 a * 256 % 4294967296) b * 256 % 4294967296) c * 256 % 4294967296) d = maskOf a b c d := by
  rw [or_zero a ha.1 ha.2, or_low a b (by omega) (by omega) hb.1 hb.2, or_low _ c (by omega) (by omega) hc.1 hc.2, or_low _ d (by omega) (by omega) hd.1 hd.2]
  rfl

theorem ret_int {a b : Int} {k : IntKind} (h : a = b) : Ending.returned (.int k a) = .returned (.int k b) := by rw [h]
theorem ret_bool {a b : Bool} (h : a = b) : Ending.returned (.bool a) = .returned (.bool b) := by rw [h]

set_option maxHeartbeats 1000000 in
theorem mask_any (a b c d : Int) (w : World) (ha : 0 ≤ a ∧ a < 256) (hb : 0 ≤ b ∧ b < 256) (hc : 0 ≤ c ∧ c < 256) (hd : 0 ≤ d ∧ d < 256) :
    Calls Try.prog 31 #[.agg #[.int .u8 a, .int .u8 b, .int .u8 c, .int .u8 d]] w fun e w' => e = .returned (.int .u32 (maskOf a b c d)) ∧ Below w.heap.size w w' := by
  have M := Lib.hid (mask_bits ha hb hc hd)
  obtain ⟨ha, ha'⟩ := ha
  obtain ⟨hb, hb'⟩ := hb
  obtain ⟨hc, hc'⟩ := hc
  obtain ⟨hd, hd'⟩ := hd
  have i0 := idx0
  have i1 := idx1
  have i2 := idx2
  have i3 := idx3
  go_enter Try.func31, Try.ntmps31
  go_wp2
  refine wp_loop_rounds 5 ?_
  rw [rounds_succ]
  go_wp2
  rw [rounds_succ]
  go_wp2
  rw [rounds_succ]
  go_wp2
  rw [rounds_succ]
  go_wp2
  rw [rounds_succ]
  go_wp2
  go_ret
  exact ⟨ret_int M.out, (Below.refl _ _).alloc (Nat.le_refl _) _⟩

/-- May a mask be? -/
def mayB (p : Int) : Bool := decide (byt p 0 ≤ 63 ∧ byt p 1 ≤ 63 ∧ byt p 2 ≤ 63 ∧ byt p 3 ≤ 63)

set_option maxHeartbeats 1000000 in
theorem may_any (p : Int) (w : World) (h : IsMask p) :
    Calls Try.prog 9 #[.int .u32 p] w fun e w' => e = .returned (.bool (mayB p)) ∧ Below w.heap.size w w' := by
  have H := Lib.hid h
  have i0 := idx0
  have i1 := idx1
  have i2 := idx2
  have i3 := idx3
  clear h
  by_cases c0 : byt p 0 ≤ 63
  rotate_left
  · have d0 : 63 < byt p 0 := by omega
    have e : mayB p = false := decide_eq_false (by omega)
    rw [e]
    clear e
    go_enter Try.func9, Try.ntmps9
    go_wp2_with (go_at_call 28; refine (bytes_any _ _ H.out).mono ?_; rintro e w1 ⟨rfl, hb⟩)
    refine wp_loop_rounds 5 ?_
    rw [rounds_succ]
    go_wp2
    go_ret
    exact ⟨rfl, hb⟩
  by_cases c1 : byt p 1 ≤ 63
  rotate_left
  · have d1 : 63 < byt p 1 := by omega
    have e : mayB p = false := decide_eq_false (by omega)
    rw [e]
    clear e
    go_enter Try.func9, Try.ntmps9
    go_wp2_with (go_at_call 28; refine (bytes_any _ _ H.out).mono ?_; rintro e w1 ⟨rfl, hb⟩)
    refine wp_loop_rounds 5 ?_
    rw [rounds_succ]
    go_wp2
    rw [rounds_succ]
    go_wp2
    go_ret
    exact ⟨rfl, hb⟩
  by_cases c2 : byt p 2 ≤ 63
  rotate_left
  · have d2 : 63 < byt p 2 := by omega
    have e : mayB p = false := decide_eq_false (by omega)
    rw [e]
    clear e
    go_enter Try.func9, Try.ntmps9
    go_wp2_with (go_at_call 28; refine (bytes_any _ _ H.out).mono ?_; rintro e w1 ⟨rfl, hb⟩)
    refine wp_loop_rounds 5 ?_
    rw [rounds_succ]
    go_wp2
    rw [rounds_succ]
    go_wp2
    rw [rounds_succ]
    go_wp2
    go_ret
    exact ⟨rfl, hb⟩
  by_cases c3 : byt p 3 ≤ 63
  · have e : mayB p = true := decide_eq_true (by omega)
    rw [e]
    clear e
    go_enter Try.func9, Try.ntmps9
    go_wp2_with (go_at_call 28; refine (bytes_any _ _ H.out).mono ?_; rintro e w1 ⟨rfl, hb⟩)
    refine wp_loop_rounds 5 ?_
    rw [rounds_succ]
    go_wp2
    rw [rounds_succ]
    go_wp2
    rw [rounds_succ]
    go_wp2
    rw [rounds_succ]
    go_wp2
    rw [rounds_succ]
    go_wp2
    go_ret
    exact ⟨rfl, hb⟩
  · have d3 : 63 < byt p 3 := by omega
    have e : mayB p = false := decide_eq_false (by omega)
    rw [e]
    clear e
    go_enter Try.func9, Try.ntmps9
    go_wp2_with (go_at_call 28; refine (bytes_any _ _ H.out).mono ?_; rintro e w1 ⟨rfl, hb⟩)
    refine wp_loop_rounds 5 ?_
    rw [rounds_succ]
    go_wp2
    rw [rounds_succ]
    go_wp2
    rw [rounds_succ]
    go_wp2
    rw [rounds_succ]
    go_wp2
    go_ret
    exact ⟨rfl, hb⟩

set_option maxHeartbeats 1000000 in
theorem refByte_any (p : Int) (i : Nat) (w : World) (h : IsMask p) (hi : i ≤ 3) :
    Calls Try.prog 29 #[.int .u32 p, .int .i64 i] w fun e w' => e = .returned (.int .i64 (byt p i)) ∧ w = w' := by
  obtain ⟨h0, h1⟩ := h
  have hc : i = 0 ∨ i = 1 ∨ i = 2 ∨ i = 3 := by omega
  rcases hc with rfl | rfl | rfl | rfl
  · go_enter Try.func29, Try.ntmps29
    go_wp2
    refine wp_loop_rounds 4 ?_
    rw [rounds_succ]
    go_wp2
    rw [rounds_succ]
    go_wp2
    rw [rounds_succ]
    go_wp2
    rw [rounds_succ]
    go_wp2
    go_ret
    exact ⟨ret_int (by simp only [byt]; try omega), rfl⟩
  · go_enter Try.func29, Try.ntmps29
    go_wp2
    refine wp_loop_rounds 4 ?_
    rw [rounds_succ]
    go_wp2
    rw [rounds_succ]
    go_wp2
    rw [rounds_succ]
    go_wp2
    go_ret
    exact ⟨ret_int (by simp only [byt]; try omega), rfl⟩
  · go_enter Try.func29, Try.ntmps29
    go_wp2
    refine wp_loop_rounds 4 ?_
    rw [rounds_succ]
    go_wp2
    rw [rounds_succ]
    go_wp2
    go_ret
    exact ⟨ret_int (by simp only [byt]; try omega), rfl⟩
  · go_enter Try.func29, Try.ntmps29
    go_wp2
    refine wp_loop_rounds 4 ?_
    rw [rounds_succ]
    go_wp2
    go_ret
    exact ⟨ret_int (by simp only [byt]; try omega), rfl⟩

end Go.Proofs.Ytneiclolkfcboaa
