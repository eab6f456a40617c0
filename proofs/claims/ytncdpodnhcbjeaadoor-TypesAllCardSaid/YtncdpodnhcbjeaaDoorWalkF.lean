/-
  The walks of types.Of, its reference, and the law TypesNames.
-/
import Derived.Test.YtncdpodnhcbjeaaDoorWalkE
namespace Go.Proofs.YtncdpodnhcbjeaaDoor
open Go.RowKit

/-- Are two texts the same, as the walk has it? -/
def eqS (a b : ByteArray) : Bool := a.toList == b.toList

set_option maxHeartbeats 400000 in
theorem clos_any (nm s : ByteArray) (a b c : Int) (B : Nat) (w : World) (hc : w.cell? ⟨B, 0, none⟩ = some (.string s)) (hB : B < w.heap.size) :
    Calls Tryd.prog 32 #[.agg #[.string nm, .int .i64 a, .int .i64 b, .int .i64 c], .pointer (some ⟨B, 0, none⟩)] w fun e w' => e = .returned (.bool (eqS nm s)) ∧ Below w.heap.size w w' := by
  go_enter Tryd.func32, Tryd.ntmps32
  go_wp2
  go_ret
  exact ⟨rfl, (Below.refl _ _).alloc (Nat.le_refl _) _⟩

/-- No row of the first k has that name. -/
def before (s : ByteArray) (k : Nat) : Prop := ∀ j : Nat, j < k → eqS (nameOf j) s = false
/-- The first row that has that name, or -1. -/
def idxOf (s : ByteArray) : Int := if eqS (nameOf (0 : Nat)) s then 0 else if eqS (nameOf (1 : Nat)) s then 1 else if eqS (nameOf (2 : Nat)) s then 2 else if eqS (nameOf (3 : Nat)) s then 3 else if eqS (nameOf (4 : Nat)) s then 4 else -1

theorem idx_found {s : ByteArray} {k : Nat} (hk : k < 5) (hb : before s k) (h : eqS (nameOf k) s = true) : idxOf s = k := by
  unfold idxOf
  match k, hk with
  | 0, _ => rw [if_pos h]; rfl
  | 1, _ => rw [hb 0 (by omega), if_neg (by simp), if_pos h]; rfl
  | 2, _ => rw [hb 0 (by omega), if_neg (by simp), hb 1 (by omega), if_neg (by simp), if_pos h]; rfl
  | 3, _ => rw [hb 0 (by omega), if_neg (by simp), hb 1 (by omega), if_neg (by simp), hb 2 (by omega), if_neg (by simp), if_pos h]; rfl
  | 4, _ => rw [hb 0 (by omega), if_neg (by simp), hb 1 (by omega), if_neg (by simp), hb 2 (by omega), if_neg (by simp), hb 3 (by omega), if_neg (by simp), if_pos h]; rfl

theorem idx_none {s : ByteArray} (hb : before s 5) : idxOf s = -1 := by
  unfold idxOf
  rw [hb 0 (by omega), if_neg (by simp), hb 1 (by omega), if_neg (by simp), hb 2 (by omega), if_neg (by simp), hb 3 (by omega), if_neg (by simp), hb 4 (by omega), if_neg (by simp)]

theorem before_succ {s : ByteArray} {k : Nat} (hb : before s k) (h : eqS (nameOf k) s = false) : before s (k + 1) := by
  intro j hj
  by_cases ej : j = k
  · subst ej; exact h
  · exact hb j (by omega)

set_option maxHeartbeats 1000000 in
theorem index_any (s : ByteArray) (B : Nat) (w : World) (h : Tab w) (hB : B < w.heap.size) (hc : w.cell? ⟨B, 0, none⟩ = some (.string s)) :
    Calls Tryd.prog 31 #[.slice (some ⟨0, 0, none⟩) 5 5, .func (.func 32) #[] #[.pointer (some ⟨B, 0, none⟩)]] w fun e w' => e = .returned (.int .i64 (idxOf s)) ∧ Below w.heap.size w w' := by
  have H := Lib.hid h
  have HB := Lib.hid hB
  have HC := Lib.hid hc
  clear h hB hc
  go_enter Tryd.func31, Tryd.ntmps31
  go_wp2
  go_loopw [4, 5, 8] (fun r i n wr => ∃ k : Nat, k ≤ 5 ∧ n = .int .i64 k ∧ before s k ∧ Below w.heap.size w wr) (fun _ _ n _ => 5 - (intOf n).toNat)
  case atStart => exact ⟨0, by omega, rfl, fun j hj => by omega, Below.refl _ _⟩
  case round =>
    obtain ⟨k, hk, rfl, hbf, hb⟩ := hrel
    have HBF := Lib.hid hbf
    clear hbf
    by_cases h5 : k = 5
    · have hge : ¬ ((k : Int) < 5) := by omega
      have HK := Lib.hid h5
      clear h5
      go_wp2
      go_ret
      exact ⟨by rw [idx_none (HK.out ▸ HBF.out)]; rfl, hb⟩
    · have tb : Tab wr := H.out.below hb
      have h0 : wr.cell? ⟨0, k * 4, none⟩ = some (.string (nameOf k)) := by rw [Nat.mul_comm]; exact tb.name k (by omega)
      have h1 : wr.cell? ⟨0, k * 4 + 1, none⟩ = some (.int .i64 (leastOf k)) := by rw [Nat.mul_comm]; exact tb.least k (by omega)
      have h2 : wr.cell? ⟨0, k * 4 + 2, none⟩ = some (.int .i64 (mostOf k)) := by rw [Nat.mul_comm]; exact tb.most k (by omega)
      have h3 : wr.cell? ⟨0, k * 4 + 3, none⟩ = some (.int .i64 (canOf k)) := by rw [Nat.mul_comm]; exact tb.can k (by omega)
      have hz := tb.size
      clear tb
      have hlt : k < 5 := by omega
      clear h5
      by_cases he : eqS (nameOf k) s = true
      · have HE := Lib.hid he
        go_wp2_with (go_at_call 32; refine (clos_any _ s _ _ _ B _ ((hb.cell (p := ⟨B, 0, none⟩) HB.out).trans HC.out) (Nat.lt_of_lt_of_le HB.out hb.size)).mono ?_; rintro e w1 ⟨rfl, hb1⟩)
        go_ret
        exact ⟨by rw [idx_found hlt HBF.out HE.out]; rfl, hb.trans (hb1.mono hb.size)⟩
      · have he' : eqS (nameOf k) s = false := by simpa using he
        have HE := Lib.hid he'
        clear he
        go_wp2_with (go_at_call 32; refine (clos_any _ s _ _ _ B _ ((hb.cell (p := ⟨B, 0, none⟩) HB.out).trans HC.out) (Nat.lt_of_lt_of_le HB.out hb.size)).mono ?_; rintro e w1 ⟨rfl, hb1⟩)
        go_roundw
        case rel => exact ⟨k + 1, by omega, by go_num, before_succ HBF.out HE.out, hb.trans (hb1.mono hb.size)⟩
        case measure => simp [intOf]; omega

/-- The type of a name: 0, if it is none's. -/
def tyOf (s : ByteArray) : Int := if eqS (nameOf 1) s then 1 else if eqS (nameOf 2) s then 2 else if eqS (nameOf 3) s then 3 else if eqS (nameOf 4) s then 4 else 0
def errOf (s : ByteArray) : Int := if tyOf s = 0 then 4 else 0

theorem eqS_of {a b s : ByteArray} (h : eqS a s = true) (hd : eqS b a = false) : eqS b s = false := by
  unfold eqS at h hd ⊢
  have e : a.toList = s.toList := by simpa using h
  rw [← e]; exact hd

theorem idx_ty (s : ByteArray) : (idxOf s ≤ 0 ∧ tyOf s = 0 ∧ errOf s = 4) ∨ (0 < idxOf s ∧ tyOf s = idxOf s ∧ errOf s = 0) := by
  by_cases h0 : eqS (nameOf (0 : Nat)) s = true
  · left
    have e : idxOf s = 0 := by unfold idxOf; rw [if_pos h0]
    have t : tyOf s = 0 := by
      unfold tyOf
      rw [eqS_of (b := nameOf 1) h0 (by kernel_rfl), eqS_of (b := nameOf 2) h0 (by kernel_rfl), eqS_of (b := nameOf 3) h0 (by kernel_rfl), eqS_of (b := nameOf 4) h0 (by kernel_rfl)]
      rfl
    exact ⟨by omega, t, by unfold errOf; rw [if_pos t]⟩
  · have e : (idxOf s = -1 ∧ tyOf s = 0) ∨ (0 < idxOf s ∧ tyOf s = idxOf s) := by
      unfold idxOf tyOf
      rw [if_neg h0]
      by_cases h1 : eqS (nameOf 1) s = true
      · right
        rw [if_pos h1, if_pos (show eqS (nameOf (1 : Nat)) s = true from h1)]; omega
      rw [if_neg h1, if_neg (show ¬ eqS (nameOf (1 : Nat)) s = true from h1)]
      by_cases h2 : eqS (nameOf 2) s = true
      · right
        rw [if_pos h2, if_pos (show eqS (nameOf (2 : Nat)) s = true from h2)]; omega
      rw [if_neg h2, if_neg (show ¬ eqS (nameOf (2 : Nat)) s = true from h2)]
      by_cases h3 : eqS (nameOf 3) s = true
      · right
        rw [if_pos h3, if_pos (show eqS (nameOf (3 : Nat)) s = true from h3)]; omega
      rw [if_neg h3, if_neg (show ¬ eqS (nameOf (3 : Nat)) s = true from h3)]
      by_cases h4 : eqS (nameOf 4) s = true
      · right
        rw [if_pos h4, if_pos (show eqS (nameOf (4 : Nat)) s = true from h4)]; omega
      rw [if_neg h4, if_neg (show ¬ eqS (nameOf (4 : Nat)) s = true from h4)]
      left; exact ⟨rfl, rfl⟩
    rcases e with ⟨e, t⟩ | ⟨e, t⟩
    · left; exact ⟨by omega, t, by unfold errOf; rw [if_pos t]⟩
    · right; exact ⟨e, t, by unfold errOf; rw [if_neg (by omega)]⟩

theorem ret_pair {a b c d : Int} {k l : IntKind} (h1 : a = c) (h2 : b = d) : Ending.returned (.tuple #[.int k a, .int l b]) = .returned (.tuple #[.int k c, .int l d]) := by rw [h1, h2]

set_option maxHeartbeats 400000 in
theorem of_name (s : ByteArray) (w : World) (h : Tab w) :
    Calls Tryd.prog 26 #[.string s] w fun e w' => e = .returned (.tuple #[.int .i64 (tyOf s), .int .i64 (errOf s)]) ∧ Below w.heap.size w w' := by
  have H := Lib.hid h
  clear h
  have hb := (Below.refl w.heap.size w).alloc (Nat.le_refl _) (.cells #[.string s] 9)
  have HB := Lib.hid hb
  clear hb
  rcases idx_ty s with ⟨hi, t, e⟩ | ⟨hi, t, e⟩
  · have HT := Lib.hid t
    have HE := Lib.hid e
    clear t e
    go_enter Tryd.func26, Tryd.ntmps26
    go_wp2_with (go_at_call 31; refine (index_any s _ _ (H.out.below HB.out) (by simp) (by simp)).mono ?_; rintro e w1 ⟨rfl, hb1⟩)
    go_ret2
    exact ⟨ret_pair HT.out.symm HE.out.symm, HB.out.trans (hb1.mono HB.out.size)⟩
  · have HT := Lib.hid t
    have HE := Lib.hid e
    clear t e
    go_enter Tryd.func26, Tryd.ntmps26
    go_wp2_with (go_at_call 31; refine (index_any s _ _ (H.out.below HB.out) (by simp) (by simp)).mono ?_; rintro e w1 ⟨rfl, hb1⟩)
    go_ret2
    exact ⟨ret_pair HT.out.symm HE.out.symm, HB.out.trans (hb1.mono HB.out.size)⟩

/-- No type below k has that name. -/
def tyBefore (s : ByteArray) (k : Int) : Prop := ∀ j : Int, 1 ≤ j → j < k → eqS (nameOf j) s = false

theorem ty_found {s : ByteArray} {k : Int} (h1 : 1 ≤ k) (hk : k ≤ 4) (hb : tyBefore s k) (h : eqS (nameOf k) s = true) : tyOf s = k := by
  unfold tyOf
  have c : k = 1 ∨ k = 2 ∨ k = 3 ∨ k = 4 := by omega
  rcases c with rfl | rfl | rfl | rfl
  · rw [if_pos h]
  · rw [hb 1 (by omega) (by omega), if_neg (by simp), if_pos h]
  · rw [hb 1 (by omega) (by omega), if_neg (by simp), hb 2 (by omega) (by omega), if_neg (by simp), if_pos h]
  · rw [hb 1 (by omega) (by omega), if_neg (by simp), hb 2 (by omega) (by omega), if_neg (by simp), hb 3 (by omega) (by omega), if_neg (by simp), if_pos h]

theorem ty_none {s : ByteArray} (hb : tyBefore s 5) : tyOf s = 0 := by
  unfold tyOf
  rw [hb 1 (by omega) (by omega), if_neg (by simp), hb 2 (by omega) (by omega), if_neg (by simp), hb 3 (by omega) (by omega), if_neg (by simp), hb 4 (by omega) (by omega), if_neg (by simp)]

theorem ty_succ {s : ByteArray} {k : Int} (hb : tyBefore s k) (h : eqS (nameOf k) s = false) : tyBefore s (k + 1) := by
  intro j h1 hj
  by_cases ej : j = k
  · subst ej; exact h
  · exact hb j h1 (by omega)

theorem ret_int {a b : Int} {k : IntKind} (h1 : a = b) : Ending.returned (.int k a) = .returned (.int k b) := by rw [h1]

set_option maxHeartbeats 1000000 in
theorem refOf_name (s : ByteArray) (w : World) :
    Calls Tryd.prog 27 #[.string s] w fun e w' => e = .returned (.int .i64 (tyOf s)) ∧ w = w' := by
  go_enter Tryd.func27, Tryd.ntmps27
  go_wp2
  go_loop [2, 3] (fun r t => ∃ k : Int, 1 ≤ k ∧ k ≤ 5 ∧ t = .int .i64 k ∧ tyBefore s k) (fun _ t => (5 - intOf t).toNat)
  case atStart => exact ⟨1, by omega, by omega, rfl, fun j h1 hj => by omega⟩
  case round =>
    obtain ⟨k, h1, hk, rfl, hbf⟩ := hrel
    have HBF := Lib.hid hbf
    clear hbf
    by_cases h5 : k = 5
    · subst h5
      go_wp2
      go_ret
      exact ⟨ret_int (ty_none HBF.out).symm, rfl⟩
    · have hlt : k ≤ 4 := by omega
      clear h5
      by_cases he : eqS (nameOf k) s = true
      · have HE := Lib.hid he
        have he2 : ((nameOf k).toList == s.toList) = true := he
        clear he
        go_wp2_with (go_at_call 25; refine (refName_any _ _).mono ?_; rintro e w1 ⟨rfl, rfl⟩)
        go_ret
        exact ⟨ret_int (ty_found h1 hlt HBF.out HE.out).symm, rfl⟩
      · have he' : eqS (nameOf k) s = false := by simpa using he
        have HE := Lib.hid he'
        have he2 : ((nameOf k).toList == s.toList) = false := he'
        clear he he'
        go_wp2_with (go_at_call 25; refine (refName_any _ _).mono ?_; rintro e w1 ⟨rfl, rfl⟩)
        go_round
        case rel => exact ⟨k + 1, by omega, by omega, rfl, ty_succ HBF.out HE.out⟩
        case measure => simp [intOf]; omega

theorem ty_name (s : ByteArray) : (tyOf s = 0 ∧ errOf s = 4) ∨ (tyOf s ≠ 0 ∧ errOf s = 0 ∧ eqS (nameOf (tyOf s)) s = true) := by
  have e : tyOf s = 0 ∨ (tyOf s ≠ 0 ∧ eqS (nameOf (tyOf s)) s = true) := by
    unfold tyOf
    by_cases h1 : eqS (nameOf 1) s = true
    · right; rw [if_pos h1]; exact ⟨by omega, h1⟩
    rw [if_neg h1]
    by_cases h2 : eqS (nameOf 2) s = true
    · right; rw [if_pos h2]; exact ⟨by omega, h2⟩
    rw [if_neg h2]
    by_cases h3 : eqS (nameOf 3) s = true
    · right; rw [if_pos h3]; exact ⟨by omega, h3⟩
    rw [if_neg h3]
    by_cases h4 : eqS (nameOf 4) s = true
    · right; rw [if_pos h4]; exact ⟨by omega, h4⟩
    rw [if_neg h4]
    left; rfl
  rcases e with e | ⟨e, n⟩
  · left; exact ⟨e, by unfold errOf; rw [if_pos e]⟩
  · right; exact ⟨e, by unfold errOf; rw [if_neg e], n⟩

end Go.Proofs.YtncdpodnhcbjeaaDoor
