/-
  Restrictions' names (the walks of names, Name, slices.Index, Of, and the reference's Name).
-/
import Derived.Test.YtkkoepidjgmkbaaWalkF
namespace Go.Proofs.Ytkkoepidjgmkbaa
open Go.RowKit Go.Shelf

/-- The names, by their numbers. -/
def nm : Nat → ByteArray
  | 0 => ⟨#[97, 110, 121]⟩
  | 1 => ⟨#[117, 115, 101, 114]⟩
  | 2 => ⟨#[108, 111, 103, 111, 110]⟩
  | 3 => ⟨#[98, 105, 103]⟩
  | 4 => ⟨#[114, 105, 110, 103]⟩
  | 5 => ⟨#[110, 111, 110, 101]⟩
  | _ => ⟨#[63]⟩
def nameOf (r : Int) : ByteArray := if mayB r = true then nm r.toNat else ⟨#[63]⟩

structure Six (w : World) (B : Nat) : Prop where
  lt : B < w.heap.size
  cell : ∀ k : Nat, k < 6 → w.cell? ⟨B, k, none⟩ = some (.string (nm k))

theorem six_new (w : World) (t : TypeId) : Six (w.alloc (.cells #[.string (nm 0), .string (nm 1), .string (nm 2), .string (nm 3), .string (nm 4), .string (nm 5)] t)) w.heap.size where
  lt := by simp
  cell k hk := by
    rw [World.cell?_alloc_at _ _ _ _ rfl]
    match k, hk with
    | 0, _ => rfl
    | 1, _ => rfl
    | 2, _ => rfl
    | 3, _ => rfl
    | 4, _ => rfl
    | 5, _ => rfl

set_option maxHeartbeats 400000 in
theorem names_any (w : World) : Calls Try.prog 24 #[] w fun e w' => e = .returned (.slice (some ⟨w.heap.size, 0, none⟩) 6 6) ∧ Six w' w.heap.size ∧ Below w.heap.size w w' := by
  go_enter Try.func24, Try.ntmps24
  go_wp2
  go_ret
  exact ⟨rfl, six_new w 49, (Below.refl _ _).alloc (Nat.le_refl _) _⟩

theorem ret_str {a b : ByteArray} (h : a = b) : Ending.returned (.string a) = .returned (.string b) := by rw [h]

set_option maxHeartbeats 400000 in
theorem name_any (r : Int) (w : World) : Calls Try.prog 20 #[.int .i64 r] w fun e w' => e = .returned (.string (nameOf r)) ∧ Below w.heap.size w w' := by
  by_cases hm : mayB r = true
  · have e : nameOf r = nm r.toNat := by unfold nameOf; rw [if_pos hm]
    obtain ⟨a1, a2⟩ := of_decide_eq_true hm
    obtain ⟨k, rfl⟩ := Int.eq_ofNat_of_zero_le a1
    have E := Lib.hid e
    clear e
    go_enter Try.func20, Try.ntmps20
    go_wp2_with (first | (go_at_call 14; refine (may_any _ _).mono ?_; rintro e w1 ⟨rfl, rfl⟩) | (go_at_call 24; refine (names_any _).mono ?_; rintro e w1 ⟨rfl, h6, hb⟩; have c := h6.cell k (by omega)))
    go_ret
    exact ⟨ret_str (by rw [E.out, Int.toNat_natCast]), hb⟩
  · have hm' : mayB r = false := by simpa using hm
    have e : nameOf r = ⟨#[63]⟩ := by unfold nameOf; rw [if_neg hm]
    have E := Lib.hid e
    clear e hm
    go_enter Try.func20, Try.ntmps20
    go_wp2_with (first | (go_at_call 14; refine (may_any _ _).mono ?_; rintro e w1 ⟨rfl, rfl⟩))
    go_ret
    exact ⟨ret_str E.out.symm, Below.refl _ _⟩

set_option maxHeartbeats 400000 in
theorem refName_any (r : Int) (w : World) : Calls Try.prog 21 #[.int .i64 r] w fun e w' => e = .returned (.string (nameOf r)) ∧ Below w.heap.size w w' := by
  by_cases hm : mayB r = true
  · rcases may_cases hm with rfl | rfl | rfl | rfl | rfl | rfl
    all_goals
      go_enter Try.func21, Try.ntmps21
      go_wp2_with (go_at_call 15; refine (refMay_any _ _).mono ?_; rintro e w1 ⟨rfl, rfl⟩)
      go_ret
      exact ⟨ret_str rfl, (Below.refl _ _).alloc (Nat.le_refl _) _⟩
  · have hm' : mayB r = false := by simpa using hm
    have e : nameOf r = ⟨#[63]⟩ := by unfold nameOf; rw [if_neg hm]
    have E := Lib.hid e
    clear e hm
    go_enter Try.func21, Try.ntmps21
    go_wp2_with (first | (go_at_call 15; refine (refMay_any _ _).mono ?_; rintro e w1 ⟨rfl, rfl⟩))
    go_ret
    exact ⟨ret_str E.out.symm, (Below.refl _ _).alloc (Nat.le_refl _) _⟩

/-- Is a text the k-th name, as the walk has it? -/
def isNm (s : ByteArray) (k : Nat) : Bool := s.toList == (nm k).toList
def before (s : ByteArray) (k : Nat) : Prop := ∀ j : Nat, j < k → isNm s j = false
def idxOf (s : ByteArray) : Int := if isNm s 0 then 0 else if isNm s 1 then 1 else if isNm s 2 then 2 else if isNm s 3 then 3 else if isNm s 4 then 4 else if isNm s 5 then 5 else -1

theorem before_succ {s : ByteArray} {k : Nat} (hb : before s k) (h : isNm s k = false) : before s (k + 1) := by
  intro j hj
  by_cases ej : j = k
  · subst ej; exact h
  · exact hb j (by omega)

theorem idx_found {s : ByteArray} {k : Nat} (hk : k < 6) (hb : before s k) (h : isNm s k = true) : idxOf s = k := by
  unfold idxOf
  match k, hk with
  | 0, _ => rw [if_pos h]; rfl
  | 1, _ => rw [hb 0 (by omega), if_neg (by simp), if_pos h]; rfl
  | 2, _ => rw [hb 0 (by omega), if_neg (by simp), hb 1 (by omega), if_neg (by simp), if_pos h]; rfl
  | 3, _ => rw [hb 0 (by omega), if_neg (by simp), hb 1 (by omega), if_neg (by simp), hb 2 (by omega), if_neg (by simp), if_pos h]; rfl
  | 4, _ => rw [hb 0 (by omega), if_neg (by simp), hb 1 (by omega), if_neg (by simp), hb 2 (by omega), if_neg (by simp), hb 3 (by omega), if_neg (by simp), if_pos h]; rfl
  | 5, _ => rw [hb 0 (by omega), if_neg (by simp), hb 1 (by omega), if_neg (by simp), hb 2 (by omega), if_neg (by simp), hb 3 (by omega), if_neg (by simp), hb 4 (by omega), if_neg (by simp), if_pos h]; rfl

theorem idx_none {s : ByteArray} (hb : before s 6) : idxOf s = -1 := by
  unfold idxOf
  rw [hb 0 (by omega), if_neg (by simp), hb 1 (by omega), if_neg (by simp), hb 2 (by omega), if_neg (by simp), hb 3 (by omega), if_neg (by simp), hb 4 (by omega), if_neg (by simp), hb 5 (by omega), if_neg (by simp)]

theorem ret_int {a b : Int} {k : IntKind} (h : a = b) : Ending.returned (.int k a) = .returned (.int k b) := by rw [h]

set_option maxHeartbeats 1000000 in
theorem index_any (B : Nat) (s : ByteArray) (w : World) (h : Six w B) :
    Calls Try.prog 25 #[.slice (some ⟨B, 0, none⟩) 6 6, .string s] w fun e w' => e = .returned (.int .i64 (idxOf s)) ∧ w = w' := by
  have H := Lib.hid h
  clear h
  go_enter Try.func25, Try.ntmps25
  go_wp2
  go_loop [4, 5, 8] (fun _ _ i => ∃ k : Nat, k ≤ 6 ∧ i = .int .i64 k ∧ before s k) (fun _ _ i => 6 - (intOf i).toNat)
  case atStart => exact ⟨0, by omega, rfl, fun j hj => by omega⟩
  case round =>
    obtain ⟨k, hk, rfl, hbf⟩ := hrel
    have HBF := Lib.hid hbf
    clear hbf
    by_cases h6 : k = 6
    · subst h6
      go_wp2
      go_ret
      exact ⟨ret_int (idx_none HBF.out).symm, rfl⟩
    · have hlt : k < 6 := by omega
      have c := H.out.cell k hlt
      clear h6
      by_cases he : isNm s k = true
      · have HE := Lib.hid he
        have e2 : (s.toList == (nm k).toList) = true := he
        clear he
        go_wp2
        go_ret
        exact ⟨ret_int (idx_found hlt HBF.out HE.out).symm, rfl⟩
      · have he' : isNm s k = false := by simpa using he
        have HE := Lib.hid he'
        have e2 : (s.toList == (nm k).toList) = false := he'
        clear he he'
        go_wp2
        go_round
        case rel => exact ⟨k + 1, by omega, by go_num, before_succ HBF.out HE.out⟩
        case measure => simp [intOf]; omega


/-- Who a text names: 0, if nobody; and the error. -/
def whoOf (s : ByteArray) : Int := if idxOf s < 0 then 0 else idxOf s
def errOf (s : ByteArray) : Int := if idxOf s < 0 then 16 else 0

set_option maxHeartbeats 400000 in
theorem of_any (s : ByteArray) (w : World) : Calls Try.prog 22 #[.string s] w fun e w' => e = .returned (.tuple #[.int .i64 (whoOf s), .int .i64 (errOf s)]) ∧ Below w.heap.size w w' := by
  by_cases h : idxOf s < 0
  · have e1 : whoOf s = 0 := by unfold whoOf; rw [if_pos h]
    have e2 : errOf s = 16 := by unfold errOf; rw [if_pos h]
    have E1 := Lib.hid e1
    have E2 := Lib.hid e2
    clear e1 e2
    go_enter Try.func22, Try.ntmps22
    go_wp2_with (first | (go_at_call 24; refine (names_any _).mono ?_; rintro e w1 ⟨rfl, h6, hb⟩) | (go_at_call 25; refine (index_any _ _ _ h6).mono ?_; rintro e w1 ⟨rfl, rfl⟩))
    go_ret2
    exact ⟨ret_two E1.out.symm E2.out.symm, hb⟩
  · have e1 : whoOf s = idxOf s := by unfold whoOf; rw [if_neg h]
    have e2 : errOf s = 0 := by unfold errOf; rw [if_neg h]
    have E1 := Lib.hid e1
    have E2 := Lib.hid e2
    clear e1 e2
    go_enter Try.func22, Try.ntmps22
    go_wp2_with (first | (go_at_call 24; refine (names_any _).mono ?_; rintro e w1 ⟨rfl, h6, hb⟩) | (go_at_call 25; refine (index_any _ _ _ h6).mono ?_; rintro e w1 ⟨rfl, rfl⟩))
    go_ret2
    exact ⟨ret_two E1.out.symm E2.out.symm, hb⟩

end Go.Proofs.Ytkkoepidjgmkbaa
