/-
  What the functions of package types give at each type, said of the table's cells (the walks of of, May, and what calls them).
-/
import Derived.Test.YtncdpodnhcbjeaaDoorRows
import Derived.WalkKit
import Derived.WalkSpells
import Derived.WalkLawsBesides
namespace Go.Proofs.YtncdpodnhcbjeaaDoor
open Go.RowKit

/-- A type's name, least, most, rights: the table's rows. -/
def nameOf (t : Int) : ByteArray := if t = 1 then ⟨#[117, 115, 101, 114]⟩ else if t = 2 then ⟨#[108, 111, 103, 111, 110]⟩ else if t = 3 then ⟨#[98, 105, 103]⟩ else if t = 4 then ⟨#[107, 101, 121, 114, 105, 110, 103]⟩ else ⟨#[]⟩
def leastOf (t : Int) : Int := if 1 ≤ t ∧ t ≤ 3 then 1 else 0
def mostOf (t : Int) : Int := if t = 1 then 128 else if t = 2 then 64 else if t = 3 then 256 else 0
def canOf (t : Int) : Int := if t = 1 then 3 else if t = 2 then 2 else if t = 3 then 3 else if t = 4 then 5 else 0

/-- The table lies in block 0. -/
structure Tab (w : World) : Prop where
  size : 0 < w.heap.size
  name : ∀ t : Nat, t < 5 → w.cell? ⟨0, 4 * t, none⟩ = some (.string (nameOf t))
  least : ∀ t : Nat, t < 5 → w.cell? ⟨0, 4 * t + 1, none⟩ = some (.int .i64 (leastOf t))
  most : ∀ t : Nat, t < 5 → w.cell? ⟨0, 4 * t + 2, none⟩ = some (.int .i64 (mostOf t))
  can : ∀ t : Nat, t < 5 → w.cell? ⟨0, 4 * t + 3, none⟩ = some (.int .i64 (canOf t))

theorem Tab.below {w w' : World} (h : Tab w) (hb : Below w.heap.size w w') : Tab w' where
  size := Nat.lt_of_lt_of_le h.size hb.size
  name t ht := (hb.cell (p := ⟨0, 4 * t, none⟩) h.size).trans (h.name t ht)
  least t ht := (hb.cell (p := ⟨0, 4 * t + 1, none⟩) h.size).trans (h.least t ht)
  most t ht := (hb.cell (p := ⟨0, 4 * t + 2, none⟩) h.size).trans (h.most t ht)
  can t ht := (hb.cell (p := ⟨0, 4 * t + 3, none⟩) h.size).trans (h.can t ht)

def rowVal (t : Int) : Value := .agg #[.string (nameOf t), .int .i64 (leastOf t), .int .i64 (mostOf t), .int .i64 (canOf t)]

set_option maxHeartbeats 400000 in
theorem of_1 (w : World) (h : Tab w) :
    Calls Tryd.prog 29 #[.int .i64 1] w fun e w' => e = .returned (.agg #[.string ⟨#[117, 115, 101, 114]⟩, .int .i64 1, .int .i64 128, .int .i64 3]) ∧ Below w.heap.size w w' := by
  have h0 := h.name 1 (by omega)
  have h1 := h.least 1 (by omega)
  have h2 := h.most 1 (by omega)
  have h3 := h.can 1 (by omega)
  simp [nameOf, leastOf, mostOf, canOf] at h0 h1 h2 h3
  have hz := h.size
  clear h
  go_enter Tryd.func29, Tryd.ntmps29
  go_wp2
  exact bodyPost_ret (v := .agg #[.string ⟨#[117, 115, 101, 114]⟩, .int .i64 1, .int .i64 128, .int .i64 3]) (by simp [results, Tryd.results29, go_sem]) rfl ⟨rfl, ((Below.refl _ _).alloc (Nat.le_refl _) _)⟩

set_option maxHeartbeats 400000 in
theorem of_2 (w : World) (h : Tab w) :
    Calls Tryd.prog 29 #[.int .i64 2] w fun e w' => e = .returned (.agg #[.string ⟨#[108, 111, 103, 111, 110]⟩, .int .i64 1, .int .i64 64, .int .i64 2]) ∧ Below w.heap.size w w' := by
  have h0 := h.name 2 (by omega)
  have h1 := h.least 2 (by omega)
  have h2 := h.most 2 (by omega)
  have h3 := h.can 2 (by omega)
  simp [nameOf, leastOf, mostOf, canOf] at h0 h1 h2 h3
  have hz := h.size
  clear h
  go_enter Tryd.func29, Tryd.ntmps29
  go_wp2
  exact bodyPost_ret (v := .agg #[.string ⟨#[108, 111, 103, 111, 110]⟩, .int .i64 1, .int .i64 64, .int .i64 2]) (by simp [results, Tryd.results29, go_sem]) rfl ⟨rfl, ((Below.refl _ _).alloc (Nat.le_refl _) _)⟩

set_option maxHeartbeats 400000 in
theorem of_3 (w : World) (h : Tab w) :
    Calls Tryd.prog 29 #[.int .i64 3] w fun e w' => e = .returned (.agg #[.string ⟨#[98, 105, 103]⟩, .int .i64 1, .int .i64 256, .int .i64 3]) ∧ Below w.heap.size w w' := by
  have h0 := h.name 3 (by omega)
  have h1 := h.least 3 (by omega)
  have h2 := h.most 3 (by omega)
  have h3 := h.can 3 (by omega)
  simp [nameOf, leastOf, mostOf, canOf] at h0 h1 h2 h3
  have hz := h.size
  clear h
  go_enter Tryd.func29, Tryd.ntmps29
  go_wp2
  exact bodyPost_ret (v := .agg #[.string ⟨#[98, 105, 103]⟩, .int .i64 1, .int .i64 256, .int .i64 3]) (by simp [results, Tryd.results29, go_sem]) rfl ⟨rfl, ((Below.refl _ _).alloc (Nat.le_refl _) _)⟩

set_option maxHeartbeats 400000 in
theorem of_4 (w : World) (h : Tab w) :
    Calls Tryd.prog 29 #[.int .i64 4] w fun e w' => e = .returned (.agg #[.string ⟨#[107, 101, 121, 114, 105, 110, 103]⟩, .int .i64 0, .int .i64 0, .int .i64 5]) ∧ Below w.heap.size w w' := by
  have h0 := h.name 4 (by omega)
  have h1 := h.least 4 (by omega)
  have h2 := h.most 4 (by omega)
  have h3 := h.can 4 (by omega)
  simp [nameOf, leastOf, mostOf, canOf] at h0 h1 h2 h3
  have hz := h.size
  clear h
  go_enter Tryd.func29, Tryd.ntmps29
  go_wp2
  exact bodyPost_ret (v := .agg #[.string ⟨#[107, 101, 121, 114, 105, 110, 103]⟩, .int .i64 0, .int .i64 0, .int .i64 5]) (by simp [results, Tryd.results29, go_sem]) rfl ⟨rfl, ((Below.refl _ _).alloc (Nat.le_refl _) _)⟩

set_option maxHeartbeats 400000 in
theorem of_out (t : Int) (w : World) (h : t < 1 ∨ 4 < t) :
    Calls Tryd.prog 29 #[.int .i64 t] w fun e w' => e = .returned (.agg #[.string ⟨#[]⟩, .int .i64 0, .int .i64 0, .int .i64 0]) ∧ Below w.heap.size w w' := by
  rcases h with h | h
  · have hd : decide (0 < t) = false := by simp; omega
    go_enter Tryd.func29, Tryd.ntmps29
    go_wp2
    exact bodyPost_ret (v := .agg #[.string ⟨#[]⟩, .int .i64 0, .int .i64 0, .int .i64 0]) (by simp [results, Tryd.results29, go_sem]) rfl ⟨rfl, ((Below.refl _ _).alloc (Nat.le_refl _) _)⟩
  · have hd : decide (t < 5) = false := by simp; omega
    have hp : 0 < t := by omega
    go_enter Tryd.func29, Tryd.ntmps29
    go_wp2
    exact bodyPost_ret (v := .agg #[.string ⟨#[]⟩, .int .i64 0, .int .i64 0, .int .i64 0]) (by simp [results, Tryd.results29, go_sem]) rfl ⟨rfl, ((Below.refl _ _).alloc (Nat.le_refl _) _)⟩

theorem of_any (t : Int) (w : World) (h : Tab w) :
    Calls Tryd.prog 29 #[.int .i64 t] w fun e w' => e = .returned (.agg #[.string (nameOf t), .int .i64 (leastOf t), .int .i64 (mostOf t), .int .i64 (canOf t)]) ∧ Below w.heap.size w w' := by
  by_cases h1 : t = 1
  · subst h1; exact of_1 w h
  by_cases h2 : t = 2
  · subst h2; exact of_2 w h
  by_cases h3 : t = 3
  · subst h3; exact of_3 w h
  by_cases h4 : t = 4
  · subst h4; exact of_4 w h
  have e0 : nameOf t = ⟨#[]⟩ := by simp [nameOf, h1, h2, h3, h4]
  have e1 : leastOf t = 0 := by unfold leastOf; rw [if_neg (by omega)]
  have e2 : mostOf t = 0 := by simp [mostOf, h1, h2, h3]
  have e3 : canOf t = 0 := by simp [canOf, h1, h2, h3, h4]
  rw [e0, e1, e2, e3]
  exact of_out t w (by omega)

end Go.Proofs.YtncdpodnhcbjeaaDoor
