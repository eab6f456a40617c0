/-
  The walk of the law RestrictMeets: it returns true for every slice of restrictions.
-/
import Derived.Test.YtkkoepidjgmkbaaWalkH
import Derived.RangeFuncBox
import Derived.Laws.AppendOwnNone
import Derived.Deep.QuietTactic
import Derived.BigQuiet
import Derived.WalkSmall
namespace Go.Proofs.Ytkkoepidjgmkbaa
open Go.RowKit Go.Shelf

/-- What the walk is told of a slice of int64s that came in: it is nil; or it leads to a row of 'cap' cells, the numbers 'zs'. -/
def IsRow (w : World) (a : Option Addr) (len cap : Nat) (zs : List Int) : Prop :=
  (a = none ∧ len = 0 ∧ cap = 0 ∧ zs = []) ∨
  ∃ x, a = some x ∧ len ≤ cap ∧ cap ≤ maxLen ∧ zs.length = cap ∧ (∀ i, i < zs.length → w.cell? (x.add i) = some (.int .i64 (zs.getD i 0))) ∧ ∀ n ∈ zs, (Lit.int .i64 n).wf = true

theorem lt_of_cell {w : World} {b o : Nat} {v : Value} (h : w.cell? ⟨b, o, none⟩ = some v) : b < w.heap.size := by
  apply Classical.byContradiction
  intro hz
  have hn : w.heap[b]? = none := Array.getElem?_eq_none (by omega)
  simp only [World.cell?] at h
  rw [hn] at h
  simp at h

/-- The first len numbers lie at b, off. -/
def Cells (w : World) (b off len : Nat) (x : Nat → Int) : Prop := ∀ j, j < len → w.cell? ⟨b, off + j, none⟩ = some (.int .i64 (x j))

theorem add_eq (b off j : Nat) : (⟨b, off, none⟩ : Addr).add j = ⟨b, off + j, none⟩ := by
  unfold Addr.add
  split <;> simp_all

theorem row_cells {w : World} {a : Option Addr} {len cap : Nat} {zs : List Int} (h : IsRow w a len cap zs) (hl : 0 < len) : ∃ b off, a = some ⟨b, off, none⟩ ∧ Cells w b off len (fun j => zs.getD j 0) ∧ b < w.heap.size := by
  rcases h with ⟨_, h, _⟩ | ⟨x, rfl, hlen, _, hz, hc, _⟩
  · omega
  · obtain ⟨b, off, spot⟩ := x
    have hc0 := hc 0 (by omega)
    have hspot : spot = none := by simpa [Addr.add] using World.cell?_spot hc0
    subst hspot
    have hC : Cells w b off len (fun j => zs.getD j 0) := fun j hj => by have := hc j (by omega); rwa [add_eq] at this
    exact ⟨b, off, rfl, hC, lt_of_cell (hC 0 hl)⟩

theorem Cells.below {w w' : World} {b off len : Nat} {x : Nat → Int} (h : Cells w b off len x) (hlt : b < w.heap.size) (hb : Below w.heap.size w w') : Cells w' b off len x :=
  fun j hj => (hb.cell (p := ⟨b, off + j, none⟩) hlt).trans (h j hj)

def vals (x : Nat → Int) (n : Nat) : List Value := (List.range n).map fun j => Value.int .i64 (x j)
theorem vals_len (x : Nat → Int) (n : Nat) : (vals x n).length = n := by simp [vals]
theorem vals_at (x : Nat → Int) (n j : Nat) (h : j < n) : (vals x n)[j]? = some (.int .i64 (x j)) := by simp [vals, h]
theorem vals_one (x : Nat → Int) (n : Nat) : ∀ u ∈ vals x n, u.oneCell' = true := by
  intro u hu
  simp only [vals, List.mem_map] at hu
  obtain ⟨j, _, rfl⟩ := hu
  rfl
theorem vals_src {w : World} {b off n : Nat} {x : Nat → Int} (h : Cells w b off n x) : ∀ j u, (vals x n)[j]? = some u → w.cell? ((⟨b, off, none⟩ : Addr).add j) = some u := by
  intro j u hu
  by_cases hj : j < n
  · rw [vals_at x n j hj] at hu
    rw [add_eq]; exact (h j hj).trans hu
  · rw [List.getElem?_eq_none (by rw [vals_len]; omega)] at hu
    cases hu

theorem cells_of_own {w : World} {base g cap n : Nat} {x : Nat → Int} (h : w.ownsRow base 22 1 (.slice (some ⟨g, 0, none⟩) n cap) n (vals x n)) : Cells w g 0 n x := by
  intro j hj
  have := h.cellAt j (by omega)
  rw [vals_at x n j hj] at this
  simpa using this

theorem info22 : (Try.prog.info? 22).map (fun i => (i.zero, i.size, i.bytes)) = some (some (.int .i64 0), 1, 8) := by kernel_rfl

set_option maxHeartbeats 1000000 in
theorem law4_long (a : Option Addr) (len cap : Nat) (w : World) (hl : 50 < len) :
    Calls Try.prog 4 #[.slice a len cap] w fun e w' => e = .returned (.bool true) ∧ Below w.heap.size w w' := by
  have d : decide (50 < (len : Int)) = true := by simp; omega
  clear hl
  go_enter Try.func4, Try.ntmps4
  go_wp2_with (go_at_call 11; refine (known_any _).mono ?_; rintro e w1 ⟨rfl, hb'⟩)
  go_ret
  exact ⟨rfl, hb'⟩

set_option maxHeartbeats 1000000 in
theorem law4_nil (cap : Nat) (w : World) (a : Option Addr) (ha : a = none → cap = 0) :
    Calls Try.prog 4 #[.slice a 0 cap] w fun e w' => e = .returned (.bool true) ∧ Below w.heap.size w w' := by
  obtain ⟨i0, hi, hz0, hz1, hz2⟩ := info_parts info22
  have HI := Lib.hid hi
  have HZ0 := Lib.hid hz0
  have HZ1 := Lib.hid hz1
  have HZ2 := Lib.hid hz2
  clear hi hz0 hz1 hz2
  cases a with
  | none =>
    obtain rfl := ha rfl
    clear ha
    go_enter Try.func4, Try.ntmps4
    go_wp2_with (first | (at_builtin; refine wpList_append_own_none rfl _ _ 30 rfl w.heap.size 22 i0 1 Try.underlying30 HI.out _ _ _ rfl (World.ownsRow_nil _ _ _ _) rfl ?_) | (go_at_call 12; refine (meet_nil _ _ _).mono ?_; rintro e w1 ⟨rfl, rfl⟩) | (go_at_call 13; refine (refMeet_nil _ _ (fun _ => 0) _).mono ?_; rintro e w1 ⟨rfl, rfl⟩; rw [show foldTo (fun _ => 0) 0 = 0 from rfl]) | (go_at_call 11; refine (known_any _).mono ?_; rintro e w1 ⟨rfl, hb'⟩))
    refine wp_loop_rounds 1 ?_
    rw [rounds_succ]
    go_wp2_with (go_at_call 11; refine (known_any _).mono ?_; rintro e w1 ⟨rfl, hb'⟩)
    go_ret
    exact ⟨rfl, hb'⟩
  | some ad =>
    clear ha
    go_enter Try.func4, Try.ntmps4
    go_wp2_with (at_builtin; refine wpList_append_own _ rfl _ _ 30 rfl w.heap.size 22 i0 (.int .i64 0) 1 8 Try.underlying30 HI.out HZ0.out HZ1.out HZ2.out rfl (by decide) (.slice none 0 0) 0 [] rfl (World.ownsRow_nil _ _ _ _) ad 0 cap [] rfl rfl (fun j u hu => by simp at hu) (by simp) (by unfold maxLen; omega) (by omega) (Nat.le_refl _) ?_; intro v' w1 hown hg hiff)
    obtain rfl : v' = .slice none 0 0 := by simpa using hiff
    have hb1 := (Below.refl w.heap.size w).grown hg (Nat.le_refl _) (fun k e => by cases e)
    have HB1 := Lib.hid hb1
    clear hown hg hiff hb1
    go_wp2_with (first | (go_at_call 12; refine (meet_nil _ _ _).mono ?_; rintro e w1 ⟨rfl, rfl⟩) | (go_at_call 13; refine (refMeet_nil _ _ (fun _ => 0) _).mono ?_; rintro e w1 ⟨rfl, rfl⟩; rw [show foldTo (fun _ => 0) 0 = 0 from rfl]))
    refine wp_loop_rounds 1 ?_
    rw [rounds_succ]
    go_wp2_with (go_at_call 11; refine (known_any _).mono ?_; rintro e w1 ⟨rfl, hb'⟩)
    go_ret
    exact ⟨rfl, HB1.out.trans (hb'.mono HB1.out.size)⟩

set_option maxHeartbeats 2000000 in
theorem law4_some (b off len cap : Nat) (x : Nat → Int) (w : World) (h0 : 0 < len) (hl : len ≤ 50) (hC : Cells w b off len x) (hb : b < w.heap.size) :
    Calls Try.prog 4 #[.slice (some ⟨b, off, none⟩) len cap] w fun e w' => e = .returned (.bool true) ∧ Below w.heap.size w w' := by
  obtain ⟨i0, hi, hz0, hz1, hz2⟩ := info_parts info22
  have HI := Lib.hid hi
  have HZ0 := Lib.hid hz0
  have HZ1 := Lib.hid hz1
  have HZ2 := Lib.hid hz2
  have HC := Lib.hid hC
  clear hi hz0 hz1 hz2 hC
  have d : decide (50 < (len : Int)) = false := by simp; omega
  go_enter Try.func4, Try.ntmps4
  go_wp2_with (at_builtin; refine wpList_append_own _ rfl _ _ 30 rfl w.heap.size 22 i0 (.int .i64 0) 1 8 Try.underlying30 HI.out HZ0.out HZ1.out HZ2.out rfl (by decide) (.slice none 0 0) 0 [] rfl (World.ownsRow_nil _ _ _ _) ⟨b, off, none⟩ len cap (vals x len) rfl (by rw [vals_len]; omega) (vals_src HC.out) (vals_one x len) (by unfold maxLen; omega) (by omega) (Nat.le_refl _) ?_; intro v' w1 hown hg _)
  simp only [Nat.zero_add, List.nil_append] at hown
  obtain ⟨m, rfl⟩ : ∃ m, len = m + 1 := ⟨len - 1, by omega⟩
  obtain ⟨g, cap', rfl⟩ := ownsRow_succ hown
  have hgl := hown.lt g rfl
  have hO := cells_of_own hown
  have hb1 := (Below.refl w.heap.size w).grown hg (Nat.le_refl _) (fun k e => by cases e)
  have hC1 := HC.out.below hb hb1
  have hbl : b < w1.heap.size := Nat.lt_of_lt_of_le hb hb1.size
  have HB1 := Lib.hid hb1
  have HO := Lib.hid hO
  have HC1 := Lib.hid hC1
  have HGL := Lib.hid hgl
  clear hown hg hb1 hO hC1 hgl
  by_cases hm : ∀ j : Nat, j < m + 1 → mayB (x j) = true
  · have M1 := Lib.hid (meet_good g 0 (m + 1) cap' x w1 (by omega) HO.out hm)
    have M2 := Lib.hid (refMeet_good b off (m + 1) cap x w1 (by omega) HC1.out hm)
    clear hm
    go_wp2_with (first | (go_at_call 12; refine M1.out.mono ?_; rintro e w2 ⟨rfl, rfl⟩) | (go_at_call 13; refine M2.out.mono ?_; rintro e w2 ⟨rfl, rfl⟩))
    go_loopw [2, 8] (fun _ i wr => ∃ k : Nat, k ≤ m + 1 ∧ i = .int .i64 k ∧ Below w1.heap.size w1 wr) (fun _ i _ => m + 1 - (intOf i).toNat)
    case atStart => exact ⟨0, by omega, rfl, Below.refl _ _⟩
    case round =>
      obtain ⟨k, hk, rfl, hb2⟩ := hrel
      by_cases hlt : k < m + 1
      · have c1 := (HC1.out.below hbl hb2) k hlt
        have c2 := (HO.out.below HGL.out.2 hb2) k hlt
        have l1 : (0 : Int) ≤ (k : Int) := by omega
        have l2 : (k : Int) < (m : Int) + 1 := by omega
        rw [Nat.zero_add] at c2
        go_wp2_with fail
        go_quiet (fail)
        go_wp2_with fail
        go_roundw
        case rel => exact ⟨k + 1, by omega, by go_num, below_drewN hb2 _⟩
        case measure => simp [intOf]; omega
      · have hge : ¬ ((k : Int) < (m : Int) + 1) := by omega
        clear hlt
        go_wp2_with (go_at_call 11; refine (known_any _).mono ?_; rintro e w3 ⟨rfl, hb'⟩)
        go_ret
        exact ⟨rfl, (HB1.out.trans (hb2.mono HB1.out.size)).trans (hb'.mono (Nat.le_trans HB1.out.size hb2.size))⟩
  · have M1 := Lib.hid (meet_bad g 0 (m + 1) cap' x w1 (by omega) HO.out hm)
    have M2 := Lib.hid (refMeet_bad b off (m + 1) cap x w1 (by omega) HC1.out hm)
    clear hm
    go_wp2_with (first | (go_at_call 12; refine M1.out.mono ?_; rintro e w2 ⟨rfl, rfl⟩) | (go_at_call 13; refine M2.out.mono ?_; rintro e w2 ⟨rfl, rfl⟩))
    go_loopw [2, 8] (fun _ i wr => ∃ k : Nat, k ≤ m + 1 ∧ i = .int .i64 k ∧ Below w1.heap.size w1 wr) (fun _ i _ => m + 1 - (intOf i).toNat)
    case atStart => exact ⟨0, by omega, rfl, Below.refl _ _⟩
    case round =>
      obtain ⟨k, hk, rfl, hb2⟩ := hrel
      by_cases hlt : k < m + 1
      · have c1 := (HC1.out.below hbl hb2) k hlt
        have c2 := (HO.out.below HGL.out.2 hb2) k hlt
        have l1 : (0 : Int) ≤ (k : Int) := by omega
        have l2 : (k : Int) < (m : Int) + 1 := by omega
        rw [Nat.zero_add] at c2
        go_wp2_with fail
        go_quiet (fail)
        go_wp2_with fail
        go_roundw
        case rel => exact ⟨k + 1, by omega, by go_num, below_drewN hb2 _⟩
        case measure => simp [intOf]; omega
      · have hge : ¬ ((k : Int) < (m : Int) + 1) := by omega
        clear hlt
        go_wp2_with (go_at_call 11; refine (known_any _).mono ?_; rintro e w3 ⟨rfl, hb'⟩)
        go_ret
        exact ⟨rfl, (HB1.out.trans (hb2.mono HB1.out.size)).trans (hb'.mono (Nat.le_trans HB1.out.size hb2.size))⟩

theorem law4 (a : Option Addr) (len cap : Nat) (zs : List Int) (w : World) (h : IsRow w a len cap zs) :
    Calls Try.prog 4 #[.slice a len cap] w fun e w' => e = .returned (.bool true) ∧ Below w.heap.size w w' := by
  by_cases hl : 50 < len
  · exact law4_long a len cap w hl
  · by_cases h0 : len = 0
    · subst h0
      exact law4_nil cap w a (by rcases h with ⟨_, _, h, _⟩ | ⟨x, h, _⟩ <;> simp_all)
    · obtain ⟨b, off, rfl, hC, hb⟩ := row_cells h (by omega)
      exact law4_some b off len cap _ w (by omega) (by omega) hC hb

end Go.Proofs.Ytkkoepidjgmkbaa
