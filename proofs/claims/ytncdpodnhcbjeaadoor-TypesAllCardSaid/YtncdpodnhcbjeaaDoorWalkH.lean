/-
  The walks of types.All and of the closed law TypesAll: it returns true, wherever the table lies.
-/
import Derived.Test.YtncdpodnhcbjeaaDoorWalkF
import Derived.RangeFuncBox
import Derived.Maps.AppendAt
namespace Go.Proofs.YtncdpodnhcbjeaaDoor
open Go.RowKit

theorem info22 : (Tryd.prog.info? 22).map (fun i => (i.zero, i.size, i.bytes)) = some (some (.int .i64 0), 1, 8) := by kernel_rfl

/-- The first k types, as values. -/
def tys (k : Nat) : List Value := (List.range k).map fun i : Nat => Value.int .i64 ((i : Int) + 1)
theorem tys_succ (k : Nat) : tys (k + 1) = tys k ++ [.int .i64 ((k : Int) + 1)] := by simp [tys, List.range_succ]
theorem tys_len (k : Nat) : (tys k).length = k := by simp [tys]

set_option maxHeartbeats 1000000 in
theorem all_any (w : World) (h : Tab w) :
    Calls Tryd.prog 28 #[] w fun e w' => ∃ v, e = .returned v ∧ w'.ownsRow w.heap.size 22 1 v 4 (tys 4) ∧ Below w.heap.size w w' := by
  have H := Lib.hid h
  have hz := h.size
  clear h
  obtain ⟨i0, hi, hz0, hz1, hz2⟩ := info_parts info22
  have HI := Lib.hid hi
  have HZ0 := Lib.hid hz0
  have HZ1 := Lib.hid hz1
  have HZ2 := Lib.hid hz2
  clear hi hz0 hz1 hz2
  go_enter Tryd.func28, Tryd.ntmps28
  go_wp2
  go_loopw [0, 1, 4] (fun v _ n wr => ∃ k : Nat, k ≤ 4 ∧ n = .int .i64 k ∧ wr.ownsRow w.heap.size 22 1 v k (tys k) ∧ Below w.heap.size w wr) (fun _ _ n _ => 4 - (intOf n).toNat)
  case atStart => exact ⟨0, by omega, rfl, World.ownsRow_nil _ _ _ _, Below.refl _ _⟩
  case round =>
    obtain ⟨k, hk, rfl, hown, hb⟩ := hrel
    by_cases h4 : k = 4
    · subst h4
      have HO := Lib.hid hown
      have HB := Lib.hid hb
      clear hown hb
      go_wp2
      go_ret
      exact ⟨_, rfl, HO.out, HB.out⟩
    · have hlt : k < 4 := by omega
      clear h4
      have HO := Lib.hid hown
      have HB := Lib.hid hb
      clear hown hb
      go_wp2_with (at_builtin; refine wpList_append_own _ rfl _ _ 37 rfl w.heap.size 22 i0 (.int .i64 0) 1 8 Tryd.underlying37 HI.out HZ0.out HZ1.out HZ2.out rfl (by decide) _ _ _ rfl (HO.out.alloc _) ⟨wr.heap.size, 0, none⟩ 1 1 [.int .i64 ((k : Int) + 1)] rfl rfl (cell_one_new _ _ _) (by simp [Value.oneCell']) (by unfold maxLen; omega) (by omega) (by have := HB.out.size; simp; omega) ?_; intro v' w1 hown' hgrow _)
      go_roundw
      case rel => exact ⟨k + 1, by omega, by go_num, by rw [tys_succ]; exact hown', (HB.out.alloc HB.out.size _).grown hgrow (by have := HB.out.size; simp; omega) (fun q e => (HO.out.lt q e).1)⟩
      case measure => simp [intOf]; omega

theorem ty_self (k : Nat) (hk : k < 4) : tyOf (nameOf ((k : Int) + 1)) = (k : Int) + 1 ∧ errOf (nameOf ((k : Int) + 1)) = 0 := by
  match k, hk with
  | 0, _ => exact ⟨by kernel_rfl, by kernel_rfl⟩
  | 1, _ => exact ⟨by kernel_rfl, by kernel_rfl⟩
  | 2, _ => exact ⟨by kernel_rfl, by kernel_rfl⟩
  | 3, _ => exact ⟨by kernel_rfl, by kernel_rfl⟩
theorem ty_empty : tyOf ⟨#[]⟩ = 0 ∧ errOf ⟨#[]⟩ = 4 := ⟨by kernel_rfl, by kernel_rfl⟩

theorem tys_at (k : Nat) (hk : k < 4) : (tys 4)[k]? = some (.int .i64 ((k : Int) + 1)) := by
  match k, hk with
  | 0, _ => rfl
  | 1, _ => rfl
  | 2, _ => rfl
  | 3, _ => rfl

/-- What the law knows of the list that All gave: four cells of a block that is its own. -/
structure Four (w : World) (g : Nat) : Prop where
  lt : g < w.heap.size
  cell : ∀ k : Nat, k < 4 → w.cell? ⟨g, k, none⟩ = some (.int .i64 ((k : Int) + 1))
  free : ∀ k : Nat, w.frozen? ⟨g, k, none⟩ = false

theorem Four.below {w w' : World} {g : Nat} (h : Four w g) (hb : Below w.heap.size w w') : Four w' g :=
  ⟨Nat.lt_of_lt_of_le h.lt hb.size, fun k hk => (hb.cell (p := ⟨g, k, none⟩) h.lt).trans (h.cell k hk), fun k => (hb.frozen (p := ⟨g, k, none⟩) h.lt).trans (h.free k)⟩

theorem four_of {w : World} {base : Nat} {v : Value} (h : w.ownsRow base 22 1 v 4 (tys 4)) : ∃ g cap, v = .slice (some ⟨g, 0, none⟩) 4 cap ∧ base ≤ g ∧ Four w g := by
  obtain ⟨g, cap, rfl⟩ := ownsRow_succ h
  have hl := h.lt g rfl
  exact ⟨g, cap, rfl, hl.1, hl.2, fun k hk => (h.cellAt k (by omega)).trans (tys_at k hk), fun k => h.frozenAt k⟩

set_option maxHeartbeats 1000000 in
theorem law8 (w : World) (h : Tab w) :
    Calls Tryd.prog 8 #[] w fun e w' => e = .returned (.bool true) ∧ Below w.heap.size w w' := by
  have H := Lib.hid h
  have hz := h.size
  clear h
  have hb := Below.refl w.heap.size w
  go_enter Tryd.func8, Tryd.ntmps8
  go_wp2_with fail
  refine (all_any _ H.out).mono ?_
  rintro e w1 ⟨v, rfl, hown, hb1⟩
  obtain ⟨g, cap, rfl, hg, hF⟩ := four_of hown
  have HF := Lib.hid hF
  have HB1 := Lib.hid hb1
  clear hown hF hb1 hb
  go_wp2_with fail
  go_loopw [2, 3, 4] (fun n _ _ wr => ∃ k : Nat, k ≤ 4 ∧ n = .int .i64 k ∧ Below w1.heap.size w1 wr) (fun n _ _ _ => 4 - (intOf n).toNat)
  case atStart => exact ⟨0, by omega, rfl, Below.refl _ _⟩
  case round =>
    obtain ⟨k, hk, rfl, hb⟩ := hrel
    by_cases h4 : k = 4
    · subst h4
      have F4 := HF.out.below hb
      have c0 := F4.cell 0 (by omega)
      have f0 := F4.free 0
      have gl := F4.lt
      have hb2 := HB1.out.trans (hb.mono HB1.out.size)
      have hb3 : Below w.heap.size w (wr.setCell ⟨g, 0, none⟩ (.int .i64 9)) := hb2.setCell hg _
      have HB3 := Lib.hid hb3
      clear hb2 hb3 F4 hb
      go_wp2_with fail
      refine (all_any _ (H.out.below HB3.out)).mono ?_
      rintro e w2 ⟨v, rfl, hown, hb4⟩
      obtain ⟨g2, cap2, rfl, hg2, hF2⟩ := four_of hown
      have HF2 := Lib.hid hF2
      have hb5 := HB3.out.trans (hb4.mono HB3.out.size)
      have HB5 := Lib.hid hb5
      clear hown hF2 hb4 hb5
      obtain ⟨e1, e2⟩ := ty_empty
      have HE1 := Lib.hid e1
      have HE2 := Lib.hid e2
      clear e1 e2
      go_wp2_with fail
      refine (of_name _ _ (H.out.below HB5.out)).mono ?_
      rintro e w3 ⟨rfl, hb6⟩
      rw [HE1.out, HE2.out]
      have F6 := HF2.out.below hb6
      have d0 := F6.cell 0 (by omega)
      have hb7 := HB5.out.trans (hb6.mono HB5.out.size)
      have HB7 := Lib.hid hb7
      clear hb6 hb7 F6
      go_wp2_with (go_at_call 11; refine (known_any _ (H.out.below HB7.out)).mono ?_; rintro e w1 ⟨rfl, hb'⟩)
      go_ret
      exact ⟨rfl, HB7.out.trans (hb'.mono HB7.out.size)⟩
    · have hlt : k < 4 := by omega
      clear h4
      have c0 := (HF.out.below hb).cell k hlt
      obtain ⟨t1, t2⟩ := ty_self k hlt
      have hb2 := (HB1.out.trans (hb.mono HB1.out.size))
      have T0 := Lib.hid (H.out.below hb2)
      clear hb2
      have hb3 := hb
      have HT1 := Lib.hid t1
      have HT2 := Lib.hid t2
      clear t1 t2
      have hcells : ∀ w2, Below wr.heap.size wr w2 → w2.cell? ⟨g, k, none⟩ = some (.int .i64 ((k : Int) + 1)) := fun w2 h2 => ((HF.out.below hb).below h2).cell k hlt
      have HC := Lib.hid hcells
      clear hcells
      go_wp2_with fail
      refine (name_any _ _ T0.out).mono ?_
      rintro e w2 ⟨rfl, hb4⟩
      go_wp2_with fail
      refine (of_name _ _ (T0.out.below hb4)).mono ?_
      rintro e w3 ⟨rfl, hb5⟩
      rw [HT1.out, HT2.out]
      have hb6 := hb4.trans (hb5.mono hb4.size)
      have c3 := HC.out w3 hb6
      go_wp2
      go_roundw
      case rel => exact ⟨k + 1, by omega, by go_num, hb.trans (hb6.mono hb.size)⟩
      case measure => simp [intOf]; omega

end Go.Proofs.YtncdpodnhcbjeaaDoor
