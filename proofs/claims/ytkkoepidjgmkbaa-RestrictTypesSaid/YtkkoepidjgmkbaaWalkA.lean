/-
  restrict.Types as an iterator: whatever the loop's body does, it is handed the types that a restriction lets in, rising.
-/
import Derived.RangeFuncNested
import Derived.RangeFuncBound
import Derived.RangeFuncCalls
import Derived.RangeFuncLeaves
import Derived.Shelf.Abstract
import Derived.Shelf.RegionOpen
import Derived.WalkKit
import Derived.OwnWalkIn
import Derived.TacticsInMore
import Derived.LoopNIn
import Derived.LoopIn
import Derived.RangeFuncFrom
import Derived.Lib.Hide
import Derived.Test.YtkkoepidjgmkbaaRows
namespace Go.Proofs.Ytkkoepidjgmkbaa
open Go.RowKit Go.Shelf
attribute [local go_sem] Oper.semAt_some

/-- Does a restriction let a type in? -/
def letB (r t : Int) : Bool := r == 0 || r == t
/-- The types below k that it lets in. -/
def letsTo (r : Int) (k : Nat) : List Int := ((List.range (k - 1)).map fun i : Nat => (i : Int) + 1).filter (letB r)
def lets (r : Int) : List Int := letsTo r 5

theorem lets_succ (r : Int) (k : Nat) (h : 1 ≤ k) : letsTo r (k + 1) = if letB r k = true then letsTo r k ++ [(k : Int)] else letsTo r k := by
  obtain ⟨m, rfl⟩ : ∃ m, k = m + 1 := ⟨k - 1, by omega⟩
  unfold letsTo
  simp only [Nat.add_sub_cancel, List.range_succ, List.map_append, List.map_cons, List.map_nil, List.filter_append]
  have e : ((m + 1 : Nat) : Int) = (m : Int) + 1 := by omega
  rw [e]
  by_cases hb : letB r ((m : Int) + 1) = true
  · simp [hb]
  · simp [hb]

theorem lets_len (r : Int) (k : Nat) : (letsTo r k).length ≤ k - 1 := by
  unfold letsTo
  exact Nat.le_trans (List.length_filter_le _ _) (by simp)

theorem lets_pre (r : Int) {k : Nat} (h : 1 ≤ k) (hk : k ≤ 5) : letsTo r k <+: lets r := by
  unfold lets
  have step : ∀ j : Nat, letsTo r (j + 1) <+: letsTo r (j + 1 + 1) := fun j => by
    rw [lets_succ r (j + 1) (by omega)]
    split
    · exact List.prefix_append _ _
    · exact List.prefix_refl _
  have c : k = 1 ∨ k = 2 ∨ k = 3 ∨ k = 4 ∨ k = 5 := by omega
  rcases c with rfl | rfl | rfl | rfl | rfl
  · exact (step 0).trans ((step 1).trans ((step 2).trans (step 3)))
  · exact (step 1).trans ((step 2).trans (step 3))
  · exact (step 2).trans (step 3)
  · exact step 3
  · exact List.prefix_refl _

set_option maxRecDepth 100000 in
set_option maxHeartbeats 1000000 in
theorem iter_in (F : Fence) (n : Nat) (h23 : F.fn 23) (hro : F.round = none) (hn : 1 ≤ n) (l Bn n₀ : Nat) (r : Int) (J Jx : List Int → World → Prop) (hBn0 : Bn < n₀)
    (hY : ∀ pre x W, J pre W → pre.length < 4 → YieldAt F (n - 1) Try.prog l #[.int .i64 x] W fun e W' =>
      (e = .returned (.bool true) ∧ J (pre ++ [x]) W' ∧ Below n₀ W W') ∨ (e = .returned (.bool false) ∧ Jx (pre ++ [x]) W'))
    (W : World) (hBn : W.cell? ⟨Bn, 0, none⟩ = some (.int .i64 r)) (h0 : J [] W) :
    CallsIn F n Try.prog 23 #[.func (.yield l) #[] #[], .pointer (some ⟨Bn, 0, none⟩)] W fun e W' => (∃ v, e = .returned v) ∧
      ((∃ ys, ys = lets r ∧ J ys W') ∨ (∃ pre, pre <+: lets r ∧ Jx pre W')) := by
  refine callsIn_of_wp Try.func23 rfl h23 ?_ hro
  simp only [Try.ntmps23, List.size_toArray, List.length_cons, List.length_nil, Nat.reduceAdd, Nat.reduceSub, Array.replicate_succ, Array.replicate_zero, List.push_toArray, List.append_toArray, List.nil_append, List.cons_append]
  gi_wp2
  gi_loopw [3] (fun t wr => ∃ k : Nat, 1 ≤ k ∧ k ≤ 5 ∧ t = .int .i64 k ∧ J (letsTo r k) wr ∧ wr.cell? ⟨Bn, 0, none⟩ = some (.int .i64 r)) (fun t _ => 5 - (intOf t).toNat)
  case atStart => exact ⟨1, by omega, by omega, rfl, h0, hBn⟩
  case round =>
    obtain ⟨k, hk1, hk5, rfl, hJ, hc⟩ := hrel
    have hJh := Lib.hid hJ
    clear hJ
    by_cases h5 : k = 5
    · subst h5
      gi_wp2
      go_end0
      exact ⟨⟨_, rfl⟩, .inl ⟨_, rfl, hJh.out⟩⟩
    · have hle : (k : Int) ≤ 4 := by omega
      clear h5
      have hlen : (letsTo r k).length < 4 := by have := lets_len r k; omega
      by_cases hb : letB r k = true
      · obtain ⟨fn, tmps, assign, body, hy, hR⟩ := hY (letsTo r k) (k : Int) wr hJh.out hlen
        have hs := lets_succ r k hk1
        rw [if_pos hb] at hs
        have HS := Lib.hid hs
        have hp : letsTo r k ++ [(k : Int)] <+: lets r := by rw [← hs]; exact lets_pre r (by omega) (by omega)
        have HP := Lib.hid hp
        clear hs hp hlen
        by_cases hr0 : r = 0
        · subst hr0
          clear hb
          gi_wp2
          refine hR.mono ?_
          rintro e W3 (⟨rfl, hJ3, hk3⟩ | ⟨rfl, hJx3⟩)
          · have hc3 := (hk3.cell (p := ⟨Bn, 0, none⟩) hBn0).trans hc
            have HJ3 := Lib.hid hJ3
            clear hJ3
            gi_wp2
            go_roundw
            case rel => exact ⟨k + 1, by omega, by omega, by go_num, by rw [HS.out]; exact HJ3.out, hc3⟩
            case measure => simp [intOf]; omega
          · gi_wp2
            refine bodyPost_ret (results_none rfl _ _ _) rfl ?_
            exact ⟨⟨_, rfl⟩, .inr ⟨_, HP.out, hJx3⟩⟩
        · have b1 : (r != 0) = true := by simp [hr0]
          have b2 : (r != (k : Int)) = false := by simp [letB, hr0] at hb; simp [hb]
          clear hb hr0
          gi_wp2
          refine hR.mono ?_
          rintro e W3 (⟨rfl, hJ3, hk3⟩ | ⟨rfl, hJx3⟩)
          · have hc3 := (hk3.cell (p := ⟨Bn, 0, none⟩) hBn0).trans hc
            have HJ3 := Lib.hid hJ3
            clear hJ3
            gi_wp2
            go_roundw
            case rel => exact ⟨k + 1, by omega, by omega, by go_num, by rw [HS.out]; exact HJ3.out, hc3⟩
            case measure => simp [intOf]; omega
          · gi_wp2
            refine bodyPost_ret (results_none rfl _ _ _) rfl ?_
            exact ⟨⟨_, rfl⟩, .inr ⟨_, HP.out, hJx3⟩⟩
      · have hs := lets_succ r k hk1
        rw [if_neg hb] at hs
        have HS := Lib.hid hs
        have b1 : (r != 0) = true := by simp [letB] at hb; simp; exact hb.1
        have b2 : (r != (k : Int)) = true := by simp [letB] at hb; simp; exact hb.2
        clear hs hlen hb
        gi_wp2
        go_roundw
        case rel => exact ⟨k + 1, by omega, by omega, by go_num, by rw [HS.out]; exact hJh.out, hc⟩
        case measure => simp [intOf]; omega

/-- restrict.Types hands back that iterator. -/
theorem types_in (F : Fence) (n : Nat) (h9 : F.fn 9) (hro : F.round = none) (r : Int) (w : World) :
    CallsIn F n Try.prog 9 #[.int .i64 r] w fun e w' => e = .returned (.func (.func 23) #[] #[.pointer (some ⟨w.heap.size, 0, none⟩)]) ∧ w' = w.alloc (.cells #[.int .i64 r] 22) := by
  refine callsIn_of_wp Try.func9 rfl h9 ?_ hro
  simp only [Try.ntmps9, List.size_toArray, List.length_cons, List.length_nil, Nat.reduceAdd, Nat.reduceSub, Array.replicate_succ, Array.replicate_zero, List.push_toArray, List.append_toArray, List.nil_append, List.cons_append]
  gi_wp2
  go_ret
  exact ⟨rfl, rfl⟩

theorem iter_stops (F : Fence) (n : Nat) (h23 : F.fn 23) (hro : F.round = none) (hn : 1 ≤ n) (Bn n₀ : Nat) (r : Int) (w : World) (hBn : Bn < w.heap.size) (hBn0 : Bn < n₀)
    (hc : w.cell? ⟨Bn, 0, none⟩ = some (.int .i64 r)) :
    SeqStopsK F n Try.prog 23 #[.pointer (some ⟨Bn, 0, none⟩)] (fun x : Int => #[Value.int .i64 x]) (Below n₀) (fun ys => ys = lets r) (fun pre => pre <+: lets r) 4 w := fun l J Jx W hW _ _ hY h0 =>
  iter_in F n h23 hro hn l Bn n₀ r J Jx hBn0 hY W ((hW.cell (p := ⟨Bn, 0, none⟩) hBn).trans hc) h0

/-! Small facts on a new cell. -/
theorem cell_of_box_l {W : World} {B : Nat} {v : Value} {t : TypeId} (h : W.heap[B]? = some (.cells #[v] t (0, 0))) : W.cell? ⟨B, 0, none⟩ = some v ∧ W.frozen? ⟨B, 0, none⟩ = false := by
  constructor <;> simp [World.cell?, World.frozen?, h]
theorem cell_new_l (W : World) (v : Value) (t : TypeId) : (W.alloc (.cells #[v] t)).cell? ⟨W.heap.size, 0, none⟩ = some v ∧ (W.alloc (.cells #[v] t)).frozen? ⟨W.heap.size, 0, none⟩ = false :=
  cell_of_box_l (World.alloc_heap_new W _)
theorem cell_alloc_l {W : World} {a : Addr} {v : Value} (o : Obj) (h : W.cell? a = some v) : (W.alloc o).cell? a = some v := cell_kept h (World.grownBy_alloc W o none) (fun r e => by cases e)
theorem frozen_alloc_l {W : World} {a : Addr} {v : Value} (o : Obj) (h : W.cell? a = some v) (hf : W.frozen? a = false) : (W.alloc o).frozen? a = false := (frozen_kept h (World.grownBy_alloc W o none) (fun r e => by cases e)).trans hf

end Go.Proofs.Ytkkoepidjgmkbaa
