/-
  restrict.Allows: whether a type is among those that the iterator hands out; and its plain word.
-/
import Derived.Test.YtkkoepidjgmkbaaWalkA
namespace Go.Proofs.Ytkkoepidjgmkbaa
open Go.RowKit Go.Shelf
attribute [local go_sem] Oper.semAt_some

set_option maxRecDepth 100000 in
set_option maxHeartbeats 2000000 in
theorem allows_in (F : Fence) (n : Nat) (h16 : F.fn 16) (h9 : F.fn 9) (h23 : F.fn 23) (hro : F.round = none) (hn : 3 ≤ n) (r t : Int) (w : World) :
    CallsIn F n Try.prog 16 #[.int .i64 r, .int .i64 t] w fun e W' => e = .returned (.bool (decide (t ∈ lets r))) ∧ Below w.heap.size w W' := by
  have h1 : 1 ≤ n := by omega
  refine callsIn_of_wp_marks Try.func16 rfl h16 ?_ hro
  simp only [Try.ntmps16, List.size_toArray, List.length_cons, List.length_nil, Nat.reduceAdd, Nat.reduceSub, Array.replicate_succ, Array.replicate_zero, List.push_toArray, List.append_toArray, List.nil_append, List.cons_append]
  gi_wp2_with (gi_at_call 9; refine (types_in F (n - 1) h9 hro _ _).mono ?_; rintro e w' ⟨rfl, rfl⟩)
  have c0 := cell_new_l w (.int .i64 t) 26
  have c1 := cell_new_l (w.alloc (.cells #[.int .i64 t] 26)) (.bool false) 4
  have c2 := cell_new_l ((w.alloc (.cells #[.int .i64 t] 26)).alloc (.cells #[.bool false] 4)) (.int .i64 r) 22
  simp only [World.size_alloc] at c1 c2
  have hB0 : Below w.heap.size w (((w.alloc (.cells #[.int .i64 t] 26)).alloc (.cells #[.bool false] 4)).alloc (.cells #[.int .i64 r] 22)) := (((Below.refl _ w).alloc (Nat.le_refl _) _).alloc (by simp) _).alloc (by simp; omega) _
  refine wpIn_rangeFunc_ownF hro h1 (gf := 23) (lb := #[.pointer (some ⟨w.heap.size + 1 + 1, 0, none⟩)]) rfl h23 (enters_of Try.func23 (by kernel_rfl) rfl)
    (iter_stops F (n - 1) h23 hro (by omega) (w.heap.size + 1 + 1) (w.heap.size + 3) r _ (by simp) (by omega) c2.1) belowK_t (belowK_b (by simp)) (Below.refl _ _) (fun _ => rfl)
    (fun pre W => ((∀ y ∈ pre, y ≠ t) ∧ W.cell? ⟨w.heap.size, 0, none⟩ = some (.int .i64 t) ∧ W.cell? ⟨w.heap.size + 1, 0, none⟩ = some (.bool false) ∧ W.frozen? ⟨w.heap.size + 1, 0, none⟩ = false) ∧ Below w.heap.size w W)
    (fun c pre W => (c = .ret ∧ t ∈ pre ∧ W.cell? ⟨w.heap.size + 1, 0, none⟩ = some (.bool true)) ∧ Below w.heap.size w W)
    (OwnFrom.and (Own.from (fun s A B row hs hg hr => ⟨hs.1, cell_kept hs.2.1 hg hr, cell_kept hs.2.2.1 hg hr, (frozen_kept hs.2.2.1 hg hr).trans hs.2.2.2⟩) _) (ownFrom_below (Nat.le_refl _) (by simp; omega)))
    (fun c => OwnFrom.and (Own.from (fun s A B row hs hg hr => ⟨hs.1, hs.2.1, cell_kept hs.2.2 hg hr⟩) _) (ownFrom_below (Nat.le_refl _) (by simp; omega)))
    ⟨⟨by simp, cell_alloc_l _ (cell_alloc_l _ c0.1), cell_alloc_l _ c1.1, frozen_alloc_l _ c1.1 c1.2⟩, hB0⟩
    (fun x => { tmps := #[.int .i64 r, .int .i64 t, undef, .pointer (some ⟨w.heap.size, 0, none⟩), .pointer (some ⟨w.heap.size + 1, 0, none⟩), .int .i64 x, .int .i64 r, .func (.func 23) #[] #[.pointer (some ⟨w.heap.size + 1 + 1, 0, none⟩)], .int .i64 x, undef, undef, undef], defers := [] }) ?assign ?body ?done ?stop
  case assign =>
    intro l x W K hK
    gi_wp2
    exact hK
  case body =>
    rintro l pre x W ⟨⟨hp, hcw, hcr, hfr⟩, hB⟩ _
    gi_wp2
    · rename_i hx
      obtain rfl : x = t := eq_of_beq hx
      exact ⟨KeepsOthers.setCell _ _ _, ⟨rfl, List.mem_append.2 (.inr (by simp)), World.cell?_setCell_same' _ _ _ (by rw [hcr]; rfl)⟩, hB.setCell (p := ⟨w.heap.size + 1, 0, none⟩) (by simp) _⟩
    · rename_i hx
      exact ⟨KeepsOthers.refl _, Below.refl _ _, ⟨fun y hy => (List.mem_append.1 hy).elim (hp y) (fun e e' => by simp at e; subst e; subst e'; simp at hx), hcw, hcr, hfr⟩, hB⟩
  case done =>
    rintro D ys W hD rfl ⟨⟨hne, _, hcr, hfr⟩, hB⟩ hK
    gi_wp2
    have hK' := (KeepsOthers.setCell W ⟨w.heap.size + 1, 0, none⟩ (.bool false)).same D _ hK rfl
    refine ⟨by simp, .inl ⟨_, _, rfl, run_takeDeferred hK', ?_⟩⟩
    have hc5 := cell_kept (World.cell?_setCell_same' W ⟨w.heap.size + 1, 0, none⟩ (.bool false) (by rw [hcr]; rfl)) (grownBy_putObj' _ D (.deferred none)) (fun r e => by cases e; exact ⟨_, hK', rfl⟩)
    refine ⟨.bool false, ?_, by rw [decide_eq_false (fun h => hne t h rfl)], (hB.setCell (p := ⟨w.heap.size + 1, 0, none⟩) (by simp) _).trans (belowK_b (w := w) (Nat.le_refl _) _ D _ _ (by simp at hD; omega) hK' rfl rfl)⟩
    simp [results, Try.f16, go_sem, hc5]
  case stop =>
    rintro D c pre W hD hpre ⟨⟨rfl, hin, hcr⟩, hB⟩ hK
    gi_wp2
    refine ⟨by simp, .inl ⟨_, _, rfl, run_takeDeferred hK, ?_⟩⟩
    have hc5 := cell_kept hcr (grownBy_putObj' _ D (.deferred none)) (fun r e => by cases e; exact ⟨_, hK, rfl⟩)
    refine ⟨.bool true, ?_, by rw [decide_eq_true (hpre.subset hin)], hB.trans (belowK_b (w := w) (Nat.le_refl _) W D _ _ (by simp at hD; omega) hK rfl rfl)⟩
    simp [results, Try.f16, go_sem, hc5]

/-- Does a restriction let a type in: the plain word. -/
def allowB (r t : Int) : Bool := decide (1 ≤ t ∧ t ≤ 4 ∧ (r = 0 ∨ r = t))

theorem mem_lets (r t : Int) : decide (t ∈ lets r) = allowB r t := by
  unfold allowB
  apply decide_eq_decide.2
  unfold lets letsTo
  rw [List.mem_filter, show ((List.range (5 - 1)).map fun i : Nat => (i : Int) + 1) = [1, 2, 3, 4] from by decide]
  simp only [List.mem_cons, List.not_mem_nil, or_false, letB, Bool.or_eq_true, beq_iff_eq]
  constructor
  · rintro ⟨h, k⟩; exact ⟨by omega, by omega, k⟩
  · rintro ⟨a, b, k⟩; exact ⟨by omega, k⟩

/-- What the walks use. -/
theorem allows_any (r t : Int) (w : World) :
    Calls Try.prog 16 #[.int .i64 r, .int .i64 t] w fun e W' => e = .returned (.bool (allowB r t)) ∧ Below w.heap.size w W' := by
  rw [← mem_lets]
  exact (callsIn_wide (n := 3)).1 (allows_in _ 3 trivial trivial trivial rfl (by omega) r t w)

end Go.Proofs.Ytkkoepidjgmkbaa
