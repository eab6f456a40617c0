/-
  restrict.Among: does one restriction let in no type that the other one does not; and its plain word.
-/
import Derived.Test.YtkkoepidjgmkbaaWalkB
namespace Go.Proofs.Ytkkoepidjgmkbaa
open Go.RowKit Go.Shelf
attribute [local go_sem] Oper.semAt_some

theorem keeps_of_below {W W' : World} (h : Below W.heap.size W W') : KeepsOthers W W' :=
  ⟨h.size, fun k _ hk _ => (h.block k (Array.getElem?_eq_some_iff.1 hk).1).trans hk⟩

theorem all_false_of_prefix {l m : List Int} {p : Int → Bool} (h : l <+: m) (ha : l.all p = false) : m.all p = false := by
  obtain ⟨t, rfl⟩ := h
  simp [ha]

set_option maxRecDepth 100000 in
set_option maxHeartbeats 2000000 in
theorem among_in (F : Fence) (n : Nat) (h18 : F.fn 18) (h16 : F.fn 16) (h9 : F.fn 9) (h23 : F.fn 23) (hro : F.round = none) (hn : 6 ≤ n) (r b : Int) (w : World) :
    CallsIn F n Try.prog 18 #[.int .i64 r, .int .i64 b] w fun e W' => e = .returned (.bool ((lets r).all (allowB b))) ∧ Below w.heap.size w W' := by
  have h1 : 1 ≤ n := by omega
  refine callsIn_of_wp_marks Try.func18 rfl h18 ?_ hro
  simp only [Try.ntmps18, List.size_toArray, List.length_cons, List.length_nil, Nat.reduceAdd, Nat.reduceSub, Array.replicate_succ, Array.replicate_zero, List.push_toArray, List.append_toArray, List.nil_append, List.cons_append]
  gi_wp2_with (gi_at_call 9; refine (types_in F (n - 1) h9 hro _ _).mono ?_; rintro e w' ⟨rfl, rfl⟩)
  have c0 := cell_new_l w (.int .i64 b) 22
  have c1 := cell_new_l (w.alloc (.cells #[.int .i64 b] 22)) (.bool false) 4
  have c2 := cell_new_l ((w.alloc (.cells #[.int .i64 b] 22)).alloc (.cells #[.bool false] 4)) (.int .i64 r) 22
  simp only [World.size_alloc] at c1 c2
  have hB0 : Below w.heap.size w (((w.alloc (.cells #[.int .i64 b] 22)).alloc (.cells #[.bool false] 4)).alloc (.cells #[.int .i64 r] 22)) := (((Below.refl _ w).alloc (Nat.le_refl _) _).alloc (by simp) _).alloc (by simp; omega) _
  refine wpIn_rangeFunc_ownF hro h1 (gf := 23) (lb := #[.pointer (some ⟨w.heap.size + 1 + 1, 0, none⟩)]) rfl h23 (enters_of Try.func23 (by kernel_rfl) rfl)
    (iter_stops F (n - 1) h23 hro (by omega) (w.heap.size + 1 + 1) (w.heap.size + 3) r _ (by simp) (by omega) c2.1) belowK_t (belowK_b (by simp)) (Below.refl _ _) (fun _ => rfl)
    (fun pre W => (pre.all (allowB b) = true ∧ W.cell? ⟨w.heap.size, 0, none⟩ = some (.int .i64 b) ∧ W.cell? ⟨w.heap.size + 1, 0, none⟩ = some (.bool false) ∧ W.frozen? ⟨w.heap.size + 1, 0, none⟩ = false) ∧ Below w.heap.size w W ∧ w.heap.size + 3 ≤ W.heap.size)
    (fun c pre W => (c = .ret ∧ pre.all (allowB b) = false ∧ W.cell? ⟨w.heap.size + 1, 0, none⟩ = some (.bool false)) ∧ Below w.heap.size w W)
    (OwnFrom.and (Own.from (fun s A B row hs hg hr => ⟨hs.1, cell_kept hs.2.1 hg hr, cell_kept hs.2.2.1 hg hr, (frozen_kept hs.2.2.1 hg hr).trans hs.2.2.2⟩) _) (OwnFrom.and (ownFrom_below (Nat.le_refl _) (by simp; omega)) (fun s A B row hs hg hr => Nat.le_trans hs hg.size)))
    (fun c => OwnFrom.and (Own.from (fun s A B row hs hg hr => ⟨hs.1, hs.2.1, cell_kept hs.2.2 hg hr⟩) _) (ownFrom_below (Nat.le_refl _) (by simp; omega)))
    ⟨⟨by simp, cell_alloc_l _ (cell_alloc_l _ c0.1), cell_alloc_l _ c1.1, frozen_alloc_l _ c1.1 c1.2⟩, hB0, by simp⟩
    (fun x => { tmps := #[.int .i64 r, .int .i64 b, undef, .pointer (some ⟨w.heap.size, 0, none⟩), .pointer (some ⟨w.heap.size + 1, 0, none⟩), .int .i64 x, .int .i64 r, .func (.func 23) #[] #[.pointer (some ⟨w.heap.size + 1 + 1, 0, none⟩)], .int .i64 x, undef, undef, undef, undef], defers := [] }) ?assign ?body ?done ?stop
  case assign =>
    intro l x W K hK
    gi_wp2
    exact hK
  case body =>
    rintro l pre x W ⟨⟨hp, hcw, hcr, hfr⟩, hB, hs⟩ _
    have HB := Lib.hid hB
    have HP := Lib.hid hp
    clear hB hp
    have hn2 : 1 ≤ n - 1 - 1 := by omega
    by_cases ha : allowB b x = true
    · have HA := Lib.hid ha
      gi_wp2_with (gi_at_call 16; refine (CallsIn.inRound l (allows_in F _ h16 h9 h23 hro (by omega) _ _ _)).mono ?_; rintro e W2 ⟨rfl, hB2⟩; rw [mem_lets])
      exact ⟨keeps_of_below hB2, hB2.mono hs, ⟨by simp [HP.out, HA.out], (hB2.cell (p := ⟨w.heap.size, 0, none⟩) (by show w.heap.size < W.heap.size; omega)).trans hcw, (hB2.cell (p := ⟨w.heap.size + 1, 0, none⟩) (by show w.heap.size + 1 < W.heap.size; omega)).trans hcr, (hB2.frozen (p := ⟨w.heap.size + 1, 0, none⟩) (by show w.heap.size + 1 < W.heap.size; omega)).trans hfr⟩, HB.out.trans (hB2.mono HB.out.size), Nat.le_trans hs hB2.size⟩
    · have ha' : allowB b x = false := by simpa using ha
      have HA := Lib.hid ha'
      clear ha
      have hfr2 : ∀ W2, Below W.heap.size W W2 → W2.frozen? ⟨w.heap.size + 1, 0, none⟩ = false := fun W2 hB2 => (hB2.frozen (p := ⟨w.heap.size + 1, 0, none⟩) (by show w.heap.size + 1 < W.heap.size; omega)).trans hfr
      have hcr2 : ∀ W2, Below W.heap.size W W2 → W2.cell? ⟨w.heap.size + 1, 0, none⟩ = some (.bool false) := fun W2 hB2 => (hB2.cell (p := ⟨w.heap.size + 1, 0, none⟩) (by show w.heap.size + 1 < W.heap.size; omega)).trans hcr
      have HF := Lib.hid hfr2
      have HC := Lib.hid hcr2
      clear hfr2 hcr2
      gi_wp2_with (gi_at_call 16; refine (CallsIn.inRound l (allows_in F _ h16 h9 h23 hro (by omega) _ _ _)).mono ?_; rintro e W2 ⟨rfl, hB2⟩; rw [mem_lets]; have hf2 := HF.out W2 hB2; have hc2 := HC.out W2 hB2)
      exact ⟨(keeps_of_below hB2).trans (KeepsOthers.setCell _ _ _), ⟨rfl, by simp [HA.out], World.cell?_setCell_same' _ _ _ (by rw [HC.out W2 hB2]; rfl)⟩, (HB.out.trans (hB2.mono HB.out.size)).setCell (p := ⟨w.heap.size + 1, 0, none⟩) (by simp) _⟩
  case done =>
    rintro D ys W hD rfl ⟨⟨hne, _, hcr, hfr⟩, hB, _⟩ hK
    gi_wp2
    have hK' := (KeepsOthers.setCell W ⟨w.heap.size + 1, 0, none⟩ (.bool true)).same D _ hK rfl
    refine ⟨by simp, .inl ⟨_, _, rfl, run_takeDeferred hK', ?_⟩⟩
    have hc5 := cell_kept (World.cell?_setCell_same' W ⟨w.heap.size + 1, 0, none⟩ (.bool true) (by rw [hcr]; rfl)) (grownBy_putObj' _ D (.deferred none)) (fun r e => by cases e; exact ⟨_, hK', rfl⟩)
    refine ⟨.bool true, ?_, by rw [hne], (hB.setCell (p := ⟨w.heap.size + 1, 0, none⟩) (by simp) _).trans (belowK_b (w := w) (Nat.le_refl _) _ D _ _ (by simp at hD; omega) hK' rfl rfl)⟩
    simp [results, Try.f18, go_sem, hc5]
  case stop =>
    rintro D c pre W hD hpre ⟨⟨rfl, hin, hcr⟩, hB⟩ hK
    gi_wp2
    refine ⟨by simp, .inl ⟨_, _, rfl, run_takeDeferred hK, ?_⟩⟩
    have hc5 := cell_kept hcr (grownBy_putObj' _ D (.deferred none)) (fun r e => by cases e; exact ⟨_, hK, rfl⟩)
    refine ⟨.bool false, ?_, by rw [all_false_of_prefix hpre hin], hB.trans (belowK_b (w := w) (Nat.le_refl _) W D _ _ (by simp at hD; omega) hK rfl rfl)⟩
    simp [results, Try.f18, go_sem, hc5]

/-- Is one restriction among the other one: the plain word. -/
def amongB (a b : Int) : Bool := (lets a).all (allowB b)

theorem among_any (a b : Int) (w : World) :
    Calls Try.prog 18 #[.int .i64 a, .int .i64 b] w fun e W' => e = .returned (.bool (amongB a b)) ∧ Below w.heap.size w W' :=
  (callsIn_wide (n := 6)).1 (among_in _ 6 trivial trivial trivial trivial rfl (by omega) a b w)

end Go.Proofs.Ytkkoepidjgmkbaa
