/-
  The walk of the law RestrictTypes: it returns true for every two numbers.
-/
import Derived.Test.YtkkoepidjgmkbaaWalkH
namespace Go.Proofs.Ytkkoepidjgmkbaa
open Go.RowKit Go.Shelf
attribute [local go_sem] Oper.semAt_some

/-- The last of some, 0: there is none. -/
def lastOf (l : List Int) : Int := l.getLast?.getD 0
theorem lastOf_snoc (l : List Int) (x : Int) : lastOf (l ++ [x]) = x := by simp [lastOf]

/-- Rising from 1 on, and all let in. -/
def okL (r : Int) (l : List Int) : Prop := (∀ y ∈ l, allowB r y = true) ∧ l.Pairwise (· < ·)
theorem okL_last {r : Int} {l : List Int} (h : okL r l) : ∀ y ∈ l, y ≤ lastOf l := by
  intro y hy
  rcases List.eq_nil_or_concat l with rfl | ⟨m, z, rfl⟩
  · cases hy
  · rw [List.concat_eq_append] at h hy ⊢
    rw [lastOf_snoc]
    rcases List.mem_append.1 hy with a | a
    · have := (List.pairwise_append.1 h.2).2.2 y a z (by simp)
      omega
    · simp at a; omega
theorem okL_snoc {r x : Int} {l : List Int} (h : okL r l) (h1 : lastOf l < x) (h2 : allowB r x = true) : okL r (l ++ [x]) := by
  refine ⟨fun y hy => ?_, List.pairwise_append.2 ⟨h.2, by simp, fun y hy z hz => ?_⟩⟩
  · rcases List.mem_append.1 hy with a | a
    · exact h.1 y a
    · simp at a; rw [a]; exact h2
  · simp at hz
    have := okL_last h y hy
    omega
theorem okL_bad1 {r x : Int} {l : List Int} (h1 : x ≤ lastOf l) : ¬ okL r (l ++ [x]) := by
  intro h
  rcases List.eq_nil_or_concat l with rfl | ⟨m, z, rfl⟩
  · have := allow_range (h.1 x (by simp))
    simp [lastOf] at h1
    omega
  · rw [List.concat_eq_append] at h h1
    rw [lastOf_snoc] at h1
    have := (List.pairwise_append.1 h.2).2.2 z (by simp) x (by simp)
    omega
theorem okL_bad2 {r x : Int} {l : List Int} (h2 : allowB r x = false) : ¬ okL r (l ++ [x]) := by
  intro h
  have := h.1 x (by simp)
  rw [h2] at this
  cases this
theorem okL_prefix {r : Int} {l m : List Int} (h : l <+: m) (hm : okL r m) : okL r l := by
  obtain ⟨t, rfl⟩ := h
  exact ⟨fun y hy => hm.1 y (List.mem_append.2 (.inl hy)), (List.pairwise_append.1 hm.2).1⟩
theorem okL_lets (r : Int) : okL r (lets r) := by
  refine ⟨fun y hy => by rw [← mem_lets]; exact decide_eq_true hy, ?_⟩
  unfold lets letsTo
  refine List.Pairwise.filter _ ?_
  decide

/-- What lies in the law's own boxes: at, the result, a, the iterator's, the round, n, last. -/
structure Held (H RB NB LB : Nat) (q r ρ n last : Int) (w W : World) : Prop where
  b : Below H w W
  h0 : H ≤ w.heap.size
  cq : W.cell? ⟨H, 0, none⟩ = some (.int .i64 q)
  cres : W.cell? ⟨H + 1, 0, none⟩ = some (.bool false)
  fres : W.frozen? ⟨H + 1, 0, none⟩ = false
  ca : W.cell? ⟨H + 1 + 1, 0, none⟩ = some (.int .i64 r)
  cb : W.cell? ⟨H + 1 + 1 + 1, 0, none⟩ = some (.int .i64 r)
  cr : W.cell? ⟨RB, 0, none⟩ = some (.int .i64 ρ)
  fr : W.frozen? ⟨RB, 0, none⟩ = false
  cn : W.cell? ⟨NB, 0, none⟩ = some (.int .i64 n)
  fn : W.frozen? ⟨NB, 0, none⟩ = false
  cl : W.cell? ⟨LB, 0, none⟩ = some (.int .i64 last)
  fl : W.frozen? ⟨LB, 0, none⟩ = false

theorem Held.own {H RB NB LB : Nat} {q r ρ n last : Int} {w W W' : World} {row : Option Nat} (h : Held H RB NB LB q r ρ n last w W) (hg : W.grownBy W' row)
    (hr : ∀ k, row = some k → H ≤ k ∧ ∃ o : Obj, W.heap[k]? = some o ∧ o.isCells = false) : Held H RB NB LB q r ρ n last w W' :=
  have hk := fun k e => (hr k e).2
  ⟨h.b.grown hg (Nat.le_trans h.h0 h.b.size) (fun k e => (hr k e).1), h.h0, cell_kept h.cq hg hk, cell_kept h.cres hg hk, (frozen_kept h.cres hg hk).trans h.fres, cell_kept h.ca hg hk, cell_kept h.cb hg hk,
    cell_kept h.cr hg hk, (frozen_kept h.cr hg hk).trans h.fr, cell_kept h.cn hg hk, (frozen_kept h.cn hg hk).trans h.fn, cell_kept h.cl hg hk, (frozen_kept h.cl hg hk).trans h.fl⟩

theorem far {W : World} {p a : Addr} {v u : Value} (h : p.block ≠ a.block) (hc : W.cell? a = some u) : (W.setCell p v).cell? a = some u := (World.cell?_setCell_other W p a v (fun e : p = a => h (by rw [e]))).trans hc

theorem Held.last {H RB NB LB : Nat} {q r ρ n l : Int} {w W : World} (h : Held H RB NB LB q r ρ n l w W) (h1 : H + 4 ≤ LB) (h2 : LB ≠ RB) (h3 : LB ≠ NB) (x : Int) :
    Held H RB NB LB q r ρ n x w (W.setCell ⟨LB, 0, none⟩ (.int .i64 x)) :=
  ⟨h.b.setCell (p := ⟨LB, 0, none⟩) (by show H ≤ LB; omega) _, h.h0, far (by show LB ≠ H; omega) h.cq, far (by show LB ≠ H + 1; omega) h.cres, by rw [World.frozen?_setCell]; exact h.fres, far (by show LB ≠ H + 1 + 1; omega) h.ca,
    far (by show LB ≠ H + 1 + 1 + 1; omega) h.cb, far h2 h.cr, by rw [World.frozen?_setCell]; exact h.fr, far h3 h.cn, by rw [World.frozen?_setCell]; exact h.fn, World.cell?_setCell_same' _ _ _ (by rw [h.cl]; rfl), by rw [World.frozen?_setCell]; exact h.fl⟩

theorem Held.many {H RB NB LB : Nat} {q r ρ n l : Int} {w W : World} (h : Held H RB NB LB q r ρ n l w W) (h1 : H + 4 ≤ NB) (h2 : NB ≠ RB) (h3 : NB ≠ LB) (x : Int) :
    Held H RB NB LB q r ρ x l w (W.setCell ⟨NB, 0, none⟩ (.int .i64 x)) :=
  ⟨h.b.setCell (p := ⟨NB, 0, none⟩) (by show H ≤ NB; omega) _, h.h0, far (by show NB ≠ H; omega) h.cq, far (by show NB ≠ H + 1; omega) h.cres, by rw [World.frozen?_setCell]; exact h.fres, far (by show NB ≠ H + 1 + 1; omega) h.ca,
    far (by show NB ≠ H + 1 + 1 + 1; omega) h.cb, far h2 h.cr, by rw [World.frozen?_setCell]; exact h.fr, World.cell?_setCell_same' _ _ _ (by rw [h.cn]; rfl), by rw [World.frozen?_setCell]; exact h.fn, far h3 h.cl, by rw [World.frozen?_setCell]; exact h.fl⟩

theorem lt_cell {w : World} {b o : Nat} {v : Value} (h : w.cell? ⟨b, o, none⟩ = some v) : b < w.heap.size := by
  apply Classical.byContradiction
  intro hz
  have hn : w.heap[b]? = none := Array.getElem?_eq_none (by omega)
  simp only [World.cell?] at h
  rw [hn] at h
  simp at h

theorem Held.next {H RB NB LB : Nat} {q r ρ n l : Int} {w W : World} (h : Held H RB NB LB q r ρ n l w W) :
    Held H W.heap.size (W.heap.size + 1) (W.heap.size + 1 + 1) q r 1 0 0 w (((W.alloc (.cells #[.int .i64 1] 3)).alloc (.cells #[.int .i64 0] 3)).alloc (.cells #[.int .i64 0] 26)) := by
  have k {a : Addr} {v : Value} (hc : W.cell? a = some v) := cell_alloc_l (.cells #[.int .i64 0] 26) (cell_alloc_l (.cells #[.int .i64 0] 3) (cell_alloc_l (.cells #[.int .i64 1] 3) hc))
  have kf {a : Addr} {v : Value} (hc : W.cell? a = some v) (hf : W.frozen? a = false) := frozen_alloc_l (.cells #[.int .i64 0] 26) (cell_alloc_l (.cells #[.int .i64 0] 3) (cell_alloc_l (.cells #[.int .i64 1] 3) hc)) (frozen_alloc_l (.cells #[.int .i64 0] 3) (cell_alloc_l (.cells #[.int .i64 1] 3) hc) (frozen_alloc_l (.cells #[.int .i64 1] 3) hc hf))
  have c1 := cell_new_l W (.int .i64 1) 3
  have c2 := cell_new_l (W.alloc (.cells #[.int .i64 1] 3)) (.int .i64 0) 3
  have c3 := cell_new_l ((W.alloc (.cells #[.int .i64 1] 3)).alloc (.cells #[.int .i64 0] 3)) (.int .i64 0) 26
  simp only [World.size_alloc] at c2 c3
  have hsz := Nat.le_trans h.h0 h.b.size
  exact ⟨((h.b.alloc hsz _).alloc (by simp; omega) _).alloc (by simp; omega) _, h.h0, k h.cq, k h.cres, kf h.cres h.fres, k h.ca, k h.cb,
    cell_alloc_l _ (cell_alloc_l _ c1.1), frozen_alloc_l _ (cell_alloc_l _ c1.1) (frozen_alloc_l _ c1.1 c1.2), cell_alloc_l _ c2.1, frozen_alloc_l _ c2.1 c2.2, c3.1, c3.2⟩

theorem mark_lt {W : World} {D : Nat} {o : Obj} (h : W.heap[D]? = some o) : D < W.heap.size := (Array.getElem?_eq_some_iff.1 h).1
theorem mark_alloc {W : World} {D : Nat} {o : Obj} (h : W.heap[D]? = some o) (x : Obj) : (W.alloc x).heap[D]? = some o := (Below.heap_alloc W x D (mark_lt h)).trans h
theorem mark_below {W W' : World} {D : Nat} {o : Obj} (h : W.heap[D]? = some o) (hb : Below W.heap.size W W') : W'.heap[D]? = some o := (hb.block D (mark_lt h)).trans h
theorem mark_kept {W W' : World} {D B : Nat} {o : Obj} {row : Option Nat} (h : W.heap[D]? = some o) (hg : W.grownBy W' row) (hr : ∀ k, row = some k → B ≤ k) (hD : D < B) : W'.heap[D]? = some o :=
  (hg.block D (mark_lt h) (fun e => by have := hr D e.symm; omega)).trans h

theorem lets_many (r : Int) (k : Nat) (h1 : 1 ≤ k) (h4 : k ≤ 4) : (letsTo r (k + 1)).length = (letsTo r k).length + if allowB r k = true then 1 else 0 := by
  have e : allowB r (k : Int) = letB r (k : Int) := by
    unfold allowB letB
    by_cases a : r = 0
    · simp [a]; omega
    · by_cases b : r = k
      · simp [b]; omega
      · simp [a, b]
  rw [lets_succ r k h1, e]
  split
  · simp
  · rfl
theorem many_yes {r : Int} {k : Nat} (h1 : 1 ≤ k) (h4 : k ≤ 4) (ha : allowB r k = true) : (((letsTo r (k + 1)).length : Nat) : Int) = ((letsTo r k).length : Int) + 1 := by
  rw [lets_many r k h1 h4, if_pos ha]; omega
theorem many_no {r : Int} {k : Nat} (h1 : 1 ≤ k) (h4 : k ≤ 4) (ha : allowB r k = false) : (((letsTo r (k + 1)).length : Nat) : Int) = ((letsTo r k).length : Int) := by
  rw [lets_many r k h1 h4, ha]; simp

end Go.Proofs.Ytkkoepidjgmkbaa
