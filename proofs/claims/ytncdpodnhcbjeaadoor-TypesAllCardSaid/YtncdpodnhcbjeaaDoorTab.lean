/-
  The listed table (warder/types.rows), opened: what each of its twenty cells holds, out of the row's own list; and a world for the witness.
-/
import Derived.Test.YtncdpodnhcbjeaaDoorWalkA
import Derived.ProofKit
import Derived.OpenShut
import Derived.Deep.DeepHandedRow
import Derived.Lib.LaidTab
import Derived.Lib.SmallJoins
namespace Go.Proofs.YtncdpodnhcbjeaaDoor
open Go.ChangeShapes Go.WideShapes Go.ChangeAt Go.RowKit

theorem gRows : Tryd.prog.globalNamed "warder/types.rows" = some 0 := by kernel_rfl
theorem gRowsType : (Tryd.prog.globals[0]?).map (·.type) = some 44 := by kernel_rfl
theorem cells44 : Tryd.prog.cellsOf 44 = 20 := by kernel_rfl
theorem cells40 : Tryd.prog.cellsOf 40 = 4 := by kernel_rfl
theorem cells3 : Tryd.prog.cellsOf 3 = 1 := by kernel_rfl
theorem cells9 : Tryd.prog.cellsOf 9 = 1 := by kernel_rfl

/-- One row of the table, opened. -/
theorem row_open {H : Type} {enc : TypeId × Value → H} {w : World} {base : Nat} {spare : Nat → Bool} {held : Bool} {m : Nat} {cs : List Value} {y : DataW H × List MemPlace}
    (h : DataW.trod enc Tryd.prog w base spare held m 40 cs = some y) :
    ∃ (s : ByteArray) (a b c : Int), cs = [.string s, .int .i64 a, .int .i64 b, .int .i64 c] ∧ y.1 = .agg [.lit (.string s.data.toList), .lit (.int .i64 a), .lit (.int .i64 b), .lit (.int .i64 c)] := by
  obtain ⟨y0, y1, y2, y3, n, rfl, hl, t0, t1, t2, t3⟩ := Joins.trod_struct4 Tryd.underlying40 h
  rw [cells40] at hl
  match cs, hl with
  | [c0, c1, c2, c3], _ =>
    simp only [cells3, cells9] at t0 t1 t2 t3
    obtain ⟨s, e0, rfl, _⟩ := DataW.trod_string Tryd.underlying9 t0
    obtain ⟨a, e1, rfl, _⟩ := DataW.trod_int Tryd.underlying3 t1
    obtain ⟨b, e2, rfl, _⟩ := DataW.trod_int Tryd.underlying3 t2
    obtain ⟨c, e3, rfl, _⟩ := DataW.trod_int Tryd.underlying3 t3
    simp at e0 e1 e2 e3
    subst e0 e1 e2 e3
    exact ⟨s, a, b, c, rfl, rfl⟩

theorem bytes_eq {s : ByteArray} {l : List UInt8} (h : s.data.toList = l) : s = ⟨l.toArray⟩ := by
  obtain ⟨⟨d⟩⟩ := s
  simp at h
  subst h
  rfl

theorem tab_of_laid {W : World} (h0 : laidMetH Tryd.prog Rows.typesChargesRow.laid W) : Tab W := by
  have h : laidMet Tryd.prog [("warder/types.rows", Rows.laid_warder_types_rows)] W := h0
  obtain ⟨ps, ⟨g', t', cs, fuel, p, q, hg', ht', hvar, hd, _, _⟩, _⟩ := h
  obtain rfl := Option.some.inj (gRows.symm.trans hg')
  obtain rfl := Option.some.inj (gRowsType.symm.trans ht')
  obtain ⟨xs, m, _, hx, hl, hn, hel⟩ := DataW.trod_array Tryd.underlying44 hd
  rw [cells44] at hl
  rw [cells40] at hel
  match xs, hn with
  | [x0, x1, x2, x3, x4], _ =>
    simp only [Prod.mk.injEq, DataW.agg.injEq, List.map_cons, List.map_nil, Rows.laid_warder_types_rows, List.cons.injEq, and_true] at hx
    obtain ⟨⟨e0, e1, e2, e3, e4⟩, _⟩ := hx
    have g0 := hel 0 (by omega)
    have g1 := hel 1 (by omega)
    have g2 := hel 2 (by omega)
    have g3 := hel 3 (by omega)
    have g4 := hel 4 (by omega)
    obtain ⟨l⟩ := cs
    match l, hl with
    | [c0, c1, c2, c3, c4, c5, c6, c7, c8, c9, c10, c11, c12, c13, c14, c15, c16, c17, c18, c19], _ =>
      obtain ⟨s0, p0, q0, r0, k0, d0⟩ := row_open (show DataW.trod _ Tryd.prog W 0 _ false m 40 _ = some x0 from g0)
      obtain ⟨s1, p1, q1, r1, k1, d1⟩ := row_open (show DataW.trod _ Tryd.prog W 0 _ false m 40 _ = some x1 from g1)
      obtain ⟨s2, p2, q2, r2, k2, d2⟩ := row_open (show DataW.trod _ Tryd.prog W 0 _ false m 40 _ = some x2 from g2)
      obtain ⟨s3, p3, q3, r3, k3, d3⟩ := row_open (show DataW.trod _ Tryd.prog W 0 _ false m 40 _ = some x3 from g3)
      obtain ⟨s4, p4, q4, r4, k4, d4⟩ := row_open (show DataW.trod _ Tryd.prog W 0 _ false m 40 _ = some x4 from g4)
      rw [d0] at e0
      simp only [DataW.agg.injEq, List.cons.injEq, DataW.lit.injEq, Lit.string.injEq, Lit.int.injEq, true_and, and_true] at e0
      obtain ⟨n0, a0, b0, m0⟩ := e0
      simp only [List.cons.injEq, List.drop_zero, List.take_succ_cons, List.take_zero, and_true, Nat.reduceMul] at k0
      obtain ⟨f0, f1, f2, f3⟩ := k0
      rw [d1] at e1
      simp only [DataW.agg.injEq, List.cons.injEq, DataW.lit.injEq, Lit.string.injEq, Lit.int.injEq, true_and, and_true] at e1
      obtain ⟨n1, a1, b1, m1⟩ := e1
      simp only [List.cons.injEq, List.drop_succ_cons, List.drop_zero, List.take_succ_cons, List.take_zero, and_true, Nat.reduceMul] at k1
      obtain ⟨f4, f5, f6, f7⟩ := k1
      rw [d2] at e2
      simp only [DataW.agg.injEq, List.cons.injEq, DataW.lit.injEq, Lit.string.injEq, Lit.int.injEq, true_and, and_true] at e2
      obtain ⟨n2, a2, b2, m2⟩ := e2
      simp only [List.cons.injEq, List.drop_succ_cons, List.drop_zero, List.take_succ_cons, List.take_zero, and_true, Nat.reduceMul] at k2
      obtain ⟨f8, f9, f10, f11⟩ := k2
      rw [d3] at e3
      simp only [DataW.agg.injEq, List.cons.injEq, DataW.lit.injEq, Lit.string.injEq, Lit.int.injEq, true_and, and_true] at e3
      obtain ⟨n3, a3, b3, m3⟩ := e3
      simp only [List.cons.injEq, List.drop_succ_cons, List.drop_zero, List.take_succ_cons, List.take_zero, and_true, Nat.reduceMul] at k3
      obtain ⟨f12, f13, f14, f15⟩ := k3
      rw [d4] at e4
      simp only [DataW.agg.injEq, List.cons.injEq, DataW.lit.injEq, Lit.string.injEq, Lit.int.injEq, true_and, and_true] at e4
      obtain ⟨n4, a4, b4, m4⟩ := e4
      simp only [List.cons.injEq, List.drop_succ_cons, List.drop_zero, List.take_succ_cons, List.take_zero, and_true, Nat.reduceMul] at k4
      obtain ⟨f16, f17, f18, f19⟩ := k4
      have hc : ∀ i, W.cell? ⟨0, i, none⟩ = _ := World.var?_cell gRows hvar
      have z : 0 < W.heap.size := by
        have := hc 0
        simp only [World.cell?] at this
        apply Classical.byContradiction
        intro hz
        have hn : W.heap[0]? = none := Array.getElem?_eq_none (by omega)
        rw [hn] at this
        simp at this
      have b0' := bytes_eq n0.symm
      have b1' := bytes_eq n1.symm
      have b2' := bytes_eq n2.symm
      have b3' := bytes_eq n3.symm
      have b4' := bytes_eq n4.symm
      have u0 := hc 0
      have u1 := hc 1
      have u2 := hc 2
      have u3 := hc 3
      have u4 := hc 4
      have u5 := hc 5
      have u6 := hc 6
      have u7 := hc 7
      have u8 := hc 8
      have u9 := hc 9
      have u10 := hc 10
      have u11 := hc 11
      have u12 := hc 12
      have u13 := hc 13
      have u14 := hc 14
      have u15 := hc 15
      have u16 := hc 16
      have u17 := hc 17
      have u18 := hc 18
      have u19 := hc 19
      exact {
        size := z
        name t ht := by
          match t, ht with
          | 0, _ => exact u0.trans (by show some c0 = _; rw [f0, b0']; rfl)
          | 1, _ => exact u4.trans (by show some c4 = _; rw [f4, b1']; rfl)
          | 2, _ => exact u8.trans (by show some c8 = _; rw [f8, b2']; rfl)
          | 3, _ => exact u12.trans (by show some c12 = _; rw [f12, b3']; rfl)
          | 4, _ => exact u16.trans (by show some c16 = _; rw [f16, b4']; rfl)
        least t ht := by
          match t, ht with
          | 0, _ => exact u1.trans (by show some c1 = _; rw [f1, ← a0]; rfl)
          | 1, _ => exact u5.trans (by show some c5 = _; rw [f5, ← a1]; rfl)
          | 2, _ => exact u9.trans (by show some c9 = _; rw [f9, ← a2]; rfl)
          | 3, _ => exact u13.trans (by show some c13 = _; rw [f13, ← a3]; rfl)
          | 4, _ => exact u17.trans (by show some c17 = _; rw [f17, ← a4]; rfl)
        most t ht := by
          match t, ht with
          | 0, _ => exact u2.trans (by show some c2 = _; rw [f2, ← b0]; rfl)
          | 1, _ => exact u6.trans (by show some c6 = _; rw [f6, ← b1]; rfl)
          | 2, _ => exact u10.trans (by show some c10 = _; rw [f10, ← b2]; rfl)
          | 3, _ => exact u14.trans (by show some c14 = _; rw [f14, ← b3]; rfl)
          | 4, _ => exact u18.trans (by show some c18 = _; rw [f18, ← b4]; rfl)
        can t ht := by
          match t, ht with
          | 0, _ => exact u3.trans (by show some c3 = _; rw [f3, ← m0]; rfl)
          | 1, _ => exact u7.trans (by show some c7 = _; rw [f7, ← m1]; rfl)
          | 2, _ => exact u11.trans (by show some c11 = _; rw [f11, ← m2]; rfl)
          | 3, _ => exact u15.trans (by show some c15 = _; rw [f15, ← m3]; rfl)
          | 4, _ => exact u19.trans (by show some c19 = _; rw [f19, ← m4]; rfl)
      }

end Go.Proofs.YtncdpodnhcbjeaaDoor
