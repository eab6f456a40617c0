/-
  The law PermOf returns true for every four bytes and type: Of and Default are as the reference says. No conditions.
-/
import Derived.Test.YtneiclolkfcboaaRows
import Derived.WalkKit
import Derived.ProofKit
import Derived.OpenShut
import Derived.ShutString
import Derived.ChangeOld
import Derived.Below
import Derived.Lib.SmallJoins
import Derived.Laws.IdiomArrays
import Derived.Test.YtneiclolkfcboaaL5
namespace Go.Proofs.Ytneiclolkfcboaa.permOf
open Go.ChangeShapes Go.WideShapes Go.ChangeAt Go.RowKit
open Go.ChangeMaps (open_string shut_string)
open Go.Joins
set_option linter.unusedVariables false

theorem own : ownKnob Try.prog.godebug = none := by kernel_rfl
theorem laidOut : laidOutB Try.prog = true := by kernel_rfl
theorem cells35 : Try.prog.cellsOf 35 = 4 := by kernel_rfl
theorem cells27 : Try.prog.cellsOf 27 = 1 := by kernel_rfl

set_option maxRecDepth 100000 in
theorem lifted (os : Os) (started : os.Started) (H : Type) (enc : TypeId × Value → H) :
    ReturnsInHanded {} Try.checked os 5 .any (Rows.permOfSpec.pre6 enc Try.prog Try.f5 Rows.permOfRow.domain false) (Rows.permOfSpec.post enc Try.prog Try.f5 false true false false) := by
  refine returnsInHanded_of_change (C := Try.checked) own started (by kernel_rfl) Try.func5
    (ChangeSpec.witness6 (enc := enc) (C := Try.checked) false ⟨#[], #[.agg #[.int .u8 0, .int .u8 0, .int .u8 0, .int .u8 0], .int .i64 0], []⟩ 8 (by kernel_rfl) (by kernel_rfl) (by kernel_rfl) (by kernel_rfl)) ?_
  intro W base args ds gs before hval0 hW hcnd _
  have hval : ∀ (j : Nat) t v, Try.f5.params[j]? = some t → args[j]? = some v → Value.okWide Try.prog W .any base t v := hval0
  have hW' := hW
  obtain ⟨p, q, hA0, hV, rfl, hfz, hnd⟩ := hW
  have hA : DataW.TrodAll enc Try.prog W 0 (fun _ => true) true Try.f5.params.toList args.toList ds p := hA0
  rw [Try.params5] at hA hval
  obtain ⟨v0, vs0, d0, ds0, p0, q0, hargs, rfl, rfl, h0, r0⟩ := trodAll_cons hA
  obtain ⟨v1, vs1, d1, ds1, p1, q1, rfl, rfl, rfl, h1, r1⟩ := trodAll_cons r0
  obtain ⟨rfl, rfl, rfl⟩ := trodAll_nil r1
  obtain rfl : args = #[v0, v1] := by cases args; simp_all
  obtain ⟨rfl, rfl⟩ := trodVars_none hV
  obtain ⟨cs0, rfl, hsz0, _⟩ : ∃ cs, v0 = .agg cs ∧ cs.size = Try.prog.cellsOf 35 ∧ Row.okWide Try.prog W .any base 35 cs := by
    have := hval 0 35 v0 rfl rfl
    simpa [Value.okWide, Try.underlying35] using this
  rw [cells35] at hsz0
  obtain ⟨c00, c10, c20, c30, rfl⟩ := array4 hsz0
  obtain ⟨fuel0, hf0⟩ := h0
  obtain ⟨y00, y10, y20, y30, m0, hx0, hy00, hy10, hy20, hy30⟩ := trod_array4 Try.underlying35 cells27 hf0
  obtain ⟨a00, e00, rfl, w00⟩ := DataW.trod_int Try.underlying27 hy00
  obtain ⟨a10, e10, rfl, w10⟩ := DataW.trod_int Try.underlying27 hy10
  obtain ⟨a20, e20, rfl, w20⟩ := DataW.trod_int Try.underlying27 hy20
  obtain ⟨a30, e30, rfl, w30⟩ := DataW.trod_int Try.underlying27 hy30
  simp at e00 e10 e20 e30
  subst e00 e10 e20 e30
  simp only [Prod.mk.injEq] at hx0
  obtain ⟨rfl, rfl⟩ := hx0
  obtain ⟨a1, rfl, rfl, rfl, w1⟩ := open_int Try.underlying3 (hval 1 3 v1 rfl rfl) h1
  clear hA0 hval0
  refine (law5 a00 w00 a10 w10 a20 w20 a30 w30 a1 W).mono fun e W' ⟨he, bel⟩ => ?_
  subst he
  exact ⟨_, rfl, _, _, _, [], [], [], hW', trodAll_mk1 (shut_bool Try.underlying4 _), (trodAll_cons_mk (⟨2, by simp [DataW.trod, Value.cells, Try.underlying35, Try.underlying27, cells35, cells27, w00, w10, w20, w30, show List.range 4 = [0, 1, 2, 3] from rfl]⟩ : DataW.Trod enc Try.prog W' 0 (fun b => decide (b < W.heap.size)) true 35 (.agg #[.int .u8 a00, .int .u8 a10, .int .u8 a20, .int .u8 a30]) (.agg [.lit (.int .u8 a00), .lit (.int .u8 a10), .lit (.int .u8 a20), .lit (.int .u8 a30)]) []) (trodAll_cons_mk (shut_int Try.underlying3 w1) trodAll_mk0)), rfl, bel.frame _, fun h => by cases h⟩

/-- The statement. -/
theorem proved : Rows.PermOfSaid :=
  OpenClaim.holds_of_wide 5 Try.f5 rfl rfl rfl rfl rfl rfl rfl ⟨rfl, rfl, rfl, rfl, rfl⟩ rfl rfl rfl rfl rfl (by kernel_rfl) Try.func5 (by kernel_rfl)
    (of_decide_eq_true (by kernel_rfl)) (by unfold Func.isWrapper; first | (rw [if_pos (by decide +kernel)]; kernel_rfl) | (rw [if_neg (by decide +kernel)]; exact ⟨rfl, rfl⟩))
    (fun os started H enc _ => lifted os started H enc)
#print axioms proved
end Go.Proofs.Ytneiclolkfcboaa.permOf
