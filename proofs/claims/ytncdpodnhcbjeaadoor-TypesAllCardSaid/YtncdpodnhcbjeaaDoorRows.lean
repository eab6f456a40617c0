/-
  NARROWER THAN 'FOR EVERY INPUT', by the rows' own cells (each row's printed sentence says how): TypesCharges: laid · TypesRises: laid · TypesPayloads: laid · TypesAre: laid · TypesNames: laid · TypesAll: laid.
  DERIVED. THE GIVEN ROWS OF THIS SEAT. 6 by the template 'for every input the law returns true; each argument reads behind the call as it read before'; 0 by the template 'total and deterministic' (their statements: YtncdpodnhcbjeaaDoorTotals.lean).
  GIVEN WITH THE SEED: the statements are not yours to turn. If you find one false, say at which input.
  Laid BY PROGRAM, IN A SANDBOX (cutbox-rows.mjs): the forced cells as the released guide's own fill.sh prints them over the translation 3489f27200911f1e… (all of the seat's roots in one cut). By AI agents, Wed Nov 11 2026. No macro, syntax, notation, axiom, sorry.
-/
import Derived.Test.YtncdpodnhcbjeaaDoorChecked
import GoSem.Claim
import GoSem.ClaimJoined
import GoSem.ClaimMapViews
import Derived.JoinedTies
import Derived.KernelRfl
namespace Go.Proofs.YtncdpodnhcbjeaaDoor
/- THE CELL 'sum', in the pinned program and in every row, IS THE sha256 OF THE DUMP (.gsa) THAT YtncdpodnhcbjeaaDoorProg.lean LOADS. Nothing in Lean hashes anything: it is a label: what it is worth is what the hold of that sum in a sandbox is worth. -/
noncomputable def Tryd.pinned : Pinned := { name := "ytncdpodnhcbjeaadoor", sum := "3489f27200911f1ed263b64ad7db120eb91b08724bf253a1481f9bc787363d4f", checked := Tryd.checked }
namespace Rows
def none {H : Type} : Left H := { results := [], args := [] }

/- WHAT THE LISTED PACKAGE-LEVEL VARIABLES READ AS WHEN THE CALL BEGINS. Each datum BY PROGRAM (the guide's laid-datum.mjs) off the statement by which the dump's own 'gosem.cut.vars' lays the variable. In a bare row this is a premise. The card (YtncdpodnhcbjeaaDoorCards.lean) ties it to the program's text. -/
def laid_warder_types_rows {H : Type} : DataW H := .agg [.agg [.lit (.string []), .lit (.int .i64 0), .lit (.int .i64 0), .lit (.int .i64 0)], .agg [.lit (.string [117, 115, 101, 114]), .lit (.int .i64 1), .lit (.int .i64 128), .lit (.int .i64 3)], .agg [.lit (.string [108, 111, 103, 111, 110]), .lit (.int .i64 1), .lit (.int .i64 64), .lit (.int .i64 2)], .agg [.lit (.string [98, 105, 103]), .lit (.int .i64 1), .lit (.int .i64 256), .lit (.int .i64 3)], .agg [.lit (.string [107, 101, 121, 114, 105, 110, 103]), .lit (.int .i64 0), .lit (.int .i64 0), .lit (.int .i64 5)]]

/-- 'warderlaw14.TypesCharges': WHATEVER THE INPUT: true; the input reads as it did. -/
def typesChargesSpec : ChangeSpec := { name := "typesCharges", fn := fun _ => fun
  | [d1, d2, d3] => { results := [.lit (.bool true)], args := [d1, d2, d3] }
  | _ => none }
def typesChargesRow : OpenClaim := { program := "ytncdpodnhcbjeaadoor", sum := "3489f27200911f1ed263b64ad7db120eb91b08724bf253a1481f9bc787363d4f", func := "warder/warderlaw14.TypesCharges", spec := "typesCharges", named := ["warder/types.rows"], apart := false, laid := [("warder/types.rows", laid_warder_types_rows)] }
def TypesChargesSaid : Prop := typesChargesRow.holds Tryd.pinned (OpenSpec.ofChange typesChargesSpec)

/-- ITS FALSE NEIGHBOUR: 'it returns false'. Refute it at one input. -/
def typesChargesWrong : ChangeSpec := { name := "typesCharges", fn := fun _ => fun
  | [d1, d2, d3] => { results := [.lit (.bool false)], args := [d1, d2, d3] }
  | _ => none }
def TypesChargesWrongFalsely : Prop := typesChargesRow.holds Tryd.pinned (OpenSpec.ofChange typesChargesWrong)

/-- 'warderlaw14.TypesRises': WHATEVER THE INPUT: true; the input reads as it did. -/
def typesRisesSpec : ChangeSpec := { name := "typesRises", fn := fun _ => fun
  | [d1, d2, d3, d4] => { results := [.lit (.bool true)], args := [d1, d2, d3, d4] }
  | _ => none }
def typesRisesRow : OpenClaim := { program := "ytncdpodnhcbjeaadoor", sum := "3489f27200911f1ed263b64ad7db120eb91b08724bf253a1481f9bc787363d4f", func := "warder/warderlaw14.TypesRises", spec := "typesRises", named := ["warder/types.rows"], apart := false, laid := [("warder/types.rows", laid_warder_types_rows)] }
def TypesRisesSaid : Prop := typesRisesRow.holds Tryd.pinned (OpenSpec.ofChange typesRisesSpec)

/-- ITS FALSE NEIGHBOUR: 'it returns false'. Refute it at one input. -/
def typesRisesWrong : ChangeSpec := { name := "typesRises", fn := fun _ => fun
  | [d1, d2, d3, d4] => { results := [.lit (.bool false)], args := [d1, d2, d3, d4] }
  | _ => none }
def TypesRisesWrongFalsely : Prop := typesRisesRow.holds Tryd.pinned (OpenSpec.ofChange typesRisesWrong)

/-- 'warderlaw14.TypesPayloads': WHATEVER THE INPUT: true; the input reads as it did. -/
def typesPayloadsSpec : ChangeSpec := { name := "typesPayloads", fn := fun _ => fun
  | [d1, d2] => { results := [.lit (.bool true)], args := [d1, d2] }
  | _ => none }
def typesPayloadsRow : OpenClaim := { program := "ytncdpodnhcbjeaadoor", sum := "3489f27200911f1ed263b64ad7db120eb91b08724bf253a1481f9bc787363d4f", func := "warder/warderlaw14.TypesPayloads", spec := "typesPayloads", named := ["warder/types.rows"], apart := false, laid := [("warder/types.rows", laid_warder_types_rows)] }
def TypesPayloadsSaid : Prop := typesPayloadsRow.holds Tryd.pinned (OpenSpec.ofChange typesPayloadsSpec)

/-- ITS FALSE NEIGHBOUR: 'it returns false'. Refute it at one input. -/
def typesPayloadsWrong : ChangeSpec := { name := "typesPayloads", fn := fun _ => fun
  | [d1, d2] => { results := [.lit (.bool false)], args := [d1, d2] }
  | _ => none }
def TypesPayloadsWrongFalsely : Prop := typesPayloadsRow.holds Tryd.pinned (OpenSpec.ofChange typesPayloadsWrong)

/-- 'warderlaw14.TypesAre': WHATEVER THE INPUT: true; the input reads as it did. -/
def typesAreSpec : ChangeSpec := { name := "typesAre", fn := fun _ => fun
  | [d] => { results := [.lit (.bool true)], args := [d] }
  | _ => none }
def typesAreRow : OpenClaim := { program := "ytncdpodnhcbjeaadoor", sum := "3489f27200911f1ed263b64ad7db120eb91b08724bf253a1481f9bc787363d4f", func := "warder/warderlaw14.TypesAre", spec := "typesAre", named := ["warder/types.rows"], apart := false, laid := [("warder/types.rows", laid_warder_types_rows)] }
def TypesAreSaid : Prop := typesAreRow.holds Tryd.pinned (OpenSpec.ofChange typesAreSpec)

/-- ITS FALSE NEIGHBOUR: 'it returns false'. Refute it at one input. -/
def typesAreWrong : ChangeSpec := { name := "typesAre", fn := fun _ => fun
  | [d] => { results := [.lit (.bool false)], args := [d] }
  | _ => none }
def TypesAreWrongFalsely : Prop := typesAreRow.holds Tryd.pinned (OpenSpec.ofChange typesAreWrong)

/-- 'warderlaw14.TypesNames': WHATEVER THE INPUT: true; the input reads as it did. -/
def typesNamesSpec : ChangeSpec := { name := "typesNames", fn := fun _ => fun
  | [d] => { results := [.lit (.bool true)], args := [d] }
  | _ => none }
def typesNamesRow : OpenClaim := { program := "ytncdpodnhcbjeaadoor", sum := "3489f27200911f1ed263b64ad7db120eb91b08724bf253a1481f9bc787363d4f", func := "warder/warderlaw14.TypesNames", spec := "typesNames", unfollowed := true, recurses := true, named := ["warder/types.rows"], apart := false, laid := [("warder/types.rows", laid_warder_types_rows)] }
def TypesNamesSaid : Prop := typesNamesRow.holds Tryd.pinned (OpenSpec.ofChange typesNamesSpec)

/-- ITS FALSE NEIGHBOUR: 'it returns false'. Refute it at one input. -/
def typesNamesWrong : ChangeSpec := { name := "typesNames", fn := fun _ => fun
  | [d] => { results := [.lit (.bool false)], args := [d] }
  | _ => none }
def TypesNamesWrongFalsely : Prop := typesNamesRow.holds Tryd.pinned (OpenSpec.ofChange typesNamesWrong)

/-- 'warderlaw14.TypesAll': WHATEVER THE INPUT: true; the input reads as it did. -/
def typesAllSpec : ChangeSpec := { name := "typesAll", fn := fun _ => fun
  | [] => { results := [.lit (.bool true)], args := [] }
  | _ => none }
def typesAllRow : OpenClaim := { program := "ytncdpodnhcbjeaadoor", sum := "3489f27200911f1ed263b64ad7db120eb91b08724bf253a1481f9bc787363d4f", func := "warder/warderlaw14.TypesAll", spec := "typesAll", unfollowed := true, recurses := true, named := ["warder/types.rows"], apart := false, laid := [("warder/types.rows", laid_warder_types_rows)] }
def TypesAllSaid : Prop := typesAllRow.holds Tryd.pinned (OpenSpec.ofChange typesAllSpec)

/-- ITS FALSE NEIGHBOUR: 'it returns false'. Refute it at one input. -/
def typesAllWrong : ChangeSpec := { name := "typesAll", fn := fun _ => fun
  | [] => { results := [.lit (.bool false)], args := [] }
  | _ => none }
def TypesAllWrongFalsely : Prop := typesAllRow.holds Tryd.pinned (OpenSpec.ofChange typesAllWrong)

/- THE SECOND FORM. 'bulk': how many values and letters a reading holds, each counted each time it is reached (what is shared counts as often as it is met; a slice's spare places count too). A statement '..UptoSaid' is the law's where the arguments, and the package variables that the reading takes, are together of bulk at most 1048576: NARROWER than '..Said'. Prove '..Said' where nothing that the law and all that it calls make is longer than what came in: it says more and counts as full. Else prove '..UptoSaid'. A law counts once. -/
mutual
def uptoBulk {H : Type} : DataW H → Nat
  | .lit (.string bytes) => bytes.length + 1
  | .lit _ => 1
  | .nil => 1
  | .ptr d => uptoBulk d + 1
  | .slice elems spare => uptoBulkAll elems + uptoBulkAll spare + 1
  | .agg parts => uptoBulkAll parts + 1
  | .iface _ d => uptoBulk d + 1
  | .map entries => uptoBulkEntries entries + 1
  | .held _ => 1
def uptoBulkAll {H : Type} : List (DataW H) → Nat
  | [] => 0
  | d :: r => uptoBulk d + uptoBulkAll r
def uptoBulkEntries {H : Type} : List (Lit × DataW H) → Nat
  | [] => 0
  | x :: r => uptoBulkEntry x + uptoBulkEntries r
def uptoBulkEntry {H : Type} : Lit × DataW H → Nat
  | (.string bytes, d) => bytes.length + uptoBulk d + 1
  | (_, d) => uptoBulk d + 1
 end
def uptoSmall : (H : Type) → List (DataW H) → Bool := fun _ ds => decide (uptoBulkAll ds ≤ 1048576)
def OpenSpec.upto (s : _root_.Go.ChangeSpec) : _root_.Go.OpenSpec := { _root_.Go.OpenSpec.ofChange s with cond := some uptoSmall }

/-- 'warderlaw14.TypesCharges', WHERE WHAT IT READS IS OF BULK AT MOST 1048576: true; the input reads as it did. -/
def typesChargesUptoRow : OpenClaim := { program := "ytncdpodnhcbjeaadoor", sum := "3489f27200911f1ed263b64ad7db120eb91b08724bf253a1481f9bc787363d4f", func := "warder/warderlaw14.TypesCharges", spec := "typesCharges", named := ["warder/types.rows"], apart := false, laid := [("warder/types.rows", laid_warder_types_rows)], narrowed := true }
def TypesChargesUptoSaid : Prop := typesChargesUptoRow.holds Tryd.pinned (OpenSpec.upto typesChargesSpec)

/-- 'warderlaw14.TypesRises', WHERE WHAT IT READS IS OF BULK AT MOST 1048576: true; the input reads as it did. -/
def typesRisesUptoRow : OpenClaim := { program := "ytncdpodnhcbjeaadoor", sum := "3489f27200911f1ed263b64ad7db120eb91b08724bf253a1481f9bc787363d4f", func := "warder/warderlaw14.TypesRises", spec := "typesRises", named := ["warder/types.rows"], apart := false, laid := [("warder/types.rows", laid_warder_types_rows)], narrowed := true }
def TypesRisesUptoSaid : Prop := typesRisesUptoRow.holds Tryd.pinned (OpenSpec.upto typesRisesSpec)

/-- 'warderlaw14.TypesPayloads', WHERE WHAT IT READS IS OF BULK AT MOST 1048576: true; the input reads as it did. -/
def typesPayloadsUptoRow : OpenClaim := { program := "ytncdpodnhcbjeaadoor", sum := "3489f27200911f1ed263b64ad7db120eb91b08724bf253a1481f9bc787363d4f", func := "warder/warderlaw14.TypesPayloads", spec := "typesPayloads", named := ["warder/types.rows"], apart := false, laid := [("warder/types.rows", laid_warder_types_rows)], narrowed := true }
def TypesPayloadsUptoSaid : Prop := typesPayloadsUptoRow.holds Tryd.pinned (OpenSpec.upto typesPayloadsSpec)

/-- 'warderlaw14.TypesAre', WHERE WHAT IT READS IS OF BULK AT MOST 1048576: true; the input reads as it did. -/
def typesAreUptoRow : OpenClaim := { program := "ytncdpodnhcbjeaadoor", sum := "3489f27200911f1ed263b64ad7db120eb91b08724bf253a1481f9bc787363d4f", func := "warder/warderlaw14.TypesAre", spec := "typesAre", named := ["warder/types.rows"], apart := false, laid := [("warder/types.rows", laid_warder_types_rows)], narrowed := true }
def TypesAreUptoSaid : Prop := typesAreUptoRow.holds Tryd.pinned (OpenSpec.upto typesAreSpec)

/-- 'warderlaw14.TypesNames', WHERE WHAT IT READS IS OF BULK AT MOST 1048576: true; the input reads as it did. -/
def typesNamesUptoRow : OpenClaim := { program := "ytncdpodnhcbjeaadoor", sum := "3489f27200911f1ed263b64ad7db120eb91b08724bf253a1481f9bc787363d4f", func := "warder/warderlaw14.TypesNames", spec := "typesNames", unfollowed := true, recurses := true, named := ["warder/types.rows"], apart := false, laid := [("warder/types.rows", laid_warder_types_rows)], narrowed := true }
def TypesNamesUptoSaid : Prop := typesNamesUptoRow.holds Tryd.pinned (OpenSpec.upto typesNamesSpec)

/-- 'warderlaw14.TypesAll', WHERE WHAT IT READS IS OF BULK AT MOST 1048576: true; the input reads as it did. -/
def typesAllUptoRow : OpenClaim := { program := "ytncdpodnhcbjeaadoor", sum := "3489f27200911f1ed263b64ad7db120eb91b08724bf253a1481f9bc787363d4f", func := "warder/warderlaw14.TypesAll", spec := "typesAll", unfollowed := true, recurses := true, named := ["warder/types.rows"], apart := false, laid := [("warder/types.rows", laid_warder_types_rows)], narrowed := true }
def TypesAllUptoSaid : Prop := typesAllUptoRow.holds Tryd.pinned (OpenSpec.upto typesAllSpec)

end Rows
end Go.Proofs.YtncdpodnhcbjeaaDoor
