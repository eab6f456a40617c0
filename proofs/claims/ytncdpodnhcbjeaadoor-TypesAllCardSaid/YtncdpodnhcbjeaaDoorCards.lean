/-
  DERIVED. GIVEN WITH THE SEED: THE CARDS: each row of YtncdpodnhcbjeaaDoorRows.lean that lists a variable, with what it lists TIED to the program's text (the seventh form; the later family's looks); each row that meets fmt, with fmt's text TOLD by the authors' own Lean function (tested against real Go, not proved from fmt's source: count such statements apart). THE CARD IS WHAT COUNTS. Prove the row's statement (the work); the ties are given (YtncdpodnhcbjeaaDoorTie.lean); close each card by the builder's one call (the guide's Derived/Test/ToyasCard.lean, 'card_holds'). Laid BY PROGRAM, IN A SANDBOX (cutbox-door.mjs). By AI agents, Wed Nov 11 2026. No macro, syntax, notation, axiom, sorry.
-/
import Derived.Test.YtncdpodnhcbjeaaDoorRows
import GoSem.ClaimSeven
namespace Go.Proofs.YtncdpodnhcbjeaaDoor
namespace Rows

/-- THE TIED CARD OF 'warderlaw14.TypesCharges'. -/
def typesChargesCard : Claim7 := { stood := { row := typesChargesRow, standIns := [], harness := (true, "05f07163418a04013b4e7571377bc0cc64cd6894b8a50d5a509e716f13ef2606"), looks := false }, kinds := [], alts := [], laidByText := true, laidKinds := [.widerDeep], laidTests := true, laidLooks := .later }
def TypesChargesCardSaid : Prop := Claim7.holds Tryd.pinned (.plain (OpenSpec.ofChange typesChargesSpec)) typesChargesCard

/-- THE TIED CARD OF 'warderlaw14.TypesRises'. -/
def typesRisesCard : Claim7 := { stood := { row := typesRisesRow, standIns := [], harness := (true, "05f07163418a04013b4e7571377bc0cc64cd6894b8a50d5a509e716f13ef2606"), looks := false }, kinds := [], alts := [], laidByText := true, laidKinds := [.widerDeep], laidTests := true, laidLooks := .later }
def TypesRisesCardSaid : Prop := Claim7.holds Tryd.pinned (.plain (OpenSpec.ofChange typesRisesSpec)) typesRisesCard

/-- THE TIED CARD OF 'warderlaw14.TypesPayloads'. -/
def typesPayloadsCard : Claim7 := { stood := { row := typesPayloadsRow, standIns := [], harness := (true, "05f07163418a04013b4e7571377bc0cc64cd6894b8a50d5a509e716f13ef2606"), looks := false }, kinds := [], alts := [], laidByText := true, laidKinds := [.widerDeep], laidTests := true, laidLooks := .later }
def TypesPayloadsCardSaid : Prop := Claim7.holds Tryd.pinned (.plain (OpenSpec.ofChange typesPayloadsSpec)) typesPayloadsCard

/-- THE TIED CARD OF 'warderlaw14.TypesAre'. -/
def typesAreCard : Claim7 := { stood := { row := typesAreRow, standIns := [], harness := (true, "05f07163418a04013b4e7571377bc0cc64cd6894b8a50d5a509e716f13ef2606"), looks := false }, kinds := [], alts := [], laidByText := true, laidKinds := [.widerDeep], laidTests := true, laidLooks := .later }
def TypesAreCardSaid : Prop := Claim7.holds Tryd.pinned (.plain (OpenSpec.ofChange typesAreSpec)) typesAreCard

/-- THE TIED CARD OF 'warderlaw14.TypesNames'. -/
def typesNamesCard : Claim7 := { stood := { row := typesNamesRow, standIns := [], harness := (true, "05f07163418a04013b4e7571377bc0cc64cd6894b8a50d5a509e716f13ef2606"), looks := false }, kinds := [], alts := [], laidByText := true, laidKinds := [.widerDeep], laidTests := true, laidLooks := .later }
def TypesNamesCardSaid : Prop := Claim7.holds Tryd.pinned (.plain (OpenSpec.ofChange typesNamesSpec)) typesNamesCard

/-- THE TIED CARD OF 'warderlaw14.TypesAll'. -/
def typesAllCard : Claim7 := { stood := { row := typesAllRow, standIns := [], harness := (true, "05f07163418a04013b4e7571377bc0cc64cd6894b8a50d5a509e716f13ef2606"), looks := false }, kinds := [], alts := [], laidByText := true, laidKinds := [.widerDeep], laidTests := true, laidLooks := .later }
def TypesAllCardSaid : Prop := Claim7.holds Tryd.pinned (.plain (OpenSpec.ofChange typesAllSpec)) typesAllCard

/-- THE SECOND FORM's CARD OF 'warderlaw14.TypesCharges'. -/
def typesChargesUptoCard : Claim7 := { stood := { row := typesChargesUptoRow, standIns := [], harness := (true, "05f07163418a04013b4e7571377bc0cc64cd6894b8a50d5a509e716f13ef2606"), looks := false }, kinds := [], alts := [], laidByText := true, laidKinds := [.widerDeep], laidTests := true, laidLooks := .later }
def TypesChargesUptoCardSaid : Prop := Claim7.holds Tryd.pinned (.plain (OpenSpec.upto typesChargesSpec)) typesChargesUptoCard

/-- THE SECOND FORM's CARD OF 'warderlaw14.TypesRises'. -/
def typesRisesUptoCard : Claim7 := { stood := { row := typesRisesUptoRow, standIns := [], harness := (true, "05f07163418a04013b4e7571377bc0cc64cd6894b8a50d5a509e716f13ef2606"), looks := false }, kinds := [], alts := [], laidByText := true, laidKinds := [.widerDeep], laidTests := true, laidLooks := .later }
def TypesRisesUptoCardSaid : Prop := Claim7.holds Tryd.pinned (.plain (OpenSpec.upto typesRisesSpec)) typesRisesUptoCard

/-- THE SECOND FORM's CARD OF 'warderlaw14.TypesPayloads'. -/
def typesPayloadsUptoCard : Claim7 := { stood := { row := typesPayloadsUptoRow, standIns := [], harness := (true, "05f07163418a04013b4e7571377bc0cc64cd6894b8a50d5a509e716f13ef2606"), looks := false }, kinds := [], alts := [], laidByText := true, laidKinds := [.widerDeep], laidTests := true, laidLooks := .later }
def TypesPayloadsUptoCardSaid : Prop := Claim7.holds Tryd.pinned (.plain (OpenSpec.upto typesPayloadsSpec)) typesPayloadsUptoCard

/-- THE SECOND FORM's CARD OF 'warderlaw14.TypesAre'. -/
def typesAreUptoCard : Claim7 := { stood := { row := typesAreUptoRow, standIns := [], harness := (true, "05f07163418a04013b4e7571377bc0cc64cd6894b8a50d5a509e716f13ef2606"), looks := false }, kinds := [], alts := [], laidByText := true, laidKinds := [.widerDeep], laidTests := true, laidLooks := .later }
def TypesAreUptoCardSaid : Prop := Claim7.holds Tryd.pinned (.plain (OpenSpec.upto typesAreSpec)) typesAreUptoCard

/-- THE SECOND FORM's CARD OF 'warderlaw14.TypesNames'. -/
def typesNamesUptoCard : Claim7 := { stood := { row := typesNamesUptoRow, standIns := [], harness := (true, "05f07163418a04013b4e7571377bc0cc64cd6894b8a50d5a509e716f13ef2606"), looks := false }, kinds := [], alts := [], laidByText := true, laidKinds := [.widerDeep], laidTests := true, laidLooks := .later }
def TypesNamesUptoCardSaid : Prop := Claim7.holds Tryd.pinned (.plain (OpenSpec.upto typesNamesSpec)) typesNamesUptoCard

/-- THE SECOND FORM's CARD OF 'warderlaw14.TypesAll'. -/
def typesAllUptoCard : Claim7 := { stood := { row := typesAllUptoRow, standIns := [], harness := (true, "05f07163418a04013b4e7571377bc0cc64cd6894b8a50d5a509e716f13ef2606"), looks := false }, kinds := [], alts := [], laidByText := true, laidKinds := [.widerDeep], laidTests := true, laidLooks := .later }
def TypesAllUptoCardSaid : Prop := Claim7.holds Tryd.pinned (.plain (OpenSpec.upto typesAllSpec)) typesAllUptoCard
end Rows
end Go.Proofs.YtncdpodnhcbjeaaDoor
