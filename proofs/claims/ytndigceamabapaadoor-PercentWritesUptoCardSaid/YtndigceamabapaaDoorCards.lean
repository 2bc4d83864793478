/-
  DERIVED. GIVEN WITH THE SEED: THE CARDS: each row of YtndigceamabapaaDoorRows.lean that lists a variable, with what it lists TIED to the program's text (the seventh form; the later family's looks); each row that meets fmt, with fmt's text TOLD by the authors' own Lean function (tested against real Go, not proved from fmt's source: count such statements apart). THE CARD IS WHAT COUNTS. Prove the row's statement (the work); the ties are given (YtndigceamabapaaDoorTie.lean); close each card by the builder's one call (the guide's Derived/Test/ToyasCard.lean, 'card_holds'). Laid BY PROGRAM, IN A SANDBOX (cutbox-door.mjs). By AI agents, Wed Nov 11 2026. No macro, syntax, notation, axiom, sorry.
-/
import Derived.Test.YtndigceamabapaaDoorRows
import GoSem.ClaimSeven
namespace Go.Proofs.YtndigceamabapaaDoor
namespace Rows

/-- THE TIED CARD OF 'legationlaw15.PercentEncodes'. -/
def percentEncodesCard : Claim7 := { stood := { row := percentEncodesRow, standIns := [], harness := (true, "1db5cd85f3469b522f7c71f1e679dae35c29792ecf91cf915b1a4cdb0ee34b77"), looks := false }, kinds := [], alts := [], laidByText := true, laidKinds := [.data, .pinned], laidTests := true, laidLooks := .later }
def PercentEncodesCardSaid : Prop := Claim7.holds Tryd.pinned (.plain (OpenSpec.ofChange percentEncodesSpec)) percentEncodesCard

/-- THE TIED CARD OF 'legationlaw15.PercentDecodes'. -/
def percentDecodesCard : Claim7 := { stood := { row := percentDecodesRow, standIns := [], harness := (true, "1db5cd85f3469b522f7c71f1e679dae35c29792ecf91cf915b1a4cdb0ee34b77"), looks := false }, kinds := [], alts := [], laidByText := true, laidKinds := [.data, .pinned], laidTests := true, laidLooks := .later }
def PercentDecodesCardSaid : Prop := Claim7.holds Tryd.pinned (.plain (OpenSpec.ofChange percentDecodesSpec)) percentDecodesCard

/-- THE TIED CARD OF 'legationlaw15.PercentJoins'. -/
def percentJoinsCard : Claim7 := { stood := { row := percentJoinsRow, standIns := [], harness := (true, "1db5cd85f3469b522f7c71f1e679dae35c29792ecf91cf915b1a4cdb0ee34b77"), looks := false }, kinds := [], alts := [], laidByText := true, laidKinds := [.data, .pinned], laidTests := true, laidLooks := .later }
def PercentJoinsCardSaid : Prop := Claim7.holds Tryd.pinned (.plain (OpenSpec.ofChange percentJoinsSpec)) percentJoinsCard

/-- THE TIED CARD OF 'legationlaw15.PercentReads'. -/
def percentReadsCard : Claim7 := { stood := { row := percentReadsRow, standIns := [], harness := (true, "1db5cd85f3469b522f7c71f1e679dae35c29792ecf91cf915b1a4cdb0ee34b77"), looks := false }, kinds := [], alts := [], laidByText := true, laidKinds := [.data, .pinned], laidTests := true, laidLooks := .later }
def PercentReadsCardSaid : Prop := Claim7.holds Tryd.pinned (.plain (OpenSpec.ofChange percentReadsSpec)) percentReadsCard

/-- THE TIED CARD OF 'legationlaw15.PercentWrites'. -/
def percentWritesCard : Claim7 := { stood := { row := percentWritesRow, standIns := [], harness := (true, "1db5cd85f3469b522f7c71f1e679dae35c29792ecf91cf915b1a4cdb0ee34b77"), looks := false }, kinds := [], alts := [], laidByText := true, laidKinds := [.data, .pinned], laidTests := true, laidLooks := .later }
def PercentWritesCardSaid : Prop := Claim7.holds Tryd.pinned (.plain (OpenSpec.ofChange percentWritesSpec)) percentWritesCard

/-- THE SECOND FORM's CARD OF 'legationlaw15.PercentEncodes'. -/
def percentEncodesUptoCard : Claim7 := { stood := { row := percentEncodesUptoRow, standIns := [], harness := (true, "1db5cd85f3469b522f7c71f1e679dae35c29792ecf91cf915b1a4cdb0ee34b77"), looks := false }, kinds := [], alts := [], laidByText := true, laidKinds := [.data, .pinned], laidTests := true, laidLooks := .later }
def PercentEncodesUptoCardSaid : Prop := Claim7.holds Tryd.pinned (.plain (OpenSpec.upto percentEncodesSpec)) percentEncodesUptoCard

/-- THE SECOND FORM's CARD OF 'legationlaw15.PercentDecodes'. -/
def percentDecodesUptoCard : Claim7 := { stood := { row := percentDecodesUptoRow, standIns := [], harness := (true, "1db5cd85f3469b522f7c71f1e679dae35c29792ecf91cf915b1a4cdb0ee34b77"), looks := false }, kinds := [], alts := [], laidByText := true, laidKinds := [.data, .pinned], laidTests := true, laidLooks := .later }
def PercentDecodesUptoCardSaid : Prop := Claim7.holds Tryd.pinned (.plain (OpenSpec.upto percentDecodesSpec)) percentDecodesUptoCard

/-- THE SECOND FORM's CARD OF 'legationlaw15.PercentJoins'. -/
def percentJoinsUptoCard : Claim7 := { stood := { row := percentJoinsUptoRow, standIns := [], harness := (true, "1db5cd85f3469b522f7c71f1e679dae35c29792ecf91cf915b1a4cdb0ee34b77"), looks := false }, kinds := [], alts := [], laidByText := true, laidKinds := [.data, .pinned], laidTests := true, laidLooks := .later }
def PercentJoinsUptoCardSaid : Prop := Claim7.holds Tryd.pinned (.plain (OpenSpec.upto percentJoinsSpec)) percentJoinsUptoCard

/-- THE SECOND FORM's CARD OF 'legationlaw15.PercentReads'. -/
def percentReadsUptoCard : Claim7 := { stood := { row := percentReadsUptoRow, standIns := [], harness := (true, "1db5cd85f3469b522f7c71f1e679dae35c29792ecf91cf915b1a4cdb0ee34b77"), looks := false }, kinds := [], alts := [], laidByText := true, laidKinds := [.data, .pinned], laidTests := true, laidLooks := .later }
def PercentReadsUptoCardSaid : Prop := Claim7.holds Tryd.pinned (.plain (OpenSpec.upto percentReadsSpec)) percentReadsUptoCard

/-- THE SECOND FORM's CARD OF 'legationlaw15.PercentWrites'. -/
def percentWritesUptoCard : Claim7 := { stood := { row := percentWritesUptoRow, standIns := [], harness := (true, "1db5cd85f3469b522f7c71f1e679dae35c29792ecf91cf915b1a4cdb0ee34b77"), looks := false }, kinds := [], alts := [], laidByText := true, laidKinds := [.data, .pinned], laidTests := true, laidLooks := .later }
def PercentWritesUptoCardSaid : Prop := Claim7.holds Tryd.pinned (.plain (OpenSpec.upto percentWritesSpec)) percentWritesUptoCard
end Rows
end Go.Proofs.YtndigceamabapaaDoor
