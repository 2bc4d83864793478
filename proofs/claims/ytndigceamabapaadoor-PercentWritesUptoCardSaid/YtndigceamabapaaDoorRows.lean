/-
  NARROWER THAN 'FOR EVERY INPUT', by the rows' own cells (each row's printed sentence says how): PercentEncodes: laid · PercentDecodes: laid · PercentJoins: laid · PercentReads: laid · PercentWrites: laid.
  DERIVED. THE GIVEN ROWS OF THIS SEAT. 5 by the template 'for every input the law returns true; each argument reads behind the call as it read before'; 0 by the template 'total and deterministic' (their statements: YtndigceamabapaaDoorTotals.lean).
  GIVEN WITH THE SEED: the statements are not yours to turn. If you find one false, say at which input.
  Laid BY PROGRAM, IN A SANDBOX (cutbox-rows.mjs): the forced cells as the released guide's own fill.sh prints them over the translation a9003759c018b141… (all of the seat's roots in one cut). By AI agents, Wed Nov 11 2026. No macro, syntax, notation, axiom, sorry.
-/
import Derived.Test.YtndigceamabapaaDoorChecked
import GoSem.PinnedTables
import GoSem.Claim
import GoSem.ClaimJoined
import GoSem.ClaimMapViews
import Derived.JoinedTies
import Derived.KernelRfl
namespace Go.Proofs.YtndigceamabapaaDoor
/- THE CELL 'sum', in the pinned program and in every row, IS THE sha256 OF THE DUMP (.gsa) THAT YtndigceamabapaaDoorProg.lean LOADS. Nothing in Lean hashes anything: it is a label: what it is worth is what the hold of that sum in a sandbox is worth. -/
noncomputable def Tryd.pinned : Pinned := { name := "ytndigceamabapaadoor", sum := "a9003759c018b1412b3c5775119b0fa6d223af00856cf611b718e2b329a5a459", checked := Tryd.checked }
namespace Rows
def none {H : Type} : Left H := { results := [], args := [] }

/- WHAT THE LISTED PACKAGE-LEVEL VARIABLES READ AS WHEN THE CALL BEGINS. Each datum BY PROGRAM (the guide's laid-datum.mjs) off the statement by which the dump's own 'gosem.cut.vars' lays the variable. In a bare row this is a premise. The card (YtndigceamabapaaDoorCards.lean) ties it to the program's text. -/
def laid_unicode_utf8_acceptRanges {H : Type} : DataW H := .agg [.agg [.lit (.int .u8 128), .lit (.int .u8 191)], .agg [.lit (.int .u8 160), .lit (.int .u8 191)], .agg [.lit (.int .u8 128), .lit (.int .u8 159)], .agg [.lit (.int .u8 144), .lit (.int .u8 191)], .agg [.lit (.int .u8 128), .lit (.int .u8 143)], .agg [.lit (.int .u8 0), .lit (.int .u8 0)], .agg [.lit (.int .u8 0), .lit (.int .u8 0)], .agg [.lit (.int .u8 0), .lit (.int .u8 0)], .agg [.lit (.int .u8 0), .lit (.int .u8 0)], .agg [.lit (.int .u8 0), .lit (.int .u8 0)], .agg [.lit (.int .u8 0), .lit (.int .u8 0)], .agg [.lit (.int .u8 0), .lit (.int .u8 0)], .agg [.lit (.int .u8 0), .lit (.int .u8 0)], .agg [.lit (.int .u8 0), .lit (.int .u8 0)], .agg [.lit (.int .u8 0), .lit (.int .u8 0)], .agg [.lit (.int .u8 0), .lit (.int .u8 0)]]
/-- One of Go's own tables, pinned by name: the form's constant. -/
def laid_unicode_utf8_first : DataW Unit := Go.Pinned.utf8First

/-- 'legationlaw15.PercentEncodes': WHATEVER THE INPUT: true; the input reads as it did. -/
def percentEncodesSpec : ChangeSpec := { name := "percentEncodes", fn := fun _ => fun
  | [d] => { results := [.lit (.bool true)], args := [d] }
  | _ => none }
def percentEncodesRow : OpenClaim := { program := "ytndigceamabapaadoor", sum := "a9003759c018b1412b3c5775119b0fa6d223af00856cf611b718e2b329a5a459", func := "legation/legationlaw15.PercentEncodes", spec := "percentEncodes", inPlace := ["internal/bytealg.IndexByteString", "internal/bytealg.CountString", "internal/bytealg.IndexString"], named := ["unicode/utf8.first", "unicode/utf8.acceptRanges", "internal/bytealg.MaxLen"], apart := false, laid := [("unicode/utf8.acceptRanges", laid_unicode_utf8_acceptRanges), ("unicode/utf8.first", laid_unicode_utf8_first)] }
def PercentEncodesSaid : Prop := percentEncodesRow.holds Tryd.pinned (OpenSpec.ofChange percentEncodesSpec)

/-- ITS FALSE NEIGHBOUR: 'it returns false'. Refute it at one input. -/
def percentEncodesWrong : ChangeSpec := { name := "percentEncodes", fn := fun _ => fun
  | [d] => { results := [.lit (.bool false)], args := [d] }
  | _ => none }
def PercentEncodesWrongFalsely : Prop := percentEncodesRow.holds Tryd.pinned (OpenSpec.ofChange percentEncodesWrong)

/-- 'legationlaw15.PercentDecodes': WHATEVER THE INPUT: true; the input reads as it did. -/
def percentDecodesSpec : ChangeSpec := { name := "percentDecodes", fn := fun _ => fun
  | [d] => { results := [.lit (.bool true)], args := [d] }
  | _ => none }
def percentDecodesRow : OpenClaim := { program := "ytndigceamabapaadoor", sum := "a9003759c018b1412b3c5775119b0fa6d223af00856cf611b718e2b329a5a459", func := "legation/legationlaw15.PercentDecodes", spec := "percentDecodes", inPlace := ["internal/bytealg.IndexByteString", "internal/bytealg.CountString", "internal/bytealg.IndexString"], named := ["unicode/utf8.first", "unicode/utf8.acceptRanges", "internal/bytealg.MaxLen"], apart := false, laid := [("unicode/utf8.acceptRanges", laid_unicode_utf8_acceptRanges), ("unicode/utf8.first", laid_unicode_utf8_first)] }
def PercentDecodesSaid : Prop := percentDecodesRow.holds Tryd.pinned (OpenSpec.ofChange percentDecodesSpec)

/-- ITS FALSE NEIGHBOUR: 'it returns false'. Refute it at one input. -/
def percentDecodesWrong : ChangeSpec := { name := "percentDecodes", fn := fun _ => fun
  | [d] => { results := [.lit (.bool false)], args := [d] }
  | _ => none }
def PercentDecodesWrongFalsely : Prop := percentDecodesRow.holds Tryd.pinned (OpenSpec.ofChange percentDecodesWrong)

/-- 'legationlaw15.PercentJoins': WHATEVER THE INPUT: true; the input reads as it did. -/
def percentJoinsSpec : ChangeSpec := { name := "percentJoins", fn := fun _ => fun
  | [d1, d2] => { results := [.lit (.bool true)], args := [d1, d2] }
  | _ => none }
def percentJoinsRow : OpenClaim := { program := "ytndigceamabapaadoor", sum := "a9003759c018b1412b3c5775119b0fa6d223af00856cf611b718e2b329a5a459", func := "legation/legationlaw15.PercentJoins", spec := "percentJoins", inPlace := ["internal/bytealg.CountString", "internal/bytealg.IndexByteString", "internal/bytealg.IndexString"], named := ["unicode/utf8.first", "unicode/utf8.acceptRanges", "internal/bytealg.MaxLen"], apart := false, laid := [("unicode/utf8.acceptRanges", laid_unicode_utf8_acceptRanges), ("unicode/utf8.first", laid_unicode_utf8_first)] }
def PercentJoinsSaid : Prop := percentJoinsRow.holds Tryd.pinned (OpenSpec.ofChange percentJoinsSpec)

/-- ITS FALSE NEIGHBOUR: 'it returns false'. Refute it at one input. -/
def percentJoinsWrong : ChangeSpec := { name := "percentJoins", fn := fun _ => fun
  | [d1, d2] => { results := [.lit (.bool false)], args := [d1, d2] }
  | _ => none }
def PercentJoinsWrongFalsely : Prop := percentJoinsRow.holds Tryd.pinned (OpenSpec.ofChange percentJoinsWrong)

/-- 'legationlaw15.PercentReads': WHATEVER THE INPUT: true; the input reads as it did. -/
def percentReadsSpec : ChangeSpec := { name := "percentReads", fn := fun _ => fun
  | [d1, d2] => { results := [.lit (.bool true)], args := [d1, d2] }
  | _ => none }
def percentReadsRow : OpenClaim := { program := "ytndigceamabapaadoor", sum := "a9003759c018b1412b3c5775119b0fa6d223af00856cf611b718e2b329a5a459", func := "legation/legationlaw15.PercentReads", spec := "percentReads", inPlace := ["internal/bytealg.CountString", "internal/bytealg.IndexByteString", "internal/bytealg.IndexString"], named := ["unicode/utf8.first", "unicode/utf8.acceptRanges", "internal/bytealg.MaxLen"], apart := false, laid := [("unicode/utf8.acceptRanges", laid_unicode_utf8_acceptRanges), ("unicode/utf8.first", laid_unicode_utf8_first)] }
def PercentReadsSaid : Prop := percentReadsRow.holds Tryd.pinned (OpenSpec.ofChange percentReadsSpec)

/-- ITS FALSE NEIGHBOUR: 'it returns false'. Refute it at one input. -/
def percentReadsWrong : ChangeSpec := { name := "percentReads", fn := fun _ => fun
  | [d1, d2] => { results := [.lit (.bool false)], args := [d1, d2] }
  | _ => none }
def PercentReadsWrongFalsely : Prop := percentReadsRow.holds Tryd.pinned (OpenSpec.ofChange percentReadsWrong)

/-- 'legationlaw15.PercentWrites': WHATEVER THE INPUT: true; the input reads as it did. -/
def percentWritesSpec : ChangeSpec := { name := "percentWrites", fn := fun _ => fun
  | [d] => { results := [.lit (.bool true)], args := [d] }
  | _ => none }
def percentWritesRow : OpenClaim := { program := "ytndigceamabapaadoor", sum := "a9003759c018b1412b3c5775119b0fa6d223af00856cf611b718e2b329a5a459", func := "legation/legationlaw15.PercentWrites", spec := "percentWrites", inPlace := ["internal/abi.NoEscape", "internal/bytealg.MakeNoZero", "internal/bytealg.CountString", "internal/bytealg.IndexByteString", "internal/bytealg.IndexString"], named := ["unicode/utf8.first", "unicode/utf8.acceptRanges", "internal/bytealg.MaxLen"], apart := false, laid := [("unicode/utf8.acceptRanges", laid_unicode_utf8_acceptRanges), ("unicode/utf8.first", laid_unicode_utf8_first)] }
def PercentWritesSaid : Prop := percentWritesRow.holds Tryd.pinned (OpenSpec.ofChange percentWritesSpec)

/-- ITS FALSE NEIGHBOUR: 'it returns false'. Refute it at one input. -/
def percentWritesWrong : ChangeSpec := { name := "percentWrites", fn := fun _ => fun
  | [d] => { results := [.lit (.bool false)], args := [d] }
  | _ => none }
def PercentWritesWrongFalsely : Prop := percentWritesRow.holds Tryd.pinned (OpenSpec.ofChange percentWritesWrong)

/- THE SECOND FORM. 'bulk': how many values and letters a reading holds, each counted each time it is reached (what is shared counts as often as it is met; a slice's spare places count too). A statement '..UptoSaid' is the law's where the arguments, and the package variables that the reading takes, are together of bulk at most 1048576: NARROWER than '..Said'. Prove '..Said' where nothing that the law and all that it calls make is longer than what came in: it says more and counts as full. Else prove '..UptoSaid'. A law counts once. -/
mutual
def uptoBulk {H : Type} : DataW H → Nat
  | .lit (.string bytes) => bytes.length + 1
  | .lit _ => 1
  | .nil => 1
  | .ptr d => uptoBulk d + 1
  | .slice elems spare => uptoBulkAll elems + uptoBulkAll spare + 1
  | .agg parts => uptoBulkAll parts + 1
  | .iface _ d => uptoBulk d + 1
  | .map entries => uptoBulkEntries entries + 1
  | .held _ => 1
def uptoBulkAll {H : Type} : List (DataW H) → Nat
  | [] => 0
  | d :: r => uptoBulk d + uptoBulkAll r
def uptoBulkEntries {H : Type} : List (Lit × DataW H) → Nat
  | [] => 0
  | x :: r => uptoBulkEntry x + uptoBulkEntries r
def uptoBulkEntry {H : Type} : Lit × DataW H → Nat
  | (.string bytes, d) => bytes.length + uptoBulk d + 1
  | (_, d) => uptoBulk d + 1
 end
def uptoSmall : (H : Type) → List (DataW H) → Bool := fun _ ds => decide (uptoBulkAll ds ≤ 1048576)
def OpenSpec.upto (s : _root_.Go.ChangeSpec) : _root_.Go.OpenSpec := { _root_.Go.OpenSpec.ofChange s with cond := some uptoSmall }

/-- 'legationlaw15.PercentEncodes', WHERE WHAT IT READS IS OF BULK AT MOST 1048576: true; the input reads as it did. -/
def percentEncodesUptoRow : OpenClaim := { program := "ytndigceamabapaadoor", sum := "a9003759c018b1412b3c5775119b0fa6d223af00856cf611b718e2b329a5a459", func := "legation/legationlaw15.PercentEncodes", spec := "percentEncodes", inPlace := ["internal/bytealg.IndexByteString", "internal/bytealg.CountString", "internal/bytealg.IndexString"], named := ["unicode/utf8.first", "unicode/utf8.acceptRanges", "internal/bytealg.MaxLen"], apart := false, laid := [("unicode/utf8.acceptRanges", laid_unicode_utf8_acceptRanges), ("unicode/utf8.first", laid_unicode_utf8_first)], narrowed := true }
def PercentEncodesUptoSaid : Prop := percentEncodesUptoRow.holds Tryd.pinned (OpenSpec.upto percentEncodesSpec)

/-- 'legationlaw15.PercentDecodes', WHERE WHAT IT READS IS OF BULK AT MOST 1048576: true; the input reads as it did. -/
def percentDecodesUptoRow : OpenClaim := { program := "ytndigceamabapaadoor", sum := "a9003759c018b1412b3c5775119b0fa6d223af00856cf611b718e2b329a5a459", func := "legation/legationlaw15.PercentDecodes", spec := "percentDecodes", inPlace := ["internal/bytealg.IndexByteString", "internal/bytealg.CountString", "internal/bytealg.IndexString"], named := ["unicode/utf8.first", "unicode/utf8.acceptRanges", "internal/bytealg.MaxLen"], apart := false, laid := [("unicode/utf8.acceptRanges", laid_unicode_utf8_acceptRanges), ("unicode/utf8.first", laid_unicode_utf8_first)], narrowed := true }
def PercentDecodesUptoSaid : Prop := percentDecodesUptoRow.holds Tryd.pinned (OpenSpec.upto percentDecodesSpec)

/-- 'legationlaw15.PercentJoins', WHERE WHAT IT READS IS OF BULK AT MOST 1048576: true; the input reads as it did. -/
def percentJoinsUptoRow : OpenClaim := { program := "ytndigceamabapaadoor", sum := "a9003759c018b1412b3c5775119b0fa6d223af00856cf611b718e2b329a5a459", func := "legation/legationlaw15.PercentJoins", spec := "percentJoins", inPlace := ["internal/bytealg.CountString", "internal/bytealg.IndexByteString", "internal/bytealg.IndexString"], named := ["unicode/utf8.first", "unicode/utf8.acceptRanges", "internal/bytealg.MaxLen"], apart := false, laid := [("unicode/utf8.acceptRanges", laid_unicode_utf8_acceptRanges), ("unicode/utf8.first", laid_unicode_utf8_first)], narrowed := true }
def PercentJoinsUptoSaid : Prop := percentJoinsUptoRow.holds Tryd.pinned (OpenSpec.upto percentJoinsSpec)

/-- 'legationlaw15.PercentReads', WHERE WHAT IT READS IS OF BULK AT MOST 1048576: true; the input reads as it did. -/
def percentReadsUptoRow : OpenClaim := { program := "ytndigceamabapaadoor", sum := "a9003759c018b1412b3c5775119b0fa6d223af00856cf611b718e2b329a5a459", func := "legation/legationlaw15.PercentReads", spec := "percentReads", inPlace := ["internal/bytealg.CountString", "internal/bytealg.IndexByteString", "internal/bytealg.IndexString"], named := ["unicode/utf8.first", "unicode/utf8.acceptRanges", "internal/bytealg.MaxLen"], apart := false, laid := [("unicode/utf8.acceptRanges", laid_unicode_utf8_acceptRanges), ("unicode/utf8.first", laid_unicode_utf8_first)], narrowed := true }
def PercentReadsUptoSaid : Prop := percentReadsUptoRow.holds Tryd.pinned (OpenSpec.upto percentReadsSpec)

/-- 'legationlaw15.PercentWrites', WHERE WHAT IT READS IS OF BULK AT MOST 1048576: true; the input reads as it did. -/
def percentWritesUptoRow : OpenClaim := { program := "ytndigceamabapaadoor", sum := "a9003759c018b1412b3c5775119b0fa6d223af00856cf611b718e2b329a5a459", func := "legation/legationlaw15.PercentWrites", spec := "percentWrites", inPlace := ["internal/abi.NoEscape", "internal/bytealg.MakeNoZero", "internal/bytealg.CountString", "internal/bytealg.IndexByteString", "internal/bytealg.IndexString"], named := ["unicode/utf8.first", "unicode/utf8.acceptRanges", "internal/bytealg.MaxLen"], apart := false, laid := [("unicode/utf8.acceptRanges", laid_unicode_utf8_acceptRanges), ("unicode/utf8.first", laid_unicode_utf8_first)], narrowed := true }
def PercentWritesUptoSaid : Prop := percentWritesUptoRow.holds Tryd.pinned (OpenSpec.upto percentWritesSpec)

end Rows
end Go.Proofs.YtndigceamabapaaDoor
