/-
  No cell of these rows narrows 'for every input' (looked for: loops, veiled, ifaces, maps, wideKeys, modest, calm, conditions, laid).
  DERIVED. THE GIVEN ROWS OF THIS SEAT. 5 by the template 'for every input the law returns true; each argument reads behind the call as it read before'; 0 by the template 'total and deterministic' (their statements: YtdjdempnolhepaaTotals.lean).
  GIVEN WITH THE SEED: the statements are not yours to turn. If you find one false, say at which input.
  Laid BY PROGRAM, IN A SANDBOX (cutbox-rows.mjs): the forced cells as the released guide's own fill.sh prints them over the translation 474bd7e18749b4c9… (all of the seat's roots in one cut). By AI agents, Wed Nov 11 2026. No macro, syntax, notation, axiom, sorry.
-/
import Derived.Test.YtdjdempnolhepaaChecked
import GoSem.Claim
import GoSem.ClaimJoined
import GoSem.ClaimMapViews
import Derived.JoinedTies
import Derived.KernelRfl
namespace Go.Proofs.Ytdjdempnolhepaa
/- THE CELL 'sum', in the pinned program and in every row, IS THE sha256 OF THE DUMP (.gsa) THAT YtdjdempnolhepaaProg.lean LOADS. Nothing in Lean hashes anything: it is a label: what it is worth is what the hold of that sum in a sandbox is worth. -/
noncomputable def Try.pinned : Pinned := { name := "ytdjdempnolhepaa", sum := "474bd7e18749b4c9e3fbf1d943417a701b28cf3bc2331b8a74ac5308478fdf2f", checked := Try.checked }
namespace Rows
def none {H : Type} : Left H := { results := [], args := [] }

/-- 'grapevinelaw03.SchemaTells': WHATEVER THE INPUT: true; the input reads as it did. -/
def schemaTellsSpec : ChangeSpec := { name := "schemaTells", fn := fun _ => fun
  | [d1, d2, d3] => { results := [.lit (.bool true)], args := [d1, d2, d3] }
  | _ => none }
def schemaTellsRow : OpenClaim := { program := "ytdjdempnolhepaa", sum := "474bd7e18749b4c9e3fbf1d943417a701b28cf3bc2331b8a74ac5308478fdf2f", func := "grapevine/grapevinelaw03.SchemaTells", spec := "schemaTells", apart := false }
def SchemaTellsSaid : Prop := schemaTellsRow.holds Try.pinned (OpenSpec.ofChange schemaTellsSpec)

/-- ITS FALSE NEIGHBOUR: 'it returns false'. Refute it at one input. -/
def schemaTellsWrong : ChangeSpec := { name := "schemaTells", fn := fun _ => fun
  | [d1, d2, d3] => { results := [.lit (.bool false)], args := [d1, d2, d3] }
  | _ => none }
def SchemaTellsWrongFalsely : Prop := schemaTellsRow.holds Try.pinned (OpenSpec.ofChange schemaTellsWrong)

/-- 'grapevinelaw03.SchemaBring': WHATEVER THE INPUT: true; the input reads as it did. -/
def schemaBringSpec : ChangeSpec := { name := "schemaBring", fn := fun _ => fun
  | [d1, d2] => { results := [.lit (.bool true)], args := [d1, d2] }
  | _ => none }
def schemaBringRow : OpenClaim := { program := "ytdjdempnolhepaa", sum := "474bd7e18749b4c9e3fbf1d943417a701b28cf3bc2331b8a74ac5308478fdf2f", func := "grapevine/grapevinelaw03.SchemaBring", spec := "schemaBring", apart := false }
def SchemaBringSaid : Prop := schemaBringRow.holds Try.pinned (OpenSpec.ofChange schemaBringSpec)

/-- ITS FALSE NEIGHBOUR: 'it returns false'. Refute it at one input. -/
def schemaBringWrong : ChangeSpec := { name := "schemaBring", fn := fun _ => fun
  | [d1, d2] => { results := [.lit (.bool false)], args := [d1, d2] }
  | _ => none }
def SchemaBringWrongFalsely : Prop := schemaBringRow.holds Try.pinned (OpenSpec.ofChange schemaBringWrong)

/-- 'grapevinelaw03.SchemaLimits': WHATEVER THE INPUT: true; the input reads as it did. -/
def schemaLimitsSpec : ChangeSpec := { name := "schemaLimits", fn := fun _ => fun
  | [d1, d2, d3, d4] => { results := [.lit (.bool true)], args := [d1, d2, d3, d4] }
  | _ => none }
def schemaLimitsRow : OpenClaim := { program := "ytdjdempnolhepaa", sum := "474bd7e18749b4c9e3fbf1d943417a701b28cf3bc2331b8a74ac5308478fdf2f", func := "grapevine/grapevinelaw03.SchemaLimits", spec := "schemaLimits", apart := false }
def SchemaLimitsSaid : Prop := schemaLimitsRow.holds Try.pinned (OpenSpec.ofChange schemaLimitsSpec)

/-- ITS FALSE NEIGHBOUR: 'it returns false'. Refute it at one input. -/
def schemaLimitsWrong : ChangeSpec := { name := "schemaLimits", fn := fun _ => fun
  | [d1, d2, d3, d4] => { results := [.lit (.bool false)], args := [d1, d2, d3, d4] }
  | _ => none }
def SchemaLimitsWrongFalsely : Prop := schemaLimitsRow.holds Try.pinned (OpenSpec.ofChange schemaLimitsWrong)

/-- 'grapevinelaw03.SchemaSame': WHATEVER THE INPUT: true; the input reads as it did. -/
def schemaSameSpec : ChangeSpec := { name := "schemaSame", fn := fun _ => fun
  | [d1, d2, d3] => { results := [.lit (.bool true)], args := [d1, d2, d3] }
  | _ => none }
def schemaSameRow : OpenClaim := { program := "ytdjdempnolhepaa", sum := "474bd7e18749b4c9e3fbf1d943417a701b28cf3bc2331b8a74ac5308478fdf2f", func := "grapevine/grapevinelaw03.SchemaSame", spec := "schemaSame", apart := false }
def SchemaSameSaid : Prop := schemaSameRow.holds Try.pinned (OpenSpec.ofChange schemaSameSpec)

/-- ITS FALSE NEIGHBOUR: 'it returns false'. Refute it at one input. -/
def schemaSameWrong : ChangeSpec := { name := "schemaSame", fn := fun _ => fun
  | [d1, d2, d3] => { results := [.lit (.bool false)], args := [d1, d2, d3] }
  | _ => none }
def SchemaSameWrongFalsely : Prop := schemaSameRow.holds Try.pinned (OpenSpec.ofChange schemaSameWrong)

/-- 'grapevinelaw03.SchemaRight': WHATEVER THE INPUT: true; the input reads as it did. -/
def schemaRightSpec : ChangeSpec := { name := "schemaRight", fn := fun _ => fun
  | [d1, d2] => { results := [.lit (.bool true)], args := [d1, d2] }
  | _ => none }
def schemaRightRow : OpenClaim := { program := "ytdjdempnolhepaa", sum := "474bd7e18749b4c9e3fbf1d943417a701b28cf3bc2331b8a74ac5308478fdf2f", func := "grapevine/grapevinelaw03.SchemaRight", spec := "schemaRight", apart := false }
def SchemaRightSaid : Prop := schemaRightRow.holds Try.pinned (OpenSpec.ofChange schemaRightSpec)

/-- ITS FALSE NEIGHBOUR: 'it returns false'. Refute it at one input. -/
def schemaRightWrong : ChangeSpec := { name := "schemaRight", fn := fun _ => fun
  | [d1, d2] => { results := [.lit (.bool false)], args := [d1, d2] }
  | _ => none }
def SchemaRightWrongFalsely : Prop := schemaRightRow.holds Try.pinned (OpenSpec.ofChange schemaRightWrong)

/- THE SECOND FORM. 'bulk': how many values and letters a reading holds, each counted each time it is reached (what is shared counts as often as it is met; a slice's spare places count too). A statement '..UptoSaid' is the law's where the arguments, and the package variables that the reading takes, are together of bulk at most 1048576: NARROWER than '..Said'. Prove '..Said' where nothing that the law and all that it calls make is longer than what came in: it says more and counts as full. Else prove '..UptoSaid'. A law counts once. -/
mutual
def uptoBulk {H : Type} : DataW H → Nat
  | .lit (.string bytes) => bytes.length + 1
  | .lit _ => 1
  | .nil => 1
  | .ptr d => uptoBulk d + 1
  | .slice elems spare => uptoBulkAll elems + uptoBulkAll spare + 1
  | .agg parts => uptoBulkAll parts + 1
  | .iface _ d => uptoBulk d + 1
  | .map entries => uptoBulkEntries entries + 1
  | .held _ => 1
def uptoBulkAll {H : Type} : List (DataW H) → Nat
  | [] => 0
  | d :: r => uptoBulk d + uptoBulkAll r
def uptoBulkEntries {H : Type} : List (Lit × DataW H) → Nat
  | [] => 0
  | x :: r => uptoBulkEntry x + uptoBulkEntries r
def uptoBulkEntry {H : Type} : Lit × DataW H → Nat
  | (.string bytes, d) => bytes.length + uptoBulk d + 1
  | (_, d) => uptoBulk d + 1
 end
def uptoSmall : (H : Type) → List (DataW H) → Bool := fun _ ds => decide (uptoBulkAll ds ≤ 1048576)
def OpenSpec.upto (s : _root_.Go.ChangeSpec) : _root_.Go.OpenSpec := { _root_.Go.OpenSpec.ofChange s with cond := some uptoSmall }

/-- 'grapevinelaw03.SchemaTells', WHERE WHAT IT READS IS OF BULK AT MOST 1048576: true; the input reads as it did. -/
def schemaTellsUptoRow : OpenClaim := { program := "ytdjdempnolhepaa", sum := "474bd7e18749b4c9e3fbf1d943417a701b28cf3bc2331b8a74ac5308478fdf2f", func := "grapevine/grapevinelaw03.SchemaTells", spec := "schemaTells", apart := false, narrowed := true }
def SchemaTellsUptoSaid : Prop := schemaTellsUptoRow.holds Try.pinned (OpenSpec.upto schemaTellsSpec)

/-- 'grapevinelaw03.SchemaBring', WHERE WHAT IT READS IS OF BULK AT MOST 1048576: true; the input reads as it did. -/
def schemaBringUptoRow : OpenClaim := { program := "ytdjdempnolhepaa", sum := "474bd7e18749b4c9e3fbf1d943417a701b28cf3bc2331b8a74ac5308478fdf2f", func := "grapevine/grapevinelaw03.SchemaBring", spec := "schemaBring", apart := false, narrowed := true }
def SchemaBringUptoSaid : Prop := schemaBringUptoRow.holds Try.pinned (OpenSpec.upto schemaBringSpec)

/-- 'grapevinelaw03.SchemaLimits', WHERE WHAT IT READS IS OF BULK AT MOST 1048576: true; the input reads as it did. -/
def schemaLimitsUptoRow : OpenClaim := { program := "ytdjdempnolhepaa", sum := "474bd7e18749b4c9e3fbf1d943417a701b28cf3bc2331b8a74ac5308478fdf2f", func := "grapevine/grapevinelaw03.SchemaLimits", spec := "schemaLimits", apart := false, narrowed := true }
def SchemaLimitsUptoSaid : Prop := schemaLimitsUptoRow.holds Try.pinned (OpenSpec.upto schemaLimitsSpec)

/-- 'grapevinelaw03.SchemaSame', WHERE WHAT IT READS IS OF BULK AT MOST 1048576: true; the input reads as it did. -/
def schemaSameUptoRow : OpenClaim := { program := "ytdjdempnolhepaa", sum := "474bd7e18749b4c9e3fbf1d943417a701b28cf3bc2331b8a74ac5308478fdf2f", func := "grapevine/grapevinelaw03.SchemaSame", spec := "schemaSame", apart := false, narrowed := true }
def SchemaSameUptoSaid : Prop := schemaSameUptoRow.holds Try.pinned (OpenSpec.upto schemaSameSpec)

/-- 'grapevinelaw03.SchemaRight', WHERE WHAT IT READS IS OF BULK AT MOST 1048576: true; the input reads as it did. -/
def schemaRightUptoRow : OpenClaim := { program := "ytdjdempnolhepaa", sum := "474bd7e18749b4c9e3fbf1d943417a701b28cf3bc2331b8a74ac5308478fdf2f", func := "grapevine/grapevinelaw03.SchemaRight", spec := "schemaRight", apart := false, narrowed := true }
def SchemaRightUptoSaid : Prop := schemaRightUptoRow.holds Try.pinned (OpenSpec.upto schemaRightSpec)

end Rows
end Go.Proofs.Ytdjdempnolhepaa
