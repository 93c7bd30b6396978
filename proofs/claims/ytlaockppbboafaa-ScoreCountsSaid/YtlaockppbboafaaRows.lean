/-
  No cell of these rows narrows 'for every input' (looked for: loops, veiled, ifaces, maps, wideKeys, modest, calm, conditions, laid).
  DERIVED. THE GIVEN ROWS OF THIS SEAT. 6 by the template 'for every input the law returns true; each argument reads behind the call as it read before'; 0 by the template 'total and deterministic' (their statements: YtlaockppbboafaaTotals.lean).
  GIVEN WITH THE SEED: the statements are not yours to turn. If you find one false, say at which input.
  Laid BY PROGRAM, IN A SANDBOX (cutbox-rows.mjs): the forced cells as the released guide's own fill.sh prints them over the translation a00ed5e311302319… (all of the seat's roots in one cut). By AI agents, Wed Nov 11 2026. No macro, syntax, notation, axiom, sorry.
-/
import Derived.Test.YtlaockppbboafaaChecked
import GoSem.Claim
import GoSem.ClaimJoined
import GoSem.ClaimMapViews
import Derived.JoinedTies
import Derived.KernelRfl
namespace Go.Proofs.Ytlaockppbboafaa
/- THE CELL 'sum', in the pinned program and in every row, IS THE sha256 OF THE DUMP (.gsa) THAT YtlaockppbboafaaProg.lean LOADS. Nothing in Lean hashes anything: it is a label: what it is worth is what the hold of that sum in a sandbox is worth. -/
noncomputable def Try.pinned : Pinned := { name := "ytlaockppbboafaa", sum := "a00ed5e3113023193133d7351e19ac9c1454a1cc10e2f9c5d06c0ea9f4d244eb", checked := Try.checked }
namespace Rows
def none {H : Type} : Left H := { results := [], args := [] }

/-- 'grapevinelaw06.ScoreTells': WHATEVER THE INPUT: true; the input reads as it did. -/
def scoreTellsSpec : ChangeSpec := { name := "scoreTells", fn := fun _ => fun
  | [d1, d2, d3] => { results := [.lit (.bool true)], args := [d1, d2, d3] }
  | _ => none }
def scoreTellsRow : OpenClaim := { program := "ytlaockppbboafaa", sum := "a00ed5e3113023193133d7351e19ac9c1454a1cc10e2f9c5d06c0ea9f4d244eb", func := "grapevine/grapevinelaw06.ScoreTells", spec := "scoreTells", unfollowed := true, recurses := true, apart := false }
def ScoreTellsSaid : Prop := scoreTellsRow.holds Try.pinned (OpenSpec.ofChange scoreTellsSpec)

/-- ITS FALSE NEIGHBOUR: 'it returns false'. Refute it at one input. -/
def scoreTellsWrong : ChangeSpec := { name := "scoreTells", fn := fun _ => fun
  | [d1, d2, d3] => { results := [.lit (.bool false)], args := [d1, d2, d3] }
  | _ => none }
def ScoreTellsWrongFalsely : Prop := scoreTellsRow.holds Try.pinned (OpenSpec.ofChange scoreTellsWrong)

/-- 'grapevinelaw06.ScoreTurn': WHATEVER THE INPUT: true; the input reads as it did. -/
def scoreTurnSpec : ChangeSpec := { name := "scoreTurn", fn := fun _ => fun
  | [d1, d2] => { results := [.lit (.bool true)], args := [d1, d2] }
  | _ => none }
def scoreTurnRow : OpenClaim := { program := "ytlaockppbboafaa", sum := "a00ed5e3113023193133d7351e19ac9c1454a1cc10e2f9c5d06c0ea9f4d244eb", func := "grapevine/grapevinelaw06.ScoreTurn", spec := "scoreTurn", unfollowed := true, recurses := true, apart := false }
def ScoreTurnSaid : Prop := scoreTurnRow.holds Try.pinned (OpenSpec.ofChange scoreTurnSpec)

/-- ITS FALSE NEIGHBOUR: 'it returns false'. Refute it at one input. -/
def scoreTurnWrong : ChangeSpec := { name := "scoreTurn", fn := fun _ => fun
  | [d1, d2] => { results := [.lit (.bool false)], args := [d1, d2] }
  | _ => none }
def ScoreTurnWrongFalsely : Prop := scoreTurnRow.holds Try.pinned (OpenSpec.ofChange scoreTurnWrong)

/-- 'grapevinelaw06.ScoreFull': WHATEVER THE INPUT: true; the input reads as it did. -/
def scoreFullSpec : ChangeSpec := { name := "scoreFull", fn := fun _ => fun
  | [d1, d2, d3] => { results := [.lit (.bool true)], args := [d1, d2, d3] }
  | _ => none }
def scoreFullRow : OpenClaim := { program := "ytlaockppbboafaa", sum := "a00ed5e3113023193133d7351e19ac9c1454a1cc10e2f9c5d06c0ea9f4d244eb", func := "grapevine/grapevinelaw06.ScoreFull", spec := "scoreFull", unfollowed := true, recurses := true, apart := false }
def ScoreFullSaid : Prop := scoreFullRow.holds Try.pinned (OpenSpec.ofChange scoreFullSpec)

/-- ITS FALSE NEIGHBOUR: 'it returns false'. Refute it at one input. -/
def scoreFullWrong : ChangeSpec := { name := "scoreFull", fn := fun _ => fun
  | [d1, d2, d3] => { results := [.lit (.bool false)], args := [d1, d2, d3] }
  | _ => none }
def ScoreFullWrongFalsely : Prop := scoreFullRow.holds Try.pinned (OpenSpec.ofChange scoreFullWrong)

/-- 'grapevinelaw06.ScoreCounts': WHATEVER THE INPUT: true; the input reads as it did. -/
def scoreCountsSpec : ChangeSpec := { name := "scoreCounts", fn := fun _ => fun
  | [d1, d2, d3] => { results := [.lit (.bool true)], args := [d1, d2, d3] }
  | _ => none }
def scoreCountsRow : OpenClaim := { program := "ytlaockppbboafaa", sum := "a00ed5e3113023193133d7351e19ac9c1454a1cc10e2f9c5d06c0ea9f4d244eb", func := "grapevine/grapevinelaw06.ScoreCounts", spec := "scoreCounts", unfollowed := true, recurses := true, apart := false }
def ScoreCountsSaid : Prop := scoreCountsRow.holds Try.pinned (OpenSpec.ofChange scoreCountsSpec)

/-- ITS FALSE NEIGHBOUR: 'it returns false'. Refute it at one input. -/
def scoreCountsWrong : ChangeSpec := { name := "scoreCounts", fn := fun _ => fun
  | [d1, d2, d3] => { results := [.lit (.bool false)], args := [d1, d2, d3] }
  | _ => none }
def ScoreCountsWrongFalsely : Prop := scoreCountsRow.holds Try.pinned (OpenSpec.ofChange scoreCountsWrong)

/-- 'grapevinelaw06.ScoreGrows': WHATEVER THE INPUT: true; the input reads as it did. -/
def scoreGrowsSpec : ChangeSpec := { name := "scoreGrows", fn := fun _ => fun
  | [d1, d2, d3] => { results := [.lit (.bool true)], args := [d1, d2, d3] }
  | _ => none }
def scoreGrowsRow : OpenClaim := { program := "ytlaockppbboafaa", sum := "a00ed5e3113023193133d7351e19ac9c1454a1cc10e2f9c5d06c0ea9f4d244eb", func := "grapevine/grapevinelaw06.ScoreGrows", spec := "scoreGrows", unfollowed := true, recurses := true, apart := false }
def ScoreGrowsSaid : Prop := scoreGrowsRow.holds Try.pinned (OpenSpec.ofChange scoreGrowsSpec)

/-- ITS FALSE NEIGHBOUR: 'it returns false'. Refute it at one input. -/
def scoreGrowsWrong : ChangeSpec := { name := "scoreGrows", fn := fun _ => fun
  | [d1, d2, d3] => { results := [.lit (.bool false)], args := [d1, d2, d3] }
  | _ => none }
def ScoreGrowsWrongFalsely : Prop := scoreGrowsRow.holds Try.pinned (OpenSpec.ofChange scoreGrowsWrong)

/-- 'grapevinelaw06.ScoreKeys': WHATEVER THE INPUT: true; the input reads as it did. -/
def scoreKeysSpec : ChangeSpec := { name := "scoreKeys", fn := fun _ => fun
  | [d1, d2, d3] => { results := [.lit (.bool true)], args := [d1, d2, d3] }
  | _ => none }
def scoreKeysRow : OpenClaim := { program := "ytlaockppbboafaa", sum := "a00ed5e3113023193133d7351e19ac9c1454a1cc10e2f9c5d06c0ea9f4d244eb", func := "grapevine/grapevinelaw06.ScoreKeys", spec := "scoreKeys", unfollowed := true, recurses := true, apart := false }
def ScoreKeysSaid : Prop := scoreKeysRow.holds Try.pinned (OpenSpec.ofChange scoreKeysSpec)

/-- ITS FALSE NEIGHBOUR: 'it returns false'. Refute it at one input. -/
def scoreKeysWrong : ChangeSpec := { name := "scoreKeys", fn := fun _ => fun
  | [d1, d2, d3] => { results := [.lit (.bool false)], args := [d1, d2, d3] }
  | _ => none }
def ScoreKeysWrongFalsely : Prop := scoreKeysRow.holds Try.pinned (OpenSpec.ofChange scoreKeysWrong)

/- THE SECOND FORM. 'bulk': how many values and letters a reading holds, each counted each time it is reached (what is shared counts as often as it is met; a slice's spare places count too). A statement '..UptoSaid' is the law's where the arguments, and the package variables that the reading takes, are together of bulk at most 1048576: NARROWER than '..Said'. Prove '..Said' where nothing that the law and all that it calls make is longer than what came in: it says more and counts as full. Else prove '..UptoSaid'. A law counts once. -/
mutual
def uptoBulk {H : Type} : DataW H → Nat
  | .lit (.string bytes) => bytes.length + 1
  | .lit _ => 1
  | .nil => 1
  | .ptr d => uptoBulk d + 1
  | .slice elems spare => uptoBulkAll elems + uptoBulkAll spare + 1
  | .agg parts => uptoBulkAll parts + 1
  | .iface _ d => uptoBulk d + 1
  | .map entries => uptoBulkEntries entries + 1
  | .held _ => 1
def uptoBulkAll {H : Type} : List (DataW H) → Nat
  | [] => 0
  | d :: r => uptoBulk d + uptoBulkAll r
def uptoBulkEntries {H : Type} : List (Lit × DataW H) → Nat
  | [] => 0
  | x :: r => uptoBulkEntry x + uptoBulkEntries r
def uptoBulkEntry {H : Type} : Lit × DataW H → Nat
  | (.string bytes, d) => bytes.length + uptoBulk d + 1
  | (_, d) => uptoBulk d + 1
 end
def uptoSmall : (H : Type) → List (DataW H) → Bool := fun _ ds => decide (uptoBulkAll ds ≤ 1048576)
def OpenSpec.upto (s : _root_.Go.ChangeSpec) : _root_.Go.OpenSpec := { _root_.Go.OpenSpec.ofChange s with cond := some uptoSmall }

/-- 'grapevinelaw06.ScoreTells', WHERE WHAT IT READS IS OF BULK AT MOST 1048576: true; the input reads as it did. -/
def scoreTellsUptoRow : OpenClaim := { program := "ytlaockppbboafaa", sum := "a00ed5e3113023193133d7351e19ac9c1454a1cc10e2f9c5d06c0ea9f4d244eb", func := "grapevine/grapevinelaw06.ScoreTells", spec := "scoreTells", unfollowed := true, recurses := true, apart := false, narrowed := true }
def ScoreTellsUptoSaid : Prop := scoreTellsUptoRow.holds Try.pinned (OpenSpec.upto scoreTellsSpec)

/-- 'grapevinelaw06.ScoreTurn', WHERE WHAT IT READS IS OF BULK AT MOST 1048576: true; the input reads as it did. -/
def scoreTurnUptoRow : OpenClaim := { program := "ytlaockppbboafaa", sum := "a00ed5e3113023193133d7351e19ac9c1454a1cc10e2f9c5d06c0ea9f4d244eb", func := "grapevine/grapevinelaw06.ScoreTurn", spec := "scoreTurn", unfollowed := true, recurses := true, apart := false, narrowed := true }
def ScoreTurnUptoSaid : Prop := scoreTurnUptoRow.holds Try.pinned (OpenSpec.upto scoreTurnSpec)

/-- 'grapevinelaw06.ScoreFull', WHERE WHAT IT READS IS OF BULK AT MOST 1048576: true; the input reads as it did. -/
def scoreFullUptoRow : OpenClaim := { program := "ytlaockppbboafaa", sum := "a00ed5e3113023193133d7351e19ac9c1454a1cc10e2f9c5d06c0ea9f4d244eb", func := "grapevine/grapevinelaw06.ScoreFull", spec := "scoreFull", unfollowed := true, recurses := true, apart := false, narrowed := true }
def ScoreFullUptoSaid : Prop := scoreFullUptoRow.holds Try.pinned (OpenSpec.upto scoreFullSpec)

/-- 'grapevinelaw06.ScoreCounts', WHERE WHAT IT READS IS OF BULK AT MOST 1048576: true; the input reads as it did. -/
def scoreCountsUptoRow : OpenClaim := { program := "ytlaockppbboafaa", sum := "a00ed5e3113023193133d7351e19ac9c1454a1cc10e2f9c5d06c0ea9f4d244eb", func := "grapevine/grapevinelaw06.ScoreCounts", spec := "scoreCounts", unfollowed := true, recurses := true, apart := false, narrowed := true }
def ScoreCountsUptoSaid : Prop := scoreCountsUptoRow.holds Try.pinned (OpenSpec.upto scoreCountsSpec)

/-- 'grapevinelaw06.ScoreGrows', WHERE WHAT IT READS IS OF BULK AT MOST 1048576: true; the input reads as it did. -/
def scoreGrowsUptoRow : OpenClaim := { program := "ytlaockppbboafaa", sum := "a00ed5e3113023193133d7351e19ac9c1454a1cc10e2f9c5d06c0ea9f4d244eb", func := "grapevine/grapevinelaw06.ScoreGrows", spec := "scoreGrows", unfollowed := true, recurses := true, apart := false, narrowed := true }
def ScoreGrowsUptoSaid : Prop := scoreGrowsUptoRow.holds Try.pinned (OpenSpec.upto scoreGrowsSpec)

/-- 'grapevinelaw06.ScoreKeys', WHERE WHAT IT READS IS OF BULK AT MOST 1048576: true; the input reads as it did. -/
def scoreKeysUptoRow : OpenClaim := { program := "ytlaockppbboafaa", sum := "a00ed5e3113023193133d7351e19ac9c1454a1cc10e2f9c5d06c0ea9f4d244eb", func := "grapevine/grapevinelaw06.ScoreKeys", spec := "scoreKeys", unfollowed := true, recurses := true, apart := false, narrowed := true }
def ScoreKeysUptoSaid : Prop := scoreKeysUptoRow.holds Try.pinned (OpenSpec.upto scoreKeysSpec)

end Rows
end Go.Proofs.Ytlaockppbboafaa
