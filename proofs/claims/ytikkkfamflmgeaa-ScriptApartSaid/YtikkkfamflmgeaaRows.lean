/-
  No cell of these rows narrows 'for every input' (looked for: loops, veiled, ifaces, maps, wideKeys, modest, calm, conditions, laid).
  DERIVED. THE GIVEN ROWS OF THIS SEAT. 5 by the template 'for every input the law returns true; each argument reads behind the call as it read before'; 0 by the template 'total and deterministic' (their statements: YtikkkfamflmgeaaTotals.lean).
  GIVEN WITH THE SEED: the statements are not yours to turn. If you find one false, say at which input.
  Laid BY PROGRAM, IN A SANDBOX (cutbox-rows.mjs): the forced cells as the released guide's own fill.sh prints them over the translation 9d0084f8eb2730ab… (all of the seat's roots in one cut). By AI agents, Wed Nov 11 2026. No macro, syntax, notation, axiom, sorry.
-/
import Derived.Test.YtikkkfamflmgeaaChecked
import GoSem.Claim
import GoSem.ClaimJoined
import GoSem.ClaimMapViews
import Derived.JoinedTies
import Derived.KernelRfl
namespace Go.Proofs.Ytikkkfamflmgeaa
/- THE CELL 'sum', in the pinned program and in every row, IS THE sha256 OF THE DUMP (.gsa) THAT YtikkkfamflmgeaaProg.lean LOADS. Nothing in Lean hashes anything: it is a label: what it is worth is what the hold of that sum in a sandbox is worth. -/
noncomputable def Try.pinned : Pinned := { name := "ytikkkfamflmgeaa", sum := "9d0084f8eb2730ab67f3ce8cf7a78151dadadf89a3f7eea9490b90f7e71514ae", checked := Try.checked }
namespace Rows
def none {H : Type} : Left H := { results := [], args := [] }

/-- 'grapevinelaw27.ScriptFields': WHATEVER THE INPUT: true; the input reads as it did. -/
def scriptFieldsSpec : ChangeSpec := { name := "scriptFields", fn := fun _ => fun
  | [d1, d2, d3, d4] => { results := [.lit (.bool true)], args := [d1, d2, d3, d4] }
  | _ => none }
def scriptFieldsRow : OpenClaim := { program := "ytikkkfamflmgeaa", sum := "9d0084f8eb2730ab67f3ce8cf7a78151dadadf89a3f7eea9490b90f7e71514ae", func := "grapevine/grapevinelaw27.ScriptFields", spec := "scriptFields", unfollowed := true, recurses := true, apart := false }
def ScriptFieldsSaid : Prop := scriptFieldsRow.holds Try.pinned (OpenSpec.ofChange scriptFieldsSpec)

/-- ITS FALSE NEIGHBOUR: 'it returns false'. Refute it at one input. -/
def scriptFieldsWrong : ChangeSpec := { name := "scriptFields", fn := fun _ => fun
  | [d1, d2, d3, d4] => { results := [.lit (.bool false)], args := [d1, d2, d3, d4] }
  | _ => none }
def ScriptFieldsWrongFalsely : Prop := scriptFieldsRow.holds Try.pinned (OpenSpec.ofChange scriptFieldsWrong)

/-- 'grapevinelaw27.ScriptTells': WHATEVER THE INPUT: true; the input reads as it did. -/
def scriptTellsSpec : ChangeSpec := { name := "scriptTells", fn := fun _ => fun
  | [d1, d2, d3, d4] => { results := [.lit (.bool true)], args := [d1, d2, d3, d4] }
  | _ => none }
def scriptTellsRow : OpenClaim := { program := "ytikkkfamflmgeaa", sum := "9d0084f8eb2730ab67f3ce8cf7a78151dadadf89a3f7eea9490b90f7e71514ae", func := "grapevine/grapevinelaw27.ScriptTells", spec := "scriptTells", unfollowed := true, recurses := true, apart := false }
def ScriptTellsSaid : Prop := scriptTellsRow.holds Try.pinned (OpenSpec.ofChange scriptTellsSpec)

/-- ITS FALSE NEIGHBOUR: 'it returns false'. Refute it at one input. -/
def scriptTellsWrong : ChangeSpec := { name := "scriptTells", fn := fun _ => fun
  | [d1, d2, d3, d4] => { results := [.lit (.bool false)], args := [d1, d2, d3, d4] }
  | _ => none }
def ScriptTellsWrongFalsely : Prop := scriptTellsRow.holds Try.pinned (OpenSpec.ofChange scriptTellsWrong)

/-- 'grapevinelaw27.ScriptBack': WHATEVER THE INPUT: true; the input reads as it did. -/
def scriptBackSpec : ChangeSpec := { name := "scriptBack", fn := fun _ => fun
  | [d1, d2, d3] => { results := [.lit (.bool true)], args := [d1, d2, d3] }
  | _ => none }
def scriptBackRow : OpenClaim := { program := "ytikkkfamflmgeaa", sum := "9d0084f8eb2730ab67f3ce8cf7a78151dadadf89a3f7eea9490b90f7e71514ae", func := "grapevine/grapevinelaw27.ScriptBack", spec := "scriptBack", unfollowed := true, recurses := true, apart := false }
def ScriptBackSaid : Prop := scriptBackRow.holds Try.pinned (OpenSpec.ofChange scriptBackSpec)

/-- ITS FALSE NEIGHBOUR: 'it returns false'. Refute it at one input. -/
def scriptBackWrong : ChangeSpec := { name := "scriptBack", fn := fun _ => fun
  | [d1, d2, d3] => { results := [.lit (.bool false)], args := [d1, d2, d3] }
  | _ => none }
def ScriptBackWrongFalsely : Prop := scriptBackRow.holds Try.pinned (OpenSpec.ofChange scriptBackWrong)

/-- 'grapevinelaw27.ScriptParts': WHATEVER THE INPUT: true; the input reads as it did. -/
def scriptPartsSpec : ChangeSpec := { name := "scriptParts", fn := fun _ => fun
  | [d1, d2, d3] => { results := [.lit (.bool true)], args := [d1, d2, d3] }
  | _ => none }
def scriptPartsRow : OpenClaim := { program := "ytikkkfamflmgeaa", sum := "9d0084f8eb2730ab67f3ce8cf7a78151dadadf89a3f7eea9490b90f7e71514ae", func := "grapevine/grapevinelaw27.ScriptParts", spec := "scriptParts", unfollowed := true, recurses := true, apart := false }
def ScriptPartsSaid : Prop := scriptPartsRow.holds Try.pinned (OpenSpec.ofChange scriptPartsSpec)

/-- ITS FALSE NEIGHBOUR: 'it returns false'. Refute it at one input. -/
def scriptPartsWrong : ChangeSpec := { name := "scriptParts", fn := fun _ => fun
  | [d1, d2, d3] => { results := [.lit (.bool false)], args := [d1, d2, d3] }
  | _ => none }
def ScriptPartsWrongFalsely : Prop := scriptPartsRow.holds Try.pinned (OpenSpec.ofChange scriptPartsWrong)

/-- 'grapevinelaw27.ScriptApart': WHATEVER THE INPUT: true; the input reads as it did. -/
def scriptApartSpec : ChangeSpec := { name := "scriptApart", fn := fun _ => fun
  | [d] => { results := [.lit (.bool true)], args := [d] }
  | _ => none }
def scriptApartRow : OpenClaim := { program := "ytikkkfamflmgeaa", sum := "9d0084f8eb2730ab67f3ce8cf7a78151dadadf89a3f7eea9490b90f7e71514ae", func := "grapevine/grapevinelaw27.ScriptApart", spec := "scriptApart", unfollowed := true, recurses := true, apart := false }
def ScriptApartSaid : Prop := scriptApartRow.holds Try.pinned (OpenSpec.ofChange scriptApartSpec)

/-- ITS FALSE NEIGHBOUR: 'it returns false'. Refute it at one input. -/
def scriptApartWrong : ChangeSpec := { name := "scriptApart", fn := fun _ => fun
  | [d] => { results := [.lit (.bool false)], args := [d] }
  | _ => none }
def ScriptApartWrongFalsely : Prop := scriptApartRow.holds Try.pinned (OpenSpec.ofChange scriptApartWrong)

/- THE SECOND FORM. 'bulk': how many values and letters a reading holds, each counted each time it is reached (what is shared counts as often as it is met; a slice's spare places count too). A statement '..UptoSaid' is the law's where the arguments, and the package variables that the reading takes, are together of bulk at most 1048576: NARROWER than '..Said'. Prove '..Said' where nothing that the law and all that it calls make is longer than what came in: it says more and counts as full. Else prove '..UptoSaid'. A law counts once. -/
mutual
def uptoBulk {H : Type} : DataW H → Nat
  | .lit (.string bytes) => bytes.length + 1
  | .lit _ => 1
  | .nil => 1
  | .ptr d => uptoBulk d + 1
  | .slice elems spare => uptoBulkAll elems + uptoBulkAll spare + 1
  | .agg parts => uptoBulkAll parts + 1
  | .iface _ d => uptoBulk d + 1
  | .map entries => uptoBulkEntries entries + 1
  | .held _ => 1
def uptoBulkAll {H : Type} : List (DataW H) → Nat
  | [] => 0
  | d :: r => uptoBulk d + uptoBulkAll r
def uptoBulkEntries {H : Type} : List (Lit × DataW H) → Nat
  | [] => 0
  | x :: r => uptoBulkEntry x + uptoBulkEntries r
def uptoBulkEntry {H : Type} : Lit × DataW H → Nat
  | (.string bytes, d) => bytes.length + uptoBulk d + 1
  | (_, d) => uptoBulk d + 1
 end
def uptoSmall : (H : Type) → List (DataW H) → Bool := fun _ ds => decide (uptoBulkAll ds ≤ 1048576)
def OpenSpec.upto (s : _root_.Go.ChangeSpec) : _root_.Go.OpenSpec := { _root_.Go.OpenSpec.ofChange s with cond := some uptoSmall }

/-- 'grapevinelaw27.ScriptFields', WHERE WHAT IT READS IS OF BULK AT MOST 1048576: true; the input reads as it did. -/
def scriptFieldsUptoRow : OpenClaim := { program := "ytikkkfamflmgeaa", sum := "9d0084f8eb2730ab67f3ce8cf7a78151dadadf89a3f7eea9490b90f7e71514ae", func := "grapevine/grapevinelaw27.ScriptFields", spec := "scriptFields", unfollowed := true, recurses := true, apart := false, narrowed := true }
def ScriptFieldsUptoSaid : Prop := scriptFieldsUptoRow.holds Try.pinned (OpenSpec.upto scriptFieldsSpec)

/-- 'grapevinelaw27.ScriptTells', WHERE WHAT IT READS IS OF BULK AT MOST 1048576: true; the input reads as it did. -/
def scriptTellsUptoRow : OpenClaim := { program := "ytikkkfamflmgeaa", sum := "9d0084f8eb2730ab67f3ce8cf7a78151dadadf89a3f7eea9490b90f7e71514ae", func := "grapevine/grapevinelaw27.ScriptTells", spec := "scriptTells", unfollowed := true, recurses := true, apart := false, narrowed := true }
def ScriptTellsUptoSaid : Prop := scriptTellsUptoRow.holds Try.pinned (OpenSpec.upto scriptTellsSpec)

/-- 'grapevinelaw27.ScriptBack', WHERE WHAT IT READS IS OF BULK AT MOST 1048576: true; the input reads as it did. -/
def scriptBackUptoRow : OpenClaim := { program := "ytikkkfamflmgeaa", sum := "9d0084f8eb2730ab67f3ce8cf7a78151dadadf89a3f7eea9490b90f7e71514ae", func := "grapevine/grapevinelaw27.ScriptBack", spec := "scriptBack", unfollowed := true, recurses := true, apart := false, narrowed := true }
def ScriptBackUptoSaid : Prop := scriptBackUptoRow.holds Try.pinned (OpenSpec.upto scriptBackSpec)

/-- 'grapevinelaw27.ScriptParts', WHERE WHAT IT READS IS OF BULK AT MOST 1048576: true; the input reads as it did. -/
def scriptPartsUptoRow : OpenClaim := { program := "ytikkkfamflmgeaa", sum := "9d0084f8eb2730ab67f3ce8cf7a78151dadadf89a3f7eea9490b90f7e71514ae", func := "grapevine/grapevinelaw27.ScriptParts", spec := "scriptParts", unfollowed := true, recurses := true, apart := false, narrowed := true }
def ScriptPartsUptoSaid : Prop := scriptPartsUptoRow.holds Try.pinned (OpenSpec.upto scriptPartsSpec)

/-- 'grapevinelaw27.ScriptApart', WHERE WHAT IT READS IS OF BULK AT MOST 1048576: true; the input reads as it did. -/
def scriptApartUptoRow : OpenClaim := { program := "ytikkkfamflmgeaa", sum := "9d0084f8eb2730ab67f3ce8cf7a78151dadadf89a3f7eea9490b90f7e71514ae", func := "grapevine/grapevinelaw27.ScriptApart", spec := "scriptApart", unfollowed := true, recurses := true, apart := false, narrowed := true }
def ScriptApartUptoSaid : Prop := scriptApartUptoRow.holds Try.pinned (OpenSpec.upto scriptApartSpec)

end Rows
end Go.Proofs.Ytikkkfamflmgeaa
