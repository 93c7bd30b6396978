/-
  No cell of these rows narrows 'for every input' (looked for: loops, veiled, ifaces, maps, wideKeys, modest, calm, conditions, laid).
  DERIVED. THE GIVEN ROWS OF THIS SEAT. 6 by the template 'for every input the law returns true; each argument reads behind the call as it read before'; 0 by the template 'total and deterministic' (their statements: YtogepedlalfpjaaTotals.lean).
  GIVEN WITH THE SEED: the statements are not yours to turn. If you find one false, say at which input.
  Laid BY PROGRAM, IN A SANDBOX (cutbox-rows.mjs): the forced cells as the released guide's own fill.sh prints them over the translation 3aa26e2a200fe431… (all of the seat's roots in one cut). By AI agents, Wed Nov 11 2026. No macro, syntax, notation, axiom, sorry.
-/
import Derived.Test.YtogepedlalfpjaaChecked
import GoSem.Claim
import GoSem.ClaimJoined
import GoSem.ClaimMapViews
import Derived.JoinedTies
import Derived.KernelRfl
namespace Go.Proofs.Ytogepedlalfpjaa
/- THE CELL 'sum', in the pinned program and in every row, IS THE sha256 OF THE DUMP (.gsa) THAT YtogepedlalfpjaaProg.lean LOADS. Nothing in Lean hashes anything: it is a label: what it is worth is what the hold of that sum in a sandbox is worth. -/
noncomputable def Try.pinned : Pinned := { name := "ytogepedlalfpjaa", sum := "3aa26e2a200fe43151ef323e8c5d5184a764ca35645044398182acf364ee35f5", checked := Try.checked }
namespace Rows
def none {H : Type} : Left H := { results := [], args := [] }

/-- 'grapevinelaw26.ModelWide': WHATEVER THE INPUT: true; the input reads as it did. -/
def modelWideSpec : ChangeSpec := { name := "modelWide", fn := fun _ => fun
  | [d1, d2, d3, d4, d5, d6] => { results := [.lit (.bool true)], args := [d1, d2, d3, d4, d5, d6] }
  | _ => none }
def modelWideRow : OpenClaim := { program := "ytogepedlalfpjaa", sum := "3aa26e2a200fe43151ef323e8c5d5184a764ca35645044398182acf364ee35f5", func := "grapevine/grapevinelaw26.ModelWide", spec := "modelWide", unfollowed := true, recurses := true, plainKeys := false, apart := false }
def ModelWideSaid : Prop := modelWideRow.holds Try.pinned (OpenSpec.ofChange modelWideSpec)

/-- ITS FALSE NEIGHBOUR: 'it returns false'. Refute it at one input. -/
def modelWideWrong : ChangeSpec := { name := "modelWide", fn := fun _ => fun
  | [d1, d2, d3, d4, d5, d6] => { results := [.lit (.bool false)], args := [d1, d2, d3, d4, d5, d6] }
  | _ => none }
def ModelWideWrongFalsely : Prop := modelWideRow.holds Try.pinned (OpenSpec.ofChange modelWideWrong)

/-- 'grapevinelaw26.ModelApart': WHATEVER THE INPUT: true; the input reads as it did. -/
def modelApartSpec : ChangeSpec := { name := "modelApart", fn := fun _ => fun
  | [d1, d2, d3, d4, d5] => { results := [.lit (.bool true)], args := [d1, d2, d3, d4, d5] }
  | _ => none }
def modelApartRow : OpenClaim := { program := "ytogepedlalfpjaa", sum := "3aa26e2a200fe43151ef323e8c5d5184a764ca35645044398182acf364ee35f5", func := "grapevine/grapevinelaw26.ModelApart", spec := "modelApart", unfollowed := true, recurses := true, plainKeys := false, apart := false }
def ModelApartSaid : Prop := modelApartRow.holds Try.pinned (OpenSpec.ofChange modelApartSpec)

/-- ITS FALSE NEIGHBOUR: 'it returns false'. Refute it at one input. -/
def modelApartWrong : ChangeSpec := { name := "modelApart", fn := fun _ => fun
  | [d1, d2, d3, d4, d5] => { results := [.lit (.bool false)], args := [d1, d2, d3, d4, d5] }
  | _ => none }
def ModelApartWrongFalsely : Prop := modelApartRow.holds Try.pinned (OpenSpec.ofChange modelApartWrong)

/-- 'grapevinelaw26.ModelTells': WHATEVER THE INPUT: true; the input reads as it did. -/
def modelTellsSpec : ChangeSpec := { name := "modelTells", fn := fun _ => fun
  | [d1, d2, d3, d4, d5] => { results := [.lit (.bool true)], args := [d1, d2, d3, d4, d5] }
  | _ => none }
def modelTellsRow : OpenClaim := { program := "ytogepedlalfpjaa", sum := "3aa26e2a200fe43151ef323e8c5d5184a764ca35645044398182acf364ee35f5", func := "grapevine/grapevinelaw26.ModelTells", spec := "modelTells", unfollowed := true, recurses := true, plainKeys := false, apart := false }
def ModelTellsSaid : Prop := modelTellsRow.holds Try.pinned (OpenSpec.ofChange modelTellsSpec)

/-- ITS FALSE NEIGHBOUR: 'it returns false'. Refute it at one input. -/
def modelTellsWrong : ChangeSpec := { name := "modelTells", fn := fun _ => fun
  | [d1, d2, d3, d4, d5] => { results := [.lit (.bool false)], args := [d1, d2, d3, d4, d5] }
  | _ => none }
def ModelTellsWrongFalsely : Prop := modelTellsRow.holds Try.pinned (OpenSpec.ofChange modelTellsWrong)

/-- 'grapevinelaw26.ModelOnce': WHATEVER THE INPUT: true; the input reads as it did. -/
def modelOnceSpec : ChangeSpec := { name := "modelOnce", fn := fun _ => fun
  | [d1, d2, d3, d4] => { results := [.lit (.bool true)], args := [d1, d2, d3, d4] }
  | _ => none }
def modelOnceRow : OpenClaim := { program := "ytogepedlalfpjaa", sum := "3aa26e2a200fe43151ef323e8c5d5184a764ca35645044398182acf364ee35f5", func := "grapevine/grapevinelaw26.ModelOnce", spec := "modelOnce", unfollowed := true, recurses := true, plainKeys := false, apart := false }
def ModelOnceSaid : Prop := modelOnceRow.holds Try.pinned (OpenSpec.ofChange modelOnceSpec)

/-- ITS FALSE NEIGHBOUR: 'it returns false'. Refute it at one input. -/
def modelOnceWrong : ChangeSpec := { name := "modelOnce", fn := fun _ => fun
  | [d1, d2, d3, d4] => { results := [.lit (.bool false)], args := [d1, d2, d3, d4] }
  | _ => none }
def ModelOnceWrongFalsely : Prop := modelOnceRow.holds Try.pinned (OpenSpec.ofChange modelOnceWrong)

/-- 'grapevinelaw26.ModelOwed': WHATEVER THE INPUT: true; the input reads as it did. -/
def modelOwedSpec : ChangeSpec := { name := "modelOwed", fn := fun _ => fun
  | [d1, d2, d3, d4, d5] => { results := [.lit (.bool true)], args := [d1, d2, d3, d4, d5] }
  | _ => none }
def modelOwedRow : OpenClaim := { program := "ytogepedlalfpjaa", sum := "3aa26e2a200fe43151ef323e8c5d5184a764ca35645044398182acf364ee35f5", func := "grapevine/grapevinelaw26.ModelOwed", spec := "modelOwed", unfollowed := true, recurses := true, plainKeys := false, apart := false }
def ModelOwedSaid : Prop := modelOwedRow.holds Try.pinned (OpenSpec.ofChange modelOwedSpec)

/-- ITS FALSE NEIGHBOUR: 'it returns false'. Refute it at one input. -/
def modelOwedWrong : ChangeSpec := { name := "modelOwed", fn := fun _ => fun
  | [d1, d2, d3, d4, d5] => { results := [.lit (.bool false)], args := [d1, d2, d3, d4, d5] }
  | _ => none }
def ModelOwedWrongFalsely : Prop := modelOwedRow.holds Try.pinned (OpenSpec.ofChange modelOwedWrong)

/-- 'grapevinelaw26.ModelLives': WHATEVER THE INPUT: true; the input reads as it did. -/
def modelLivesSpec : ChangeSpec := { name := "modelLives", fn := fun _ => fun
  | [d1, d2, d3, d4, d5, d6] => { results := [.lit (.bool true)], args := [d1, d2, d3, d4, d5, d6] }
  | _ => none }
def modelLivesRow : OpenClaim := { program := "ytogepedlalfpjaa", sum := "3aa26e2a200fe43151ef323e8c5d5184a764ca35645044398182acf364ee35f5", func := "grapevine/grapevinelaw26.ModelLives", spec := "modelLives", unfollowed := true, recurses := true, plainKeys := false, apart := false }
def ModelLivesSaid : Prop := modelLivesRow.holds Try.pinned (OpenSpec.ofChange modelLivesSpec)

/-- ITS FALSE NEIGHBOUR: 'it returns false'. Refute it at one input. -/
def modelLivesWrong : ChangeSpec := { name := "modelLives", fn := fun _ => fun
  | [d1, d2, d3, d4, d5, d6] => { results := [.lit (.bool false)], args := [d1, d2, d3, d4, d5, d6] }
  | _ => none }
def ModelLivesWrongFalsely : Prop := modelLivesRow.holds Try.pinned (OpenSpec.ofChange modelLivesWrong)

/- THE SECOND FORM. 'bulk': how many values and letters a reading holds, each counted each time it is reached (what is shared counts as often as it is met; a slice's spare places count too). A statement '..UptoSaid' is the law's where the arguments, and the package variables that the reading takes, are together of bulk at most 1048576: NARROWER than '..Said'. Prove '..Said' where nothing that the law and all that it calls make is longer than what came in: it says more and counts as full. Else prove '..UptoSaid'. A law counts once. -/
mutual
def uptoBulk {H : Type} : DataW H → Nat
  | .lit (.string bytes) => bytes.length + 1
  | .lit _ => 1
  | .nil => 1
  | .ptr d => uptoBulk d + 1
  | .slice elems spare => uptoBulkAll elems + uptoBulkAll spare + 1
  | .agg parts => uptoBulkAll parts + 1
  | .iface _ d => uptoBulk d + 1
  | .map entries => uptoBulkEntries entries + 1
  | .held _ => 1
def uptoBulkAll {H : Type} : List (DataW H) → Nat
  | [] => 0
  | d :: r => uptoBulk d + uptoBulkAll r
def uptoBulkEntries {H : Type} : List (Lit × DataW H) → Nat
  | [] => 0
  | x :: r => uptoBulkEntry x + uptoBulkEntries r
def uptoBulkEntry {H : Type} : Lit × DataW H → Nat
  | (.string bytes, d) => bytes.length + uptoBulk d + 1
  | (_, d) => uptoBulk d + 1
 end
def uptoSmall : (H : Type) → List (DataW H) → Bool := fun _ ds => decide (uptoBulkAll ds ≤ 1048576)
def OpenSpec.upto (s : _root_.Go.ChangeSpec) : _root_.Go.OpenSpec := { _root_.Go.OpenSpec.ofChange s with cond := some uptoSmall }

/-- 'grapevinelaw26.ModelWide', WHERE WHAT IT READS IS OF BULK AT MOST 1048576: true; the input reads as it did. -/
def modelWideUptoRow : OpenClaim := { program := "ytogepedlalfpjaa", sum := "3aa26e2a200fe43151ef323e8c5d5184a764ca35645044398182acf364ee35f5", func := "grapevine/grapevinelaw26.ModelWide", spec := "modelWide", unfollowed := true, recurses := true, plainKeys := false, apart := false, narrowed := true }
def ModelWideUptoSaid : Prop := modelWideUptoRow.holds Try.pinned (OpenSpec.upto modelWideSpec)

/-- 'grapevinelaw26.ModelApart', WHERE WHAT IT READS IS OF BULK AT MOST 1048576: true; the input reads as it did. -/
def modelApartUptoRow : OpenClaim := { program := "ytogepedlalfpjaa", sum := "3aa26e2a200fe43151ef323e8c5d5184a764ca35645044398182acf364ee35f5", func := "grapevine/grapevinelaw26.ModelApart", spec := "modelApart", unfollowed := true, recurses := true, plainKeys := false, apart := false, narrowed := true }
def ModelApartUptoSaid : Prop := modelApartUptoRow.holds Try.pinned (OpenSpec.upto modelApartSpec)

/-- 'grapevinelaw26.ModelTells', WHERE WHAT IT READS IS OF BULK AT MOST 1048576: true; the input reads as it did. -/
def modelTellsUptoRow : OpenClaim := { program := "ytogepedlalfpjaa", sum := "3aa26e2a200fe43151ef323e8c5d5184a764ca35645044398182acf364ee35f5", func := "grapevine/grapevinelaw26.ModelTells", spec := "modelTells", unfollowed := true, recurses := true, plainKeys := false, apart := false, narrowed := true }
def ModelTellsUptoSaid : Prop := modelTellsUptoRow.holds Try.pinned (OpenSpec.upto modelTellsSpec)

/-- 'grapevinelaw26.ModelOnce', WHERE WHAT IT READS IS OF BULK AT MOST 1048576: true; the input reads as it did. -/
def modelOnceUptoRow : OpenClaim := { program := "ytogepedlalfpjaa", sum := "3aa26e2a200fe43151ef323e8c5d5184a764ca35645044398182acf364ee35f5", func := "grapevine/grapevinelaw26.ModelOnce", spec := "modelOnce", unfollowed := true, recurses := true, plainKeys := false, apart := false, narrowed := true }
def ModelOnceUptoSaid : Prop := modelOnceUptoRow.holds Try.pinned (OpenSpec.upto modelOnceSpec)

/-- 'grapevinelaw26.ModelOwed', WHERE WHAT IT READS IS OF BULK AT MOST 1048576: true; the input reads as it did. -/
def modelOwedUptoRow : OpenClaim := { program := "ytogepedlalfpjaa", sum := "3aa26e2a200fe43151ef323e8c5d5184a764ca35645044398182acf364ee35f5", func := "grapevine/grapevinelaw26.ModelOwed", spec := "modelOwed", unfollowed := true, recurses := true, plainKeys := false, apart := false, narrowed := true }
def ModelOwedUptoSaid : Prop := modelOwedUptoRow.holds Try.pinned (OpenSpec.upto modelOwedSpec)

/-- 'grapevinelaw26.ModelLives', WHERE WHAT IT READS IS OF BULK AT MOST 1048576: true; the input reads as it did. -/
def modelLivesUptoRow : OpenClaim := { program := "ytogepedlalfpjaa", sum := "3aa26e2a200fe43151ef323e8c5d5184a764ca35645044398182acf364ee35f5", func := "grapevine/grapevinelaw26.ModelLives", spec := "modelLives", unfollowed := true, recurses := true, plainKeys := false, apart := false, narrowed := true }
def ModelLivesUptoSaid : Prop := modelLivesUptoRow.holds Try.pinned (OpenSpec.upto modelLivesSpec)

end Rows
end Go.Proofs.Ytogepedlalfpjaa
