/-
  No cell of these rows narrows 'for every input' (looked for: loops, veiled, ifaces, maps, wideKeys, modest, calm, conditions, laid).
  DERIVED. THE GIVEN ROWS OF THIS SEAT. 4 by the template 'for every input the law returns true; each argument reads behind the call as it read before'; 0 by the template 'total and deterministic' (their statements: YtmpfeaoofkkhjaaGreatTotals.lean).
  GIVEN WITH THE SEED: the statements are not yours to turn. If you find one false, say at which input.
  Laid BY PROGRAM, IN A SANDBOX (cutbox-rows.mjs): the forced cells as the released guide's own fill.sh prints them over the translation a81175dbed4b11c3… (all of the seat's roots in one cut). By AI agents, Wed Nov 11 2026. No macro, syntax, notation, axiom, sorry.
-/
import Derived.Test.YtmpfeaoofkkhjaaGreatChecked
import GoSem.Claim
import GoSem.ClaimJoined
import GoSem.ClaimMapViews
import Derived.JoinedTies
import Derived.KernelRfl
namespace Go.Proofs.YtmpfeaoofkkhjaaGreat
/- THE CELL 'sum', in the pinned program and in every row, IS THE sha256 OF THE DUMP (.gsa) THAT YtmpfeaoofkkhjaaGreatProg.lean LOADS. Nothing in Lean hashes anything: it is a label: what it is worth is what the hold of that sum in a sandbox is worth. -/
noncomputable def Tryz.pinned : Pinned := { name := "ytmpfeaoofkkhjaagreat", sum := "a81175dbed4b11c35ee72863765fad9c4e6d33f1c7ea188810d253141ea6537a", checked := Tryz.checked }
namespace Rows
def none {H : Type} : Left H := { results := [], args := [] }

/-- 'grapevinelaw20.MesgParts': WHATEVER THE INPUT: true; the input reads as it did. -/
def mesgPartsSpec : ChangeSpec := { name := "mesgParts", fn := fun _ => fun
  | [d1, d2, d3] => { results := [.lit (.bool true)], args := [d1, d2, d3] }
  | _ => none }
def mesgPartsRow : OpenClaim := { program := "ytmpfeaoofkkhjaagreat", sum := "a81175dbed4b11c35ee72863765fad9c4e6d33f1c7ea188810d253141ea6537a", func := "grapevine/grapevinelaw20.MesgParts", spec := "mesgParts", unfollowed := true, recurses := true, apart := false }
def MesgPartsSaid : Prop := mesgPartsRow.holds Tryz.pinned (OpenSpec.ofChange mesgPartsSpec)

/-- ITS FALSE NEIGHBOUR: 'it returns false'. Refute it at one input. -/
def mesgPartsWrong : ChangeSpec := { name := "mesgParts", fn := fun _ => fun
  | [d1, d2, d3] => { results := [.lit (.bool false)], args := [d1, d2, d3] }
  | _ => none }
def MesgPartsWrongFalsely : Prop := mesgPartsRow.holds Tryz.pinned (OpenSpec.ofChange mesgPartsWrong)

/-- 'grapevinelaw20.MesgTells': WHATEVER THE INPUT: true; the input reads as it did. -/
def mesgTellsSpec : ChangeSpec := { name := "mesgTells", fn := fun _ => fun
  | [d1, d2] => { results := [.lit (.bool true)], args := [d1, d2] }
  | _ => none }
def mesgTellsRow : OpenClaim := { program := "ytmpfeaoofkkhjaagreat", sum := "a81175dbed4b11c35ee72863765fad9c4e6d33f1c7ea188810d253141ea6537a", func := "grapevine/grapevinelaw20.MesgTells", spec := "mesgTells", unfollowed := true, recurses := true, apart := false }
def MesgTellsSaid : Prop := mesgTellsRow.holds Tryz.pinned (OpenSpec.ofChange mesgTellsSpec)

/-- ITS FALSE NEIGHBOUR: 'it returns false'. Refute it at one input. -/
def mesgTellsWrong : ChangeSpec := { name := "mesgTells", fn := fun _ => fun
  | [d1, d2] => { results := [.lit (.bool false)], args := [d1, d2] }
  | _ => none }
def MesgTellsWrongFalsely : Prop := mesgTellsRow.holds Tryz.pinned (OpenSpec.ofChange mesgTellsWrong)

/-- 'grapevinelaw20.MesgBack': WHATEVER THE INPUT: true; the input reads as it did. -/
def mesgBackSpec : ChangeSpec := { name := "mesgBack", fn := fun _ => fun
  | [d1, d2, d3] => { results := [.lit (.bool true)], args := [d1, d2, d3] }
  | _ => none }
def mesgBackRow : OpenClaim := { program := "ytmpfeaoofkkhjaagreat", sum := "a81175dbed4b11c35ee72863765fad9c4e6d33f1c7ea188810d253141ea6537a", func := "grapevine/grapevinelaw20.MesgBack", spec := "mesgBack", unfollowed := true, recurses := true, apart := false }
def MesgBackSaid : Prop := mesgBackRow.holds Tryz.pinned (OpenSpec.ofChange mesgBackSpec)

/-- ITS FALSE NEIGHBOUR: 'it returns false'. Refute it at one input. -/
def mesgBackWrong : ChangeSpec := { name := "mesgBack", fn := fun _ => fun
  | [d1, d2, d3] => { results := [.lit (.bool false)], args := [d1, d2, d3] }
  | _ => none }
def MesgBackWrongFalsely : Prop := mesgBackRow.holds Tryz.pinned (OpenSpec.ofChange mesgBackWrong)

/-- 'grapevinelaw20.MesgApart': WHATEVER THE INPUT: true; the input reads as it did. -/
def mesgApartSpec : ChangeSpec := { name := "mesgApart", fn := fun _ => fun
  | [d] => { results := [.lit (.bool true)], args := [d] }
  | _ => none }
def mesgApartRow : OpenClaim := { program := "ytmpfeaoofkkhjaagreat", sum := "a81175dbed4b11c35ee72863765fad9c4e6d33f1c7ea188810d253141ea6537a", func := "grapevine/grapevinelaw20.MesgApart", spec := "mesgApart", unfollowed := true, recurses := true, apart := false }
def MesgApartSaid : Prop := mesgApartRow.holds Tryz.pinned (OpenSpec.ofChange mesgApartSpec)

/-- ITS FALSE NEIGHBOUR: 'it returns false'. Refute it at one input. -/
def mesgApartWrong : ChangeSpec := { name := "mesgApart", fn := fun _ => fun
  | [d] => { results := [.lit (.bool false)], args := [d] }
  | _ => none }
def MesgApartWrongFalsely : Prop := mesgApartRow.holds Tryz.pinned (OpenSpec.ofChange mesgApartWrong)

/- THE SECOND FORM. 'bulk': how many values and letters a reading holds, each counted each time it is reached (what is shared counts as often as it is met; a slice's spare places count too). A statement '..UptoSaid' is the law's where the arguments, and the package variables that the reading takes, are together of bulk at most 1048576: NARROWER than '..Said'. Prove '..Said' where nothing that the law and all that it calls make is longer than what came in: it says more and counts as full. Else prove '..UptoSaid'. A law counts once. -/
mutual
def uptoBulk {H : Type} : DataW H → Nat
  | .lit (.string bytes) => bytes.length + 1
  | .lit _ => 1
  | .nil => 1
  | .ptr d => uptoBulk d + 1
  | .slice elems spare => uptoBulkAll elems + uptoBulkAll spare + 1
  | .agg parts => uptoBulkAll parts + 1
  | .iface _ d => uptoBulk d + 1
  | .map entries => uptoBulkEntries entries + 1
  | .held _ => 1
def uptoBulkAll {H : Type} : List (DataW H) → Nat
  | [] => 0
  | d :: r => uptoBulk d + uptoBulkAll r
def uptoBulkEntries {H : Type} : List (Lit × DataW H) → Nat
  | [] => 0
  | x :: r => uptoBulkEntry x + uptoBulkEntries r
def uptoBulkEntry {H : Type} : Lit × DataW H → Nat
  | (.string bytes, d) => bytes.length + uptoBulk d + 1
  | (_, d) => uptoBulk d + 1
 end
def uptoSmall : (H : Type) → List (DataW H) → Bool := fun _ ds => decide (uptoBulkAll ds ≤ 1048576)
def OpenSpec.upto (s : _root_.Go.ChangeSpec) : _root_.Go.OpenSpec := { _root_.Go.OpenSpec.ofChange s with cond := some uptoSmall }

/-- 'grapevinelaw20.MesgParts', WHERE WHAT IT READS IS OF BULK AT MOST 1048576: true; the input reads as it did. -/
def mesgPartsUptoRow : OpenClaim := { program := "ytmpfeaoofkkhjaagreat", sum := "a81175dbed4b11c35ee72863765fad9c4e6d33f1c7ea188810d253141ea6537a", func := "grapevine/grapevinelaw20.MesgParts", spec := "mesgParts", unfollowed := true, recurses := true, apart := false, narrowed := true }
def MesgPartsUptoSaid : Prop := mesgPartsUptoRow.holds Tryz.pinned (OpenSpec.upto mesgPartsSpec)

/-- 'grapevinelaw20.MesgTells', WHERE WHAT IT READS IS OF BULK AT MOST 1048576: true; the input reads as it did. -/
def mesgTellsUptoRow : OpenClaim := { program := "ytmpfeaoofkkhjaagreat", sum := "a81175dbed4b11c35ee72863765fad9c4e6d33f1c7ea188810d253141ea6537a", func := "grapevine/grapevinelaw20.MesgTells", spec := "mesgTells", unfollowed := true, recurses := true, apart := false, narrowed := true }
def MesgTellsUptoSaid : Prop := mesgTellsUptoRow.holds Tryz.pinned (OpenSpec.upto mesgTellsSpec)

/-- 'grapevinelaw20.MesgBack', WHERE WHAT IT READS IS OF BULK AT MOST 1048576: true; the input reads as it did. -/
def mesgBackUptoRow : OpenClaim := { program := "ytmpfeaoofkkhjaagreat", sum := "a81175dbed4b11c35ee72863765fad9c4e6d33f1c7ea188810d253141ea6537a", func := "grapevine/grapevinelaw20.MesgBack", spec := "mesgBack", unfollowed := true, recurses := true, apart := false, narrowed := true }
def MesgBackUptoSaid : Prop := mesgBackUptoRow.holds Tryz.pinned (OpenSpec.upto mesgBackSpec)

/-- 'grapevinelaw20.MesgApart', WHERE WHAT IT READS IS OF BULK AT MOST 1048576: true; the input reads as it did. -/
def mesgApartUptoRow : OpenClaim := { program := "ytmpfeaoofkkhjaagreat", sum := "a81175dbed4b11c35ee72863765fad9c4e6d33f1c7ea188810d253141ea6537a", func := "grapevine/grapevinelaw20.MesgApart", spec := "mesgApart", unfollowed := true, recurses := true, apart := false, narrowed := true }
def MesgApartUptoSaid : Prop := mesgApartUptoRow.holds Tryz.pinned (OpenSpec.upto mesgApartSpec)

end Rows
end Go.Proofs.YtmpfeaoofkkhjaaGreat
