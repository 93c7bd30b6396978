/-
  No cell of these rows narrows 'for every input' (looked for: loops, veiled, ifaces, maps, wideKeys, modest, calm, conditions, laid).
  DERIVED. THE GIVEN ROWS OF THIS SEAT. 5 by the template 'for every input the law returns true; each argument reads behind the call as it read before'; 0 by the template 'total and deterministic' (their statements: YtbdkokkmheobdaaTotals.lean).
  GIVEN WITH THE SEED: the statements are not yours to turn. If you find one false, say at which input.
  Laid BY PROGRAM, IN A SANDBOX (cutbox-rows.mjs): the forced cells as the released guide's own fill.sh prints them over the translation a1cf3b4071109615… (all of the seat's roots in one cut). By AI agents, Wed Nov 11 2026. No macro, syntax, notation, axiom, sorry.
-/
import Derived.Test.YtbdkokkmheobdaaChecked
import GoSem.Claim
import GoSem.ClaimJoined
import GoSem.ClaimMapViews
import Derived.JoinedTies
import Derived.KernelRfl
namespace Go.Proofs.Ytbdkokkmheobdaa
/- THE CELL 'sum', in the pinned program and in every row, IS THE sha256 OF THE DUMP (.gsa) THAT YtbdkokkmheobdaaProg.lean LOADS. Nothing in Lean hashes anything: it is a label: what it is worth is what the hold of that sum in a sandbox is worth. -/
noncomputable def Try.pinned : Pinned := { name := "ytbdkokkmheobdaa", sum := "a1cf3b4071109615c179f0d230ea447e08f7ad2b3c69821083d01ab7d5930a1f", checked := Try.checked }
namespace Rows
def none {H : Type} : Left H := { results := [], args := [] }

/-- 'grapevinelaw12.NearTells': WHATEVER THE INPUT: true; the input reads as it did. -/
def nearTellsSpec : ChangeSpec := { name := "nearTells", fn := fun _ => fun
  | [d1, d2, d3, d4, d5] => { results := [.lit (.bool true)], args := [d1, d2, d3, d4, d5] }
  | _ => none }
def nearTellsRow : OpenClaim := { program := "ytbdkokkmheobdaa", sum := "a1cf3b4071109615c179f0d230ea447e08f7ad2b3c69821083d01ab7d5930a1f", func := "grapevine/grapevinelaw12.NearTells", spec := "nearTells", unfollowed := true, recurses := true, apart := false }
def NearTellsSaid : Prop := nearTellsRow.holds Try.pinned (OpenSpec.ofChange nearTellsSpec)

/-- ITS FALSE NEIGHBOUR: 'it returns false'. Refute it at one input. -/
def nearTellsWrong : ChangeSpec := { name := "nearTells", fn := fun _ => fun
  | [d1, d2, d3, d4, d5] => { results := [.lit (.bool false)], args := [d1, d2, d3, d4, d5] }
  | _ => none }
def NearTellsWrongFalsely : Prop := nearTellsRow.holds Try.pinned (OpenSpec.ofChange nearTellsWrong)

/-- 'grapevinelaw12.NearOrder': WHATEVER THE INPUT: true; the input reads as it did. -/
def nearOrderSpec : ChangeSpec := { name := "nearOrder", fn := fun _ => fun
  | [d1, d2, d3, d4] => { results := [.lit (.bool true)], args := [d1, d2, d3, d4] }
  | _ => none }
def nearOrderRow : OpenClaim := { program := "ytbdkokkmheobdaa", sum := "a1cf3b4071109615c179f0d230ea447e08f7ad2b3c69821083d01ab7d5930a1f", func := "grapevine/grapevinelaw12.NearOrder", spec := "nearOrder", unfollowed := true, recurses := true, apart := false }
def NearOrderSaid : Prop := nearOrderRow.holds Try.pinned (OpenSpec.ofChange nearOrderSpec)

/-- ITS FALSE NEIGHBOUR: 'it returns false'. Refute it at one input. -/
def nearOrderWrong : ChangeSpec := { name := "nearOrder", fn := fun _ => fun
  | [d1, d2, d3, d4] => { results := [.lit (.bool false)], args := [d1, d2, d3, d4] }
  | _ => none }
def NearOrderWrongFalsely : Prop := nearOrderRow.holds Try.pinned (OpenSpec.ofChange nearOrderWrong)

/-- 'grapevinelaw12.NearRoom': WHATEVER THE INPUT: true; the input reads as it did. -/
def nearRoomSpec : ChangeSpec := { name := "nearRoom", fn := fun _ => fun
  | [d1, d2, d3, d4, d5] => { results := [.lit (.bool true)], args := [d1, d2, d3, d4, d5] }
  | _ => none }
def nearRoomRow : OpenClaim := { program := "ytbdkokkmheobdaa", sum := "a1cf3b4071109615c179f0d230ea447e08f7ad2b3c69821083d01ab7d5930a1f", func := "grapevine/grapevinelaw12.NearRoom", spec := "nearRoom", unfollowed := true, recurses := true, apart := false }
def NearRoomSaid : Prop := nearRoomRow.holds Try.pinned (OpenSpec.ofChange nearRoomSpec)

/-- ITS FALSE NEIGHBOUR: 'it returns false'. Refute it at one input. -/
def nearRoomWrong : ChangeSpec := { name := "nearRoom", fn := fun _ => fun
  | [d1, d2, d3, d4, d5] => { results := [.lit (.bool false)], args := [d1, d2, d3, d4, d5] }
  | _ => none }
def NearRoomWrongFalsely : Prop := nearRoomRow.holds Try.pinned (OpenSpec.ofChange nearRoomWrong)

/-- 'grapevinelaw12.NearUnion': WHATEVER THE INPUT: true; the input reads as it did. -/
def nearUnionSpec : ChangeSpec := { name := "nearUnion", fn := fun _ => fun
  | [d1, d2, d3] => { results := [.lit (.bool true)], args := [d1, d2, d3] }
  | _ => none }
def nearUnionRow : OpenClaim := { program := "ytbdkokkmheobdaa", sum := "a1cf3b4071109615c179f0d230ea447e08f7ad2b3c69821083d01ab7d5930a1f", func := "grapevine/grapevinelaw12.NearUnion", spec := "nearUnion", unfollowed := true, recurses := true, apart := false }
def NearUnionSaid : Prop := nearUnionRow.holds Try.pinned (OpenSpec.ofChange nearUnionSpec)

/-- ITS FALSE NEIGHBOUR: 'it returns false'. Refute it at one input. -/
def nearUnionWrong : ChangeSpec := { name := "nearUnion", fn := fun _ => fun
  | [d1, d2, d3] => { results := [.lit (.bool false)], args := [d1, d2, d3] }
  | _ => none }
def NearUnionWrongFalsely : Prop := nearUnionRow.holds Try.pinned (OpenSpec.ofChange nearUnionWrong)

/-- 'grapevinelaw12.NearBest': WHATEVER THE INPUT: true; the input reads as it did. -/
def nearBestSpec : ChangeSpec := { name := "nearBest", fn := fun _ => fun
  | [d1, d2, d3, d4, d5] => { results := [.lit (.bool true)], args := [d1, d2, d3, d4, d5] }
  | _ => none }
def nearBestRow : OpenClaim := { program := "ytbdkokkmheobdaa", sum := "a1cf3b4071109615c179f0d230ea447e08f7ad2b3c69821083d01ab7d5930a1f", func := "grapevine/grapevinelaw12.NearBest", spec := "nearBest", unfollowed := true, recurses := true, apart := false }
def NearBestSaid : Prop := nearBestRow.holds Try.pinned (OpenSpec.ofChange nearBestSpec)

/-- ITS FALSE NEIGHBOUR: 'it returns false'. Refute it at one input. -/
def nearBestWrong : ChangeSpec := { name := "nearBest", fn := fun _ => fun
  | [d1, d2, d3, d4, d5] => { results := [.lit (.bool false)], args := [d1, d2, d3, d4, d5] }
  | _ => none }
def NearBestWrongFalsely : Prop := nearBestRow.holds Try.pinned (OpenSpec.ofChange nearBestWrong)

/- THE SECOND FORM. 'bulk': how many values and letters a reading holds, each counted each time it is reached (what is shared counts as often as it is met; a slice's spare places count too). A statement '..UptoSaid' is the law's where the arguments, and the package variables that the reading takes, are together of bulk at most 1048576: NARROWER than '..Said'. Prove '..Said' where nothing that the law and all that it calls make is longer than what came in: it says more and counts as full. Else prove '..UptoSaid'. A law counts once. -/
mutual
def uptoBulk {H : Type} : DataW H → Nat
  | .lit (.string bytes) => bytes.length + 1
  | .lit _ => 1
  | .nil => 1
  | .ptr d => uptoBulk d + 1
  | .slice elems spare => uptoBulkAll elems + uptoBulkAll spare + 1
  | .agg parts => uptoBulkAll parts + 1
  | .iface _ d => uptoBulk d + 1
  | .map entries => uptoBulkEntries entries + 1
  | .held _ => 1
def uptoBulkAll {H : Type} : List (DataW H) → Nat
  | [] => 0
  | d :: r => uptoBulk d + uptoBulkAll r
def uptoBulkEntries {H : Type} : List (Lit × DataW H) → Nat
  | [] => 0
  | x :: r => uptoBulkEntry x + uptoBulkEntries r
def uptoBulkEntry {H : Type} : Lit × DataW H → Nat
  | (.string bytes, d) => bytes.length + uptoBulk d + 1
  | (_, d) => uptoBulk d + 1
 end
def uptoSmall : (H : Type) → List (DataW H) → Bool := fun _ ds => decide (uptoBulkAll ds ≤ 1048576)
def OpenSpec.upto (s : _root_.Go.ChangeSpec) : _root_.Go.OpenSpec := { _root_.Go.OpenSpec.ofChange s with cond := some uptoSmall }

/-- 'grapevinelaw12.NearTells', WHERE WHAT IT READS IS OF BULK AT MOST 1048576: true; the input reads as it did. -/
def nearTellsUptoRow : OpenClaim := { program := "ytbdkokkmheobdaa", sum := "a1cf3b4071109615c179f0d230ea447e08f7ad2b3c69821083d01ab7d5930a1f", func := "grapevine/grapevinelaw12.NearTells", spec := "nearTells", unfollowed := true, recurses := true, apart := false, narrowed := true }
def NearTellsUptoSaid : Prop := nearTellsUptoRow.holds Try.pinned (OpenSpec.upto nearTellsSpec)

/-- 'grapevinelaw12.NearOrder', WHERE WHAT IT READS IS OF BULK AT MOST 1048576: true; the input reads as it did. -/
def nearOrderUptoRow : OpenClaim := { program := "ytbdkokkmheobdaa", sum := "a1cf3b4071109615c179f0d230ea447e08f7ad2b3c69821083d01ab7d5930a1f", func := "grapevine/grapevinelaw12.NearOrder", spec := "nearOrder", unfollowed := true, recurses := true, apart := false, narrowed := true }
def NearOrderUptoSaid : Prop := nearOrderUptoRow.holds Try.pinned (OpenSpec.upto nearOrderSpec)

/-- 'grapevinelaw12.NearRoom', WHERE WHAT IT READS IS OF BULK AT MOST 1048576: true; the input reads as it did. -/
def nearRoomUptoRow : OpenClaim := { program := "ytbdkokkmheobdaa", sum := "a1cf3b4071109615c179f0d230ea447e08f7ad2b3c69821083d01ab7d5930a1f", func := "grapevine/grapevinelaw12.NearRoom", spec := "nearRoom", unfollowed := true, recurses := true, apart := false, narrowed := true }
def NearRoomUptoSaid : Prop := nearRoomUptoRow.holds Try.pinned (OpenSpec.upto nearRoomSpec)

/-- 'grapevinelaw12.NearUnion', WHERE WHAT IT READS IS OF BULK AT MOST 1048576: true; the input reads as it did. -/
def nearUnionUptoRow : OpenClaim := { program := "ytbdkokkmheobdaa", sum := "a1cf3b4071109615c179f0d230ea447e08f7ad2b3c69821083d01ab7d5930a1f", func := "grapevine/grapevinelaw12.NearUnion", spec := "nearUnion", unfollowed := true, recurses := true, apart := false, narrowed := true }
def NearUnionUptoSaid : Prop := nearUnionUptoRow.holds Try.pinned (OpenSpec.upto nearUnionSpec)

/-- 'grapevinelaw12.NearBest', WHERE WHAT IT READS IS OF BULK AT MOST 1048576: true; the input reads as it did. -/
def nearBestUptoRow : OpenClaim := { program := "ytbdkokkmheobdaa", sum := "a1cf3b4071109615c179f0d230ea447e08f7ad2b3c69821083d01ab7d5930a1f", func := "grapevine/grapevinelaw12.NearBest", spec := "nearBest", unfollowed := true, recurses := true, apart := false, narrowed := true }
def NearBestUptoSaid : Prop := nearBestUptoRow.holds Try.pinned (OpenSpec.upto nearBestSpec)

end Rows
end Go.Proofs.Ytbdkokkmheobdaa
