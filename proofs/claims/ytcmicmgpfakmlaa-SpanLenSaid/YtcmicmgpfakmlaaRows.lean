/-
  No cell of these rows narrows 'for every input' (looked for: loops, veiled, ifaces, maps, wideKeys, modest, calm, conditions, laid).
  DERIVED. THE GIVEN ROWS OF THIS SEAT. 5 by the template 'for every input the law returns true; each argument reads behind the call as it read before'; 0 by the template 'total and deterministic' (their statements: YtcmicmgpfakmlaaTotals.lean).
  GIVEN WITH THE SEED: the statements are not yours to turn. If you find one false, say at which input.
  Laid BY PROGRAM, IN A SANDBOX (cutbox-rows.mjs): the forced cells as the released guide's own fill.sh prints them over the translation 1060ea7c64d095c4… (all of the seat's roots in one cut). By AI agents, Wed Nov 11 2026. No macro, syntax, notation, axiom, sorry.
-/
import Derived.Test.YtcmicmgpfakmlaaChecked
import GoSem.Claim
import GoSem.ClaimJoined
import GoSem.ClaimMapViews
import Derived.JoinedTies
import Derived.KernelRfl
namespace Go.Proofs.Ytcmicmgpfakmlaa
/- THE CELL 'sum', in the pinned program and in every row, IS THE sha256 OF THE DUMP (.gsa) THAT YtcmicmgpfakmlaaProg.lean LOADS. Nothing in Lean hashes anything: it is a label: what it is worth is what the hold of that sum in a sandbox is worth. -/
noncomputable def Try.pinned : Pinned := { name := "ytcmicmgpfakmlaa", sum := "1060ea7c64d095c4d263d2ca9e9b481b0ff16759f84e8d8a049409a5da97055b", checked := Try.checked }
namespace Rows
def none {H : Type} : Left H := { results := [], args := [] }

/-- 'grapevinelaw04.SpanHull': WHATEVER THE INPUT: true; the input reads as it did. -/
def spanHullSpec : ChangeSpec := { name := "spanHull", fn := fun _ => fun
  | [d1, d2, d3] => { results := [.lit (.bool true)], args := [d1, d2, d3] }
  | _ => none }
def spanHullRow : OpenClaim := { program := "ytcmicmgpfakmlaa", sum := "1060ea7c64d095c4d263d2ca9e9b481b0ff16759f84e8d8a049409a5da97055b", func := "grapevine/grapevinelaw04.SpanHull", spec := "spanHull", apart := false }
def SpanHullSaid : Prop := spanHullRow.holds Try.pinned (OpenSpec.ofChange spanHullSpec)

/-- ITS FALSE NEIGHBOUR: 'it returns false'. Refute it at one input. -/
def spanHullWrong : ChangeSpec := { name := "spanHull", fn := fun _ => fun
  | [d1, d2, d3] => { results := [.lit (.bool false)], args := [d1, d2, d3] }
  | _ => none }
def SpanHullWrongFalsely : Prop := spanHullRow.holds Try.pinned (OpenSpec.ofChange spanHullWrong)

/-- 'grapevinelaw04.SpanTells': WHATEVER THE INPUT: true; the input reads as it did. -/
def spanTellsSpec : ChangeSpec := { name := "spanTells", fn := fun _ => fun
  | [d1, d2, d3] => { results := [.lit (.bool true)], args := [d1, d2, d3] }
  | _ => none }
def spanTellsRow : OpenClaim := { program := "ytcmicmgpfakmlaa", sum := "1060ea7c64d095c4d263d2ca9e9b481b0ff16759f84e8d8a049409a5da97055b", func := "grapevine/grapevinelaw04.SpanTells", spec := "spanTells", apart := false }
def SpanTellsSaid : Prop := spanTellsRow.holds Try.pinned (OpenSpec.ofChange spanTellsSpec)

/-- ITS FALSE NEIGHBOUR: 'it returns false'. Refute it at one input. -/
def spanTellsWrong : ChangeSpec := { name := "spanTells", fn := fun _ => fun
  | [d1, d2, d3] => { results := [.lit (.bool false)], args := [d1, d2, d3] }
  | _ => none }
def SpanTellsWrongFalsely : Prop := spanTellsRow.holds Try.pinned (OpenSpec.ofChange spanTellsWrong)

/-- 'grapevinelaw04.SpanMeet': WHATEVER THE INPUT: true; the input reads as it did. -/
def spanMeetSpec : ChangeSpec := { name := "spanMeet", fn := fun _ => fun
  | [d1, d2, d3, d4] => { results := [.lit (.bool true)], args := [d1, d2, d3, d4] }
  | _ => none }
def spanMeetRow : OpenClaim := { program := "ytcmicmgpfakmlaa", sum := "1060ea7c64d095c4d263d2ca9e9b481b0ff16759f84e8d8a049409a5da97055b", func := "grapevine/grapevinelaw04.SpanMeet", spec := "spanMeet", unfollowed := true, recurses := true, apart := false }
def SpanMeetSaid : Prop := spanMeetRow.holds Try.pinned (OpenSpec.ofChange spanMeetSpec)

/-- ITS FALSE NEIGHBOUR: 'it returns false'. Refute it at one input. -/
def spanMeetWrong : ChangeSpec := { name := "spanMeet", fn := fun _ => fun
  | [d1, d2, d3, d4] => { results := [.lit (.bool false)], args := [d1, d2, d3, d4] }
  | _ => none }
def SpanMeetWrongFalsely : Prop := spanMeetRow.holds Try.pinned (OpenSpec.ofChange spanMeetWrong)

/-- 'grapevinelaw04.SpanCovers': WHATEVER THE INPUT: true; the input reads as it did. -/
def spanCoversSpec : ChangeSpec := { name := "spanCovers", fn := fun _ => fun
  | [d1, d2, d3, d4] => { results := [.lit (.bool true)], args := [d1, d2, d3, d4] }
  | _ => none }
def spanCoversRow : OpenClaim := { program := "ytcmicmgpfakmlaa", sum := "1060ea7c64d095c4d263d2ca9e9b481b0ff16759f84e8d8a049409a5da97055b", func := "grapevine/grapevinelaw04.SpanCovers", spec := "spanCovers", apart := false }
def SpanCoversSaid : Prop := spanCoversRow.holds Try.pinned (OpenSpec.ofChange spanCoversSpec)

/-- ITS FALSE NEIGHBOUR: 'it returns false'. Refute it at one input. -/
def spanCoversWrong : ChangeSpec := { name := "spanCovers", fn := fun _ => fun
  | [d1, d2, d3, d4] => { results := [.lit (.bool false)], args := [d1, d2, d3, d4] }
  | _ => none }
def SpanCoversWrongFalsely : Prop := spanCoversRow.holds Try.pinned (OpenSpec.ofChange spanCoversWrong)

/-- 'grapevinelaw04.SpanLen': WHATEVER THE INPUT: true; the input reads as it did. -/
def spanLenSpec : ChangeSpec := { name := "spanLen", fn := fun _ => fun
  | [d1, d2] => { results := [.lit (.bool true)], args := [d1, d2] }
  | _ => none }
def spanLenRow : OpenClaim := { program := "ytcmicmgpfakmlaa", sum := "1060ea7c64d095c4d263d2ca9e9b481b0ff16759f84e8d8a049409a5da97055b", func := "grapevine/grapevinelaw04.SpanLen", spec := "spanLen", apart := false }
def SpanLenSaid : Prop := spanLenRow.holds Try.pinned (OpenSpec.ofChange spanLenSpec)

/-- ITS FALSE NEIGHBOUR: 'it returns false'. Refute it at one input. -/
def spanLenWrong : ChangeSpec := { name := "spanLen", fn := fun _ => fun
  | [d1, d2] => { results := [.lit (.bool false)], args := [d1, d2] }
  | _ => none }
def SpanLenWrongFalsely : Prop := spanLenRow.holds Try.pinned (OpenSpec.ofChange spanLenWrong)

/- THE SECOND FORM. 'bulk': how many values and letters a reading holds, each counted each time it is reached (what is shared counts as often as it is met; a slice's spare places count too). A statement '..UptoSaid' is the law's where the arguments, and the package variables that the reading takes, are together of bulk at most 1048576: NARROWER than '..Said'. Prove '..Said' where nothing that the law and all that it calls make is longer than what came in: it says more and counts as full. Else prove '..UptoSaid'. A law counts once. -/
mutual
def uptoBulk {H : Type} : DataW H → Nat
  | .lit (.string bytes) => bytes.length + 1
  | .lit _ => 1
  | .nil => 1
  | .ptr d => uptoBulk d + 1
  | .slice elems spare => uptoBulkAll elems + uptoBulkAll spare + 1
  | .agg parts => uptoBulkAll parts + 1
  | .iface _ d => uptoBulk d + 1
  | .map entries => uptoBulkEntries entries + 1
  | .held _ => 1
def uptoBulkAll {H : Type} : List (DataW H) → Nat
  | [] => 0
  | d :: r => uptoBulk d + uptoBulkAll r
def uptoBulkEntries {H : Type} : List (Lit × DataW H) → Nat
  | [] => 0
  | x :: r => uptoBulkEntry x + uptoBulkEntries r
def uptoBulkEntry {H : Type} : Lit × DataW H → Nat
  | (.string bytes, d) => bytes.length + uptoBulk d + 1
  | (_, d) => uptoBulk d + 1
 end
def uptoSmall : (H : Type) → List (DataW H) → Bool := fun _ ds => decide (uptoBulkAll ds ≤ 1048576)
def OpenSpec.upto (s : _root_.Go.ChangeSpec) : _root_.Go.OpenSpec := { _root_.Go.OpenSpec.ofChange s with cond := some uptoSmall }

/-- 'grapevinelaw04.SpanHull', WHERE WHAT IT READS IS OF BULK AT MOST 1048576: true; the input reads as it did. -/
def spanHullUptoRow : OpenClaim := { program := "ytcmicmgpfakmlaa", sum := "1060ea7c64d095c4d263d2ca9e9b481b0ff16759f84e8d8a049409a5da97055b", func := "grapevine/grapevinelaw04.SpanHull", spec := "spanHull", apart := false, narrowed := true }
def SpanHullUptoSaid : Prop := spanHullUptoRow.holds Try.pinned (OpenSpec.upto spanHullSpec)

/-- 'grapevinelaw04.SpanTells', WHERE WHAT IT READS IS OF BULK AT MOST 1048576: true; the input reads as it did. -/
def spanTellsUptoRow : OpenClaim := { program := "ytcmicmgpfakmlaa", sum := "1060ea7c64d095c4d263d2ca9e9b481b0ff16759f84e8d8a049409a5da97055b", func := "grapevine/grapevinelaw04.SpanTells", spec := "spanTells", apart := false, narrowed := true }
def SpanTellsUptoSaid : Prop := spanTellsUptoRow.holds Try.pinned (OpenSpec.upto spanTellsSpec)

/-- 'grapevinelaw04.SpanMeet', WHERE WHAT IT READS IS OF BULK AT MOST 1048576: true; the input reads as it did. -/
def spanMeetUptoRow : OpenClaim := { program := "ytcmicmgpfakmlaa", sum := "1060ea7c64d095c4d263d2ca9e9b481b0ff16759f84e8d8a049409a5da97055b", func := "grapevine/grapevinelaw04.SpanMeet", spec := "spanMeet", unfollowed := true, recurses := true, apart := false, narrowed := true }
def SpanMeetUptoSaid : Prop := spanMeetUptoRow.holds Try.pinned (OpenSpec.upto spanMeetSpec)

/-- 'grapevinelaw04.SpanCovers', WHERE WHAT IT READS IS OF BULK AT MOST 1048576: true; the input reads as it did. -/
def spanCoversUptoRow : OpenClaim := { program := "ytcmicmgpfakmlaa", sum := "1060ea7c64d095c4d263d2ca9e9b481b0ff16759f84e8d8a049409a5da97055b", func := "grapevine/grapevinelaw04.SpanCovers", spec := "spanCovers", apart := false, narrowed := true }
def SpanCoversUptoSaid : Prop := spanCoversUptoRow.holds Try.pinned (OpenSpec.upto spanCoversSpec)

/-- 'grapevinelaw04.SpanLen', WHERE WHAT IT READS IS OF BULK AT MOST 1048576: true; the input reads as it did. -/
def spanLenUptoRow : OpenClaim := { program := "ytcmicmgpfakmlaa", sum := "1060ea7c64d095c4d263d2ca9e9b481b0ff16759f84e8d8a049409a5da97055b", func := "grapevine/grapevinelaw04.SpanLen", spec := "spanLen", apart := false, narrowed := true }
def SpanLenUptoSaid : Prop := spanLenUptoRow.holds Try.pinned (OpenSpec.upto spanLenSpec)

end Rows
end Go.Proofs.Ytcmicmgpfakmlaa
