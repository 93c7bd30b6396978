/-
  No cell of these rows narrows 'for every input' (looked for: loops, veiled, ifaces, maps, wideKeys, modest, calm, conditions, laid).
  DERIVED. THE GIVEN ROWS OF THIS SEAT. 5 by the template 'for every input the law returns true; each argument reads behind the call as it read before'; 0 by the template 'total and deterministic' (their statements: YtddhljoglhfhdaaTotals.lean).
  GIVEN WITH THE SEED: the statements are not yours to turn. If you find one false, say at which input.
  Laid BY PROGRAM, IN A SANDBOX (cutbox-rows.mjs): the forced cells as the released guide's own fill.sh prints them over the translation 9fe0138bb16ba40b… (all of the seat's roots in one cut). By AI agents, Wed Nov 11 2026. No macro, syntax, notation, axiom, sorry.
-/
import Derived.Test.YtddhljoglhfhdaaChecked
import GoSem.Claim
import GoSem.ClaimJoined
import GoSem.ClaimMapViews
import Derived.JoinedTies
import Derived.KernelRfl
namespace Go.Proofs.Ytddhljoglhfhdaa
/- THE CELL 'sum', in the pinned program and in every row, IS THE sha256 OF THE DUMP (.gsa) THAT YtddhljoglhfhdaaProg.lean LOADS. Nothing in Lean hashes anything: it is a label: what it is worth is what the hold of that sum in a sandbox is worth. -/
noncomputable def Try.pinned : Pinned := { name := "ytddhljoglhfhdaa", sum := "9fe0138bb16ba40b5e753a1fffcbcb4ad2c6204d999e8dcb837e27e9cc7e769c", checked := Try.checked }
namespace Rows
def none {H : Type} : Left H := { results := [], args := [] }

/-- 'grapevinelaw13.RingRound': WHATEVER THE INPUT: true; the input reads as it did. -/
def ringRoundSpec : ChangeSpec := { name := "ringRound", fn := fun _ => fun
  | [d1, d2] => { results := [.lit (.bool true)], args := [d1, d2] }
  | _ => none }
def ringRoundRow : OpenClaim := { program := "ytddhljoglhfhdaa", sum := "9fe0138bb16ba40b5e753a1fffcbcb4ad2c6204d999e8dcb837e27e9cc7e769c", func := "grapevine/grapevinelaw13.RingRound", spec := "ringRound", unfollowed := true, recurses := true, apart := false }
def RingRoundSaid : Prop := ringRoundRow.holds Try.pinned (OpenSpec.ofChange ringRoundSpec)

/-- ITS FALSE NEIGHBOUR: 'it returns false'. Refute it at one input. -/
def ringRoundWrong : ChangeSpec := { name := "ringRound", fn := fun _ => fun
  | [d1, d2] => { results := [.lit (.bool false)], args := [d1, d2] }
  | _ => none }
def RingRoundWrongFalsely : Prop := ringRoundRow.holds Try.pinned (OpenSpec.ofChange ringRoundWrong)

/-- 'grapevinelaw13.RingEnds': WHATEVER THE INPUT: true; the input reads as it did. -/
def ringEndsSpec : ChangeSpec := { name := "ringEnds", fn := fun _ => fun
  | [d1, d2, d3, d4] => { results := [.lit (.bool true)], args := [d1, d2, d3, d4] }
  | _ => none }
def ringEndsRow : OpenClaim := { program := "ytddhljoglhfhdaa", sum := "9fe0138bb16ba40b5e753a1fffcbcb4ad2c6204d999e8dcb837e27e9cc7e769c", func := "grapevine/grapevinelaw13.RingEnds", spec := "ringEnds", unfollowed := true, recurses := true, apart := false }
def RingEndsSaid : Prop := ringEndsRow.holds Try.pinned (OpenSpec.ofChange ringEndsSpec)

/-- ITS FALSE NEIGHBOUR: 'it returns false'. Refute it at one input. -/
def ringEndsWrong : ChangeSpec := { name := "ringEnds", fn := fun _ => fun
  | [d1, d2, d3, d4] => { results := [.lit (.bool false)], args := [d1, d2, d3, d4] }
  | _ => none }
def RingEndsWrongFalsely : Prop := ringEndsRow.holds Try.pinned (OpenSpec.ofChange ringEndsWrong)

/-- 'grapevinelaw13.RingFar': WHATEVER THE INPUT: true; the input reads as it did. -/
def ringFarSpec : ChangeSpec := { name := "ringFar", fn := fun _ => fun
  | [d1, d2, d3, d4, d5] => { results := [.lit (.bool true)], args := [d1, d2, d3, d4, d5] }
  | _ => none }
def ringFarRow : OpenClaim := { program := "ytddhljoglhfhdaa", sum := "9fe0138bb16ba40b5e753a1fffcbcb4ad2c6204d999e8dcb837e27e9cc7e769c", func := "grapevine/grapevinelaw13.RingFar", spec := "ringFar", unfollowed := true, recurses := true, apart := false }
def RingFarSaid : Prop := ringFarRow.holds Try.pinned (OpenSpec.ofChange ringFarSpec)

/-- ITS FALSE NEIGHBOUR: 'it returns false'. Refute it at one input. -/
def ringFarWrong : ChangeSpec := { name := "ringFar", fn := fun _ => fun
  | [d1, d2, d3, d4, d5] => { results := [.lit (.bool false)], args := [d1, d2, d3, d4, d5] }
  | _ => none }
def RingFarWrongFalsely : Prop := ringFarRow.holds Try.pinned (OpenSpec.ofChange ringFarWrong)

/-- 'grapevinelaw13.RingTells': WHATEVER THE INPUT: true; the input reads as it did. -/
def ringTellsSpec : ChangeSpec := { name := "ringTells", fn := fun _ => fun
  | [d1, d2, d3, d4, d5, d6, d7] => { results := [.lit (.bool true)], args := [d1, d2, d3, d4, d5, d6, d7] }
  | _ => none }
def ringTellsRow : OpenClaim := { program := "ytddhljoglhfhdaa", sum := "9fe0138bb16ba40b5e753a1fffcbcb4ad2c6204d999e8dcb837e27e9cc7e769c", func := "grapevine/grapevinelaw13.RingTells", spec := "ringTells", unfollowed := true, recurses := true, apart := false }
def RingTellsSaid : Prop := ringTellsRow.holds Try.pinned (OpenSpec.ofChange ringTellsSpec)

/-- ITS FALSE NEIGHBOUR: 'it returns false'. Refute it at one input. -/
def ringTellsWrong : ChangeSpec := { name := "ringTells", fn := fun _ => fun
  | [d1, d2, d3, d4, d5, d6, d7] => { results := [.lit (.bool false)], args := [d1, d2, d3, d4, d5, d6, d7] }
  | _ => none }
def RingTellsWrongFalsely : Prop := ringTellsRow.holds Try.pinned (OpenSpec.ofChange ringTellsWrong)

/-- 'grapevinelaw13.RingDrop': WHATEVER THE INPUT: true; the input reads as it did. -/
def ringDropSpec : ChangeSpec := { name := "ringDrop", fn := fun _ => fun
  | [d1, d2, d3, d4] => { results := [.lit (.bool true)], args := [d1, d2, d3, d4] }
  | _ => none }
def ringDropRow : OpenClaim := { program := "ytddhljoglhfhdaa", sum := "9fe0138bb16ba40b5e753a1fffcbcb4ad2c6204d999e8dcb837e27e9cc7e769c", func := "grapevine/grapevinelaw13.RingDrop", spec := "ringDrop", unfollowed := true, recurses := true, apart := false }
def RingDropSaid : Prop := ringDropRow.holds Try.pinned (OpenSpec.ofChange ringDropSpec)

/-- ITS FALSE NEIGHBOUR: 'it returns false'. Refute it at one input. -/
def ringDropWrong : ChangeSpec := { name := "ringDrop", fn := fun _ => fun
  | [d1, d2, d3, d4] => { results := [.lit (.bool false)], args := [d1, d2, d3, d4] }
  | _ => none }
def RingDropWrongFalsely : Prop := ringDropRow.holds Try.pinned (OpenSpec.ofChange ringDropWrong)

/- THE SECOND FORM. 'bulk': how many values and letters a reading holds, each counted each time it is reached (what is shared counts as often as it is met; a slice's spare places count too). A statement '..UptoSaid' is the law's where the arguments, and the package variables that the reading takes, are together of bulk at most 1048576: NARROWER than '..Said'. Prove '..Said' where nothing that the law and all that it calls make is longer than what came in: it says more and counts as full. Else prove '..UptoSaid'. A law counts once. -/
mutual
def uptoBulk {H : Type} : DataW H → Nat
  | .lit (.string bytes) => bytes.length + 1
  | .lit _ => 1
  | .nil => 1
  | .ptr d => uptoBulk d + 1
  | .slice elems spare => uptoBulkAll elems + uptoBulkAll spare + 1
  | .agg parts => uptoBulkAll parts + 1
  | .iface _ d => uptoBulk d + 1
  | .map entries => uptoBulkEntries entries + 1
  | .held _ => 1
def uptoBulkAll {H : Type} : List (DataW H) → Nat
  | [] => 0
  | d :: r => uptoBulk d + uptoBulkAll r
def uptoBulkEntries {H : Type} : List (Lit × DataW H) → Nat
  | [] => 0
  | x :: r => uptoBulkEntry x + uptoBulkEntries r
def uptoBulkEntry {H : Type} : Lit × DataW H → Nat
  | (.string bytes, d) => bytes.length + uptoBulk d + 1
  | (_, d) => uptoBulk d + 1
 end
def uptoSmall : (H : Type) → List (DataW H) → Bool := fun _ ds => decide (uptoBulkAll ds ≤ 1048576)
def OpenSpec.upto (s : _root_.Go.ChangeSpec) : _root_.Go.OpenSpec := { _root_.Go.OpenSpec.ofChange s with cond := some uptoSmall }

/-- 'grapevinelaw13.RingRound', WHERE WHAT IT READS IS OF BULK AT MOST 1048576: true; the input reads as it did. -/
def ringRoundUptoRow : OpenClaim := { program := "ytddhljoglhfhdaa", sum := "9fe0138bb16ba40b5e753a1fffcbcb4ad2c6204d999e8dcb837e27e9cc7e769c", func := "grapevine/grapevinelaw13.RingRound", spec := "ringRound", unfollowed := true, recurses := true, apart := false, narrowed := true }
def RingRoundUptoSaid : Prop := ringRoundUptoRow.holds Try.pinned (OpenSpec.upto ringRoundSpec)

/-- 'grapevinelaw13.RingEnds', WHERE WHAT IT READS IS OF BULK AT MOST 1048576: true; the input reads as it did. -/
def ringEndsUptoRow : OpenClaim := { program := "ytddhljoglhfhdaa", sum := "9fe0138bb16ba40b5e753a1fffcbcb4ad2c6204d999e8dcb837e27e9cc7e769c", func := "grapevine/grapevinelaw13.RingEnds", spec := "ringEnds", unfollowed := true, recurses := true, apart := false, narrowed := true }
def RingEndsUptoSaid : Prop := ringEndsUptoRow.holds Try.pinned (OpenSpec.upto ringEndsSpec)

/-- 'grapevinelaw13.RingFar', WHERE WHAT IT READS IS OF BULK AT MOST 1048576: true; the input reads as it did. -/
def ringFarUptoRow : OpenClaim := { program := "ytddhljoglhfhdaa", sum := "9fe0138bb16ba40b5e753a1fffcbcb4ad2c6204d999e8dcb837e27e9cc7e769c", func := "grapevine/grapevinelaw13.RingFar", spec := "ringFar", unfollowed := true, recurses := true, apart := false, narrowed := true }
def RingFarUptoSaid : Prop := ringFarUptoRow.holds Try.pinned (OpenSpec.upto ringFarSpec)

/-- 'grapevinelaw13.RingTells', WHERE WHAT IT READS IS OF BULK AT MOST 1048576: true; the input reads as it did. -/
def ringTellsUptoRow : OpenClaim := { program := "ytddhljoglhfhdaa", sum := "9fe0138bb16ba40b5e753a1fffcbcb4ad2c6204d999e8dcb837e27e9cc7e769c", func := "grapevine/grapevinelaw13.RingTells", spec := "ringTells", unfollowed := true, recurses := true, apart := false, narrowed := true }
def RingTellsUptoSaid : Prop := ringTellsUptoRow.holds Try.pinned (OpenSpec.upto ringTellsSpec)

/-- 'grapevinelaw13.RingDrop', WHERE WHAT IT READS IS OF BULK AT MOST 1048576: true; the input reads as it did. -/
def ringDropUptoRow : OpenClaim := { program := "ytddhljoglhfhdaa", sum := "9fe0138bb16ba40b5e753a1fffcbcb4ad2c6204d999e8dcb837e27e9cc7e769c", func := "grapevine/grapevinelaw13.RingDrop", spec := "ringDrop", unfollowed := true, recurses := true, apart := false, narrowed := true }
def RingDropUptoSaid : Prop := ringDropUptoRow.holds Try.pinned (OpenSpec.upto ringDropSpec)

end Rows
end Go.Proofs.Ytddhljoglhfhdaa
