/-
  No cell of these rows narrows 'for every input' (looked for: loops, veiled, ifaces, maps, wideKeys, modest, calm, conditions, laid).
  DERIVED. THE GIVEN ROWS OF THIS SEAT. 6 by the template 'for every input the law returns true; each argument reads behind the call as it read before'; 0 by the template 'total and deterministic' (their statements: YtmfnocpbgchahaaTotals.lean).
  GIVEN WITH THE SEED: the statements are not yours to turn. If you find one false, say at which input.
  Laid BY PROGRAM, IN A SANDBOX (cutbox-rows.mjs): the forced cells as the released guide's own fill.sh prints them over the translation 879d66eea19bb9e6… (all of the seat's roots in one cut). By AI agents, Wed Nov 11 2026. No macro, syntax, notation, axiom, sorry.
-/
import Derived.Test.YtmfnocpbgchahaaChecked
import GoSem.Claim
import GoSem.ClaimJoined
import GoSem.ClaimMapViews
import Derived.JoinedTies
import Derived.KernelRfl
namespace Go.Proofs.Ytmfnocpbgchahaa
/- THE CELL 'sum', in the pinned program and in every row, IS THE sha256 OF THE DUMP (.gsa) THAT YtmfnocpbgchahaaProg.lean LOADS. Nothing in Lean hashes anything: it is a label: what it is worth is what the hold of that sum in a sandbox is worth. -/
noncomputable def Try.pinned : Pinned := { name := "ytmfnocpbgchahaa", sum := "879d66eea19bb9e66fdaae03395b5e79baa05f4a7130d28abce0ffced8f4890e", checked := Try.checked }
namespace Rows
def none {H : Type} : Left H := { results := [], args := [] }

/-- 'grapevinelaw05.FilterSame': WHATEVER THE INPUT: true; the input reads as it did. -/
def filterSameSpec : ChangeSpec := { name := "filterSame", fn := fun _ => fun
  | [d1, d2] => { results := [.lit (.bool true)], args := [d1, d2] }
  | _ => none }
def filterSameRow : OpenClaim := { program := "ytmfnocpbgchahaa", sum := "879d66eea19bb9e66fdaae03395b5e79baa05f4a7130d28abce0ffced8f4890e", func := "grapevine/grapevinelaw05.FilterSame", spec := "filterSame", unfollowed := true, recurses := true, apart := false }
def FilterSameSaid : Prop := filterSameRow.holds Try.pinned (OpenSpec.ofChange filterSameSpec)

/-- ITS FALSE NEIGHBOUR: 'it returns false'. Refute it at one input. -/
def filterSameWrong : ChangeSpec := { name := "filterSame", fn := fun _ => fun
  | [d1, d2] => { results := [.lit (.bool false)], args := [d1, d2] }
  | _ => none }
def FilterSameWrongFalsely : Prop := filterSameRow.holds Try.pinned (OpenSpec.ofChange filterSameWrong)

/-- 'grapevinelaw05.FilterMeet': WHATEVER THE INPUT: true; the input reads as it did. -/
def filterMeetSpec : ChangeSpec := { name := "filterMeet", fn := fun _ => fun
  | [d1, d2, d3] => { results := [.lit (.bool true)], args := [d1, d2, d3] }
  | _ => none }
def filterMeetRow : OpenClaim := { program := "ytmfnocpbgchahaa", sum := "879d66eea19bb9e66fdaae03395b5e79baa05f4a7130d28abce0ffced8f4890e", func := "grapevine/grapevinelaw05.FilterMeet", spec := "filterMeet", unfollowed := true, recurses := true, apart := false }
def FilterMeetSaid : Prop := filterMeetRow.holds Try.pinned (OpenSpec.ofChange filterMeetSpec)

/-- ITS FALSE NEIGHBOUR: 'it returns false'. Refute it at one input. -/
def filterMeetWrong : ChangeSpec := { name := "filterMeet", fn := fun _ => fun
  | [d1, d2, d3] => { results := [.lit (.bool false)], args := [d1, d2, d3] }
  | _ => none }
def FilterMeetWrongFalsely : Prop := filterMeetRow.holds Try.pinned (OpenSpec.ofChange filterMeetWrong)

/-- 'grapevinelaw05.FilterCovers': WHATEVER THE INPUT: true; the input reads as it did. -/
def filterCoversSpec : ChangeSpec := { name := "filterCovers", fn := fun _ => fun
  | [d1, d2, d3, d4] => { results := [.lit (.bool true)], args := [d1, d2, d3, d4] }
  | _ => none }
def filterCoversRow : OpenClaim := { program := "ytmfnocpbgchahaa", sum := "879d66eea19bb9e66fdaae03395b5e79baa05f4a7130d28abce0ffced8f4890e", func := "grapevine/grapevinelaw05.FilterCovers", spec := "filterCovers", unfollowed := true, recurses := true, apart := false }
def FilterCoversSaid : Prop := filterCoversRow.holds Try.pinned (OpenSpec.ofChange filterCoversSpec)

/-- ITS FALSE NEIGHBOUR: 'it returns false'. Refute it at one input. -/
def filterCoversWrong : ChangeSpec := { name := "filterCovers", fn := fun _ => fun
  | [d1, d2, d3, d4] => { results := [.lit (.bool false)], args := [d1, d2, d3, d4] }
  | _ => none }
def FilterCoversWrongFalsely : Prop := filterCoversRow.holds Try.pinned (OpenSpec.ofChange filterCoversWrong)

/-- 'grapevinelaw05.FilterTells': WHATEVER THE INPUT: true; the input reads as it did. -/
def filterTellsSpec : ChangeSpec := { name := "filterTells", fn := fun _ => fun
  | [d1, d2, d3, d4] => { results := [.lit (.bool true)], args := [d1, d2, d3, d4] }
  | _ => none }
def filterTellsRow : OpenClaim := { program := "ytmfnocpbgchahaa", sum := "879d66eea19bb9e66fdaae03395b5e79baa05f4a7130d28abce0ffced8f4890e", func := "grapevine/grapevinelaw05.FilterTells", spec := "filterTells", unfollowed := true, recurses := true, apart := false }
def FilterTellsSaid : Prop := filterTellsRow.holds Try.pinned (OpenSpec.ofChange filterTellsSpec)

/-- ITS FALSE NEIGHBOUR: 'it returns false'. Refute it at one input. -/
def filterTellsWrong : ChangeSpec := { name := "filterTells", fn := fun _ => fun
  | [d1, d2, d3, d4] => { results := [.lit (.bool false)], args := [d1, d2, d3, d4] }
  | _ => none }
def FilterTellsWrongFalsely : Prop := filterTellsRow.holds Try.pinned (OpenSpec.ofChange filterTellsWrong)

/-- 'grapevinelaw05.FilterNormal': WHATEVER THE INPUT: true; the input reads as it did. -/
def filterNormalSpec : ChangeSpec := { name := "filterNormal", fn := fun _ => fun
  | [d1, d2, d3] => { results := [.lit (.bool true)], args := [d1, d2, d3] }
  | _ => none }
def filterNormalRow : OpenClaim := { program := "ytmfnocpbgchahaa", sum := "879d66eea19bb9e66fdaae03395b5e79baa05f4a7130d28abce0ffced8f4890e", func := "grapevine/grapevinelaw05.FilterNormal", spec := "filterNormal", unfollowed := true, recurses := true, apart := false }
def FilterNormalSaid : Prop := filterNormalRow.holds Try.pinned (OpenSpec.ofChange filterNormalSpec)

/-- ITS FALSE NEIGHBOUR: 'it returns false'. Refute it at one input. -/
def filterNormalWrong : ChangeSpec := { name := "filterNormal", fn := fun _ => fun
  | [d1, d2, d3] => { results := [.lit (.bool false)], args := [d1, d2, d3] }
  | _ => none }
def FilterNormalWrongFalsely : Prop := filterNormalRow.holds Try.pinned (OpenSpec.ofChange filterNormalWrong)

/-- 'grapevinelaw05.FilterAll': WHATEVER THE INPUT: true; the input reads as it did. -/
def filterAllSpec : ChangeSpec := { name := "filterAll", fn := fun _ => fun
  | [d1, d2, d3] => { results := [.lit (.bool true)], args := [d1, d2, d3] }
  | _ => none }
def filterAllRow : OpenClaim := { program := "ytmfnocpbgchahaa", sum := "879d66eea19bb9e66fdaae03395b5e79baa05f4a7130d28abce0ffced8f4890e", func := "grapevine/grapevinelaw05.FilterAll", spec := "filterAll", unfollowed := true, recurses := true, apart := false }
def FilterAllSaid : Prop := filterAllRow.holds Try.pinned (OpenSpec.ofChange filterAllSpec)

/-- ITS FALSE NEIGHBOUR: 'it returns false'. Refute it at one input. -/
def filterAllWrong : ChangeSpec := { name := "filterAll", fn := fun _ => fun
  | [d1, d2, d3] => { results := [.lit (.bool false)], args := [d1, d2, d3] }
  | _ => none }
def FilterAllWrongFalsely : Prop := filterAllRow.holds Try.pinned (OpenSpec.ofChange filterAllWrong)

/- THE SECOND FORM. 'bulk': how many values and letters a reading holds, each counted each time it is reached (what is shared counts as often as it is met; a slice's spare places count too). A statement '..UptoSaid' is the law's where the arguments, and the package variables that the reading takes, are together of bulk at most 1048576: NARROWER than '..Said'. Prove '..Said' where nothing that the law and all that it calls make is longer than what came in: it says more and counts as full. Else prove '..UptoSaid'. A law counts once. -/
mutual
def uptoBulk {H : Type} : DataW H → Nat
  | .lit (.string bytes) => bytes.length + 1
  | .lit _ => 1
  | .nil => 1
  | .ptr d => uptoBulk d + 1
  | .slice elems spare => uptoBulkAll elems + uptoBulkAll spare + 1
  | .agg parts => uptoBulkAll parts + 1
  | .iface _ d => uptoBulk d + 1
  | .map entries => uptoBulkEntries entries + 1
  | .held _ => 1
def uptoBulkAll {H : Type} : List (DataW H) → Nat
  | [] => 0
  | d :: r => uptoBulk d + uptoBulkAll r
def uptoBulkEntries {H : Type} : List (Lit × DataW H) → Nat
  | [] => 0
  | x :: r => uptoBulkEntry x + uptoBulkEntries r
def uptoBulkEntry {H : Type} : Lit × DataW H → Nat
  | (.string bytes, d) => bytes.length + uptoBulk d + 1
  | (_, d) => uptoBulk d + 1
 end
def uptoSmall : (H : Type) → List (DataW H) → Bool := fun _ ds => decide (uptoBulkAll ds ≤ 1048576)
def OpenSpec.upto (s : _root_.Go.ChangeSpec) : _root_.Go.OpenSpec := { _root_.Go.OpenSpec.ofChange s with cond := some uptoSmall }

/-- 'grapevinelaw05.FilterSame', WHERE WHAT IT READS IS OF BULK AT MOST 1048576: true; the input reads as it did. -/
def filterSameUptoRow : OpenClaim := { program := "ytmfnocpbgchahaa", sum := "879d66eea19bb9e66fdaae03395b5e79baa05f4a7130d28abce0ffced8f4890e", func := "grapevine/grapevinelaw05.FilterSame", spec := "filterSame", unfollowed := true, recurses := true, apart := false, narrowed := true }
def FilterSameUptoSaid : Prop := filterSameUptoRow.holds Try.pinned (OpenSpec.upto filterSameSpec)

/-- 'grapevinelaw05.FilterMeet', WHERE WHAT IT READS IS OF BULK AT MOST 1048576: true; the input reads as it did. -/
def filterMeetUptoRow : OpenClaim := { program := "ytmfnocpbgchahaa", sum := "879d66eea19bb9e66fdaae03395b5e79baa05f4a7130d28abce0ffced8f4890e", func := "grapevine/grapevinelaw05.FilterMeet", spec := "filterMeet", unfollowed := true, recurses := true, apart := false, narrowed := true }
def FilterMeetUptoSaid : Prop := filterMeetUptoRow.holds Try.pinned (OpenSpec.upto filterMeetSpec)

/-- 'grapevinelaw05.FilterCovers', WHERE WHAT IT READS IS OF BULK AT MOST 1048576: true; the input reads as it did. -/
def filterCoversUptoRow : OpenClaim := { program := "ytmfnocpbgchahaa", sum := "879d66eea19bb9e66fdaae03395b5e79baa05f4a7130d28abce0ffced8f4890e", func := "grapevine/grapevinelaw05.FilterCovers", spec := "filterCovers", unfollowed := true, recurses := true, apart := false, narrowed := true }
def FilterCoversUptoSaid : Prop := filterCoversUptoRow.holds Try.pinned (OpenSpec.upto filterCoversSpec)

/-- 'grapevinelaw05.FilterTells', WHERE WHAT IT READS IS OF BULK AT MOST 1048576: true; the input reads as it did. -/
def filterTellsUptoRow : OpenClaim := { program := "ytmfnocpbgchahaa", sum := "879d66eea19bb9e66fdaae03395b5e79baa05f4a7130d28abce0ffced8f4890e", func := "grapevine/grapevinelaw05.FilterTells", spec := "filterTells", unfollowed := true, recurses := true, apart := false, narrowed := true }
def FilterTellsUptoSaid : Prop := filterTellsUptoRow.holds Try.pinned (OpenSpec.upto filterTellsSpec)

/-- 'grapevinelaw05.FilterNormal', WHERE WHAT IT READS IS OF BULK AT MOST 1048576: true; the input reads as it did. -/
def filterNormalUptoRow : OpenClaim := { program := "ytmfnocpbgchahaa", sum := "879d66eea19bb9e66fdaae03395b5e79baa05f4a7130d28abce0ffced8f4890e", func := "grapevine/grapevinelaw05.FilterNormal", spec := "filterNormal", unfollowed := true, recurses := true, apart := false, narrowed := true }
def FilterNormalUptoSaid : Prop := filterNormalUptoRow.holds Try.pinned (OpenSpec.upto filterNormalSpec)

/-- 'grapevinelaw05.FilterAll', WHERE WHAT IT READS IS OF BULK AT MOST 1048576: true; the input reads as it did. -/
def filterAllUptoRow : OpenClaim := { program := "ytmfnocpbgchahaa", sum := "879d66eea19bb9e66fdaae03395b5e79baa05f4a7130d28abce0ffced8f4890e", func := "grapevine/grapevinelaw05.FilterAll", spec := "filterAll", unfollowed := true, recurses := true, apart := false, narrowed := true }
def FilterAllUptoSaid : Prop := filterAllUptoRow.holds Try.pinned (OpenSpec.upto filterAllSpec)

end Rows
end Go.Proofs.Ytmfnocpbgchahaa
