/- A step as the reference reads it: six numbers, counted spans, counted values, a text. -/
import Derived.Test.YtikkkfamflmgeaaStN
namespace Go.Proofs.Ytikkkfamflmgeaa
open Go Go.GV
attribute [local irreducible] cw Go.GV.SpecM Go.GV.wpList Exit.then Exit.inBlock Go.GV.bodyPost wpPl wpPm wpPn TS rnd rPost YieldsB wpPT ptK
set_option maxRecDepth 10000
set_option linter.unusedVariables false
set_option linter.unusedSimpArgs false
def hasK (k : Int) (i : Nat) : Bool := [hNode k, hOther k, hAt k, hTo k, hFrom k, hFrom k].getD i false
def lenK (i : Nat) : Nat := [1, 1, 2, 2, 2, 4].getD i 0
/-- The first numbers behind the kind. -/
def six (k : Int) (b : List Int) : Nat → Option (List Int × List Int)
  | 0 => some ([], b)
  | i + 1 => (six k b i).bind fun p => (rdN (hasK k i) (lenK i) p.2).map fun q => (p.1 ++ [q.1], q.2)
def pairs : List Int → List Sp
  | a :: b :: r => (a, b) :: pairs r
  | _ => []
theorem rdSpans_rdNs : ∀ (m : Nat) (b : List Int), rdSpans m b = (rdNs 4 (2 * m) b).map fun p => (pairs (p.1.map (· - 2147483648)), p.2)
  | 0, b => rfl
  | m + 1, b => by
    rw [show 2 * (m + 1) = (2 * m + 1) + 1 by omega]
    simp only [rdSpans, rdNs]
    cases h1 : rdN true 4 b with
    | none => rfl
    | some p =>
      simp only [Option.bind_some]
      cases h2 : rdN true 4 p.2 with
      | none => rfl
      | some q =>
        simp only [Option.bind_some]
        rw [rdSpans_rdNs m q.2]
        cases h3 : rdNs 4 (2 * m) q.2 with
        | none => rfl
        | some r => simp [pairs]
theorem rdVals_rdNs : ∀ (m : Nat) (b : List Int), rdVals m b = (rdNs 4 m b).map fun p => (p.1.map (· - 2147483648), p.2)
  | 0, b => rfl
  | m + 1, b => by
    simp only [rdVals, rdNs]
    cases h1 : rdN true 4 b with
    | none => rfl
    | some p =>
      simp only [Option.bind_some]
      rw [rdVals_rdNs m p.2]
      cases h3 : rdNs 4 m p.2 with
      | none => rfl
      | some r => simp
def filO (k : Int) (b : List Int) : Option (List Sp × List Int) := if hFil k then (cnt 2 b).map (fun p => (pairs p.1, p.2)) else some ([], b)
def valO (k : Int) (b : List Int) : Option (List Int × List Int) := if hVal k then cnt 1 b else some ([], b)
theorem filO_eq (k : Int) (b : List Int) : ((rdN (hFil k) 1 b).bind fun cf => rdSpans cf.1.toNat cf.2) = filO k b := by
  unfold filO
  cases hFil k with
  | false => rfl
  | true =>
    simp only [if_true, cnt]
    cases h1 : rdN true 1 b with
    | none => rfl
    | some p =>
      simp only [Option.bind_some]
      rw [rdSpans_rdNs]
      cases rdNs 4 (2 * p.1.toNat) p.2 <;> rfl
theorem valO_eq (k : Int) (b : List Int) : ((rdN (hVal k) 1 b).bind fun cf => rdVals cf.1.toNat cf.2) = valO k b := by
  unfold valO
  cases hVal k with
  | false => rfl
  | true =>
    simp only [if_true, cnt]
    cases h1 : rdN true 1 b with
    | none => rfl
    | some p =>
      simp only [Option.bind_some]
      rw [rdVals_rdNs, Nat.one_mul]
def mkSD (k : Int) (ns : List Int) (fl : List Sp) (vs da : List Int) : SD := ⟨k, ns.getD 0 0, ns.getD 1 0, ns.getD 2 0, ns.getD 3 0, ns.getD 4 0, ns.getD 5 0, fl, vs, da⟩
def rdK (k : Int) (b : List Int) : Option (SD × List Int) :=
  (six k b 6).bind fun p => (filO k p.2).bind fun fl => (valO k fl.2).bind fun vs => (rdText (hVal k) vs.2).bind fun da => some (mkSD k p.1 fl.1 vs.1 da.1, da.2)
theorem rd_six (b : List Int) : rd b = (rdN true 1 b).bind fun k => bif known k.1 then rdK k.1 k.2 else none := by
  unfold rd
  congr 1
  funext k
  cases known k.1 with
  | false => rfl
  | true =>
    simp only [cond_true, rdK, ← filO_eq, ← valO_eq]
    simp only [six, Option.bind_assoc, Option.bind_some, Option.map_eq_bind, Function.comp_def, hasK, lenK, List.getD_cons_zero, List.getD_cons_succ]
    rfl
end Go.Proofs.Ytikkkfamflmgeaa
