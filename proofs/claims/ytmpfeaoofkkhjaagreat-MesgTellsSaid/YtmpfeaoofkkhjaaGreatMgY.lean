/- A message is read field by field. -/
import Derived.Test.YtmpfeaoofkkhjaaGreatMgX
namespace Go.Proofs.YtmpfeaoofkkhjaaGreat
open Go Go.GV
attribute [local irreducible] cw Go.GV.SpecM Go.GV.wpList Exit.then Exit.inBlock Go.GV.bodyPost wpPl wpPm wpPn TS rnd rPost YieldsB wpPT ptK
set_option linter.unusedVariables false
set_option linter.unusedSimpArgs false
/-- One field more. -/
def pF (k : Int) (m : MsD) : Nat → Pa MsD
  | 0 => pbi (pif (mL k) (pal pDesc) []) fun l => pu { m with list := l }
  | 1 => pbi (pif (mT k) (pal pMem) []) fun t => pu { m with table := t }
  | 2 => pbi (pif (mE k) pEv ev0) fun e => pu { m with ev := e }
  | 3 => pbi (pif (mH k) (rdN true 1) 0) fun h => pu { m with hops := h }
  | 4 => pbi (pif (mO k) pMark mk0) fun o => pu { m with origin := o }
  | 5 => pbi (pif (mO k) (pal pMark) []) fun ms => pu { m with marks := ms }
  | 6 => pbi (pif (mJ k) (pal pMark) []) fun is_ => pu { m with ids := is_ }
  | _ => pu m
def pAt (k : Int) (m : MsD) : Nat → Pa MsD
  | 0 => pu m
  | i + 1 => pbi (pAt k m i) fun m' => pF k m' i
def msH (k fr ic t : Int) : MsD := ⟨k, fr, ic, t, [], [], ev0, 0, mk0, [], []⟩
theorem pAt_all (k fr ic t : Int) : pAt k (msH k fr ic t) 7 = pbi (pFld k) fun x => pu ⟨k, fr, ic, t, x.1, x.2.1, x.2.2.1, x.2.2.2.1, x.2.2.2.2.1, x.2.2.2.2.2.1, x.2.2.2.2.2.2⟩ := by
  simp only [pAt, pF, pFld, pbi_assoc, pu_pbi, msH]
theorem pMsg_at : pMsg = pbi (rdN true 1) fun k => pbi (rdN true 1) fun fr => pbi (rdN true 2) fun ic => pbi (rdN true 1) fun t => if kdM k then pAt k (msH k fr ic t) 7 else fun _ => none := by
  simp only [pMsg, pAt_all]
theorem Rds.at {k : Int} {m m' m2 : MsD} {o o1 o2 : Option (List Int)} {i : Nat} (h : Rds o (pAt k m i) o1 m') (h2 : Rds o1 (pF k m' i) o2 m2) : Rds o (pAt k m (i + 1)) o2 m2 := Rds.bind h h2
theorem Rds.skip {α : Type} {o : Option (List Int)} {f : Pa α} (z : α) : Rds o (pif false f z) o z := Rds.pu _ _
theorem Rds.take {α : Type} {o o' : Option (List Int)} {f : Pa α} {x : α} (z : α) (h : Rds o f o' x) : Rds o (pif true f z) o' x := h
end Go.Proofs.YtmpfeaoofkkhjaaGreat
