/- Divisions of numbers with signs; over the small logic of GvA to GvAB. -/
import Derived.Test.YtlaockppbboafaaGvAB
namespace Go.GV
open Go
section
variable {P : Program} {C : Ctx} {L : En} {H : List HE} {h : PH} {dst : Option Tmp} {ty : TypeId} {pos : String} {after : Array Edge} {gd : Option (Nat × Bool)}
theorem od_remT {t t' : TypeId} {x y : Operand} {k : IntKind} {a b : Int} (hx : Ev L x (.int k a)) (hy : Ev L y (.int k b)) (hb : 0 < b) :
    OP P C ⟨dst, .binOp .rem t x y t', ty, pos, after, gd⟩ L H h (.int k (a.tmod b)) :=
  od_pure fun ρ w hρ _ => by
    have e1 := hρ x (by simp [Op.operands]) _ hx
    have e2 := hρ y (by simp [Op.operands]) _ hy
    have hb' : ¬ (b = 0) := by omega
    simp [execOp, e1, e2, eqGuard, binOp, Op.intDiv, hb']
theorem od_quoT {t t' : TypeId} {x y : Operand} {k : IntKind} {a b : Int} (hx : Ev L x (.int k a)) (hy : Ev L y (.int k b)) (hb : 0 < b) (hr : inR k (a.tdiv b)) :
    OP P C ⟨dst, .binOp .quo t x y t', ty, pos, after, gd⟩ L H h (.int k (a.tdiv b)) :=
  od_pure fun ρ w hρ _ => by
    have e1 := hρ x (by simp [Op.operands]) _ hx
    have e2 := hρ y (by simp [Op.operands]) _ hy
    have hb' : ¬ (b = 0) := by omega
    simp [execOp, e1, e2, eqGuard, binOp, Op.intDiv, hb', wrap_inR hr]
end
end Go.GV
