/- Divisions of numbers with signs; pointers that are not nil; over the small logic of GvA to GvAB. -/
import Derived.Test.YtikkkfamflmgeaaGvAB
namespace Go.GV
open Go
class TArr (P : Program) (t : TypeId) (n : outParam Nat) (e : outParam TypeId) : Prop where
  eq : P.underlying t = some (.array n e)
section
variable {P : Program} {C : Ctx} {L : En} {H : List HE} {h : PH} {dst : Option Tmp} {ty : TypeId} {pos : String} {after : Array Edge} {gd : Option (Nat × Bool)}
theorem od_remT {t t' : TypeId} {x y : Operand} {k : IntKind} {a b : Int} (hx : Ev L x (.int k a)) (hy : Ev L y (.int k b)) (hb : 0 < b) :
    OP P C ⟨dst, .binOp .rem t x y t', ty, pos, after, gd⟩ L H h (.int k (a.tmod b)) :=
  od_pure fun ρ w hρ _ => by
    have e1 := hρ x (by simp [Op.operands]) _ hx
    have e2 := hρ y (by simp [Op.operands]) _ hy
    have hb' : ¬ (b = 0) := by omega
    simp [execOp, e1, e2, eqGuard, binOp, Op.intDiv, hb']
theorem od_quoT {t t' : TypeId} {x y : Operand} {k : IntKind} {a b : Int} (hx : Ev L x (.int k a)) (hy : Ev L y (.int k b)) (hb : 0 < b) (hr : inR k (a.tdiv b)) :
    OP P C ⟨dst, .binOp .quo t x y t', ty, pos, after, gd⟩ L H h (.int k (a.tdiv b)) :=
  od_pure fun ρ w hρ _ => by
    have e1 := hρ x (by simp [Op.operands]) _ hx
    have e2 := hρ y (by simp [Op.operands]) _ hy
    have hb' : ¬ (b = 0) := by omega
    simp [execOp, e1, e2, eqGuard, binOp, Op.intDiv, hb', wrap_inR hr]
theorem od_nil {x : Operand} {a : Addr} (hx : Ev L x (.pointer (some a))) : OP P C ⟨dst, .nilCheck x, ty, pos, after, gd⟩ L H h (.pointer (some a)) :=
  od_pure fun ρ w hρ _ => by
    have e1 := hρ x (by simp [Op.operands]) _ hx
    simp [execOp, e1]
/-- A byte of a string. -/
theorem od_sindex {t : TypeId} [TStr P t] {x y : Operand} {k : IntKind} {s : ByteArray} {m : Int} {i : Nat} {b : UInt8} (hx : Ev L x (.string s)) (hy : Ev L y (.int k m)) (hm : m = (i : Int)) (hb : s[i]? = some b) :
    OP P C ⟨dst, .index t x y, ty, pos, after, gd⟩ L H h (.int .u8 b.toNat) :=
  od_pure fun ρ w hρ _ => by
    have e1 := hρ x (by simp [Op.operands]) _ hx
    have e2 := hρ y (by simp [Op.operands]) _ hy
    subst hm
    simp only [execOp, e1, e2, Instr.index, asIntOf, Sem.run_bind, Sem.run_pure, Result.andThen_ok, run_underlying (TStr.eq (P := P) (t := t))]
    rw [if_pos (by omega), Int.toNat_natCast, hb]
    simp only [Sem.run_pure, Result.andThen_ok]
theorem od_indexA {t e : TypeId} {len sz : Nat} {g : Bool} [TArr P t len e] [TI P e sz g] {x y : Operand} {k : IntKind} {b o i : Nat} {m : Int} (hx : Ev L x (.pointer (some ⟨b, o, none⟩))) (hy : Ev L y (.int k m)) (hm : m = (i : Int)) (hi : i < len) :
    OP P C ⟨dst, .indexAddr t x y, ty, pos, after, gd⟩ L H h (.pointer (some ⟨b, o + i * sz, none⟩)) :=
  od_pure fun ρ w hρ _ => by
    have e1 := hρ x (by simp [Op.operands]) _ hx
    have e2 := hρ y (by simp [Op.operands]) _ hy
    have hu := TArr.eq (P := P) (t := t)
    have hsz := run_sz (TI.sz (P := P) (t := e)) w
    subst hm
    have hc1 : (0 : Int) ≤ (i : Int) ∧ (i : Int) < (len : Int) := by omega
    simp only [execOp, e1, e2, Instr.indexAt, asIntOf, Sem.run_bind, Sem.run_pure, Result.andThen_ok, run_underlying hu, Instr.sureAddr]
    rw [if_pos hc1]
    simp only [Sem.run_bind, hsz, Result.andThen_ok, Sem.run_pure, Int.toNat_natCast, addr_add]
theorem od_buildA {s e : TypeId} {len sz : Nat} {g : Bool} {ps : List (Nat × Operand)} {qs : List (Nat × List Value)} {z cs : List Value} [TArr P s len e] [TI P e sz g] [TZero P s z] (hh : PartsS L sz ps qs) (hz : (qs.all fun q => Nat.ble (q.1 + q.2.length) z.length) = true) (hcs : Nf (fillL z qs) cs) :
    OP P C ⟨dst, .build s ps.toArray, ty, pos, after, gd⟩ L H h (.agg cs.toArray) :=
  od_pure fun ρ w hρ _ => by
    have hu := TArr.eq (P := P) (t := s)
    have hsz := run_sz (TI.sz (P := P) (t := e)) w
    obtain ⟨zv, hzr, hzc⟩ := run_zero (P := P) (t := s) w
    have hfill := fill_partsS hh (ρ := ρ) (fun p hp => hρ p.2 (by simp only [Op.operands]; simpa using ⟨p.1, hp⟩)) z (fun q hq => Nat.le_of_ble_eq_true (by simpa using (List.all_eq_true.1 hz) q hq))
    simp only [execOp, Instr.build, Sem.run_bind, hzr, Result.andThen_ok, run_underlying hu, hsz, hzc]
    have e2 : (ps.toArray.map fun (i, x) => (i, ρ x)).toList = ps.map fun p => (p.1, ρ p.2) := by simp
    rw [e2, hfill, hcs.eq]
    simp
end
end Go.GV
