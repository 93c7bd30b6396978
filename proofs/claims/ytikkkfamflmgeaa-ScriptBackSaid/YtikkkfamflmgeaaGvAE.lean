/- Arrays, numbers as rows of bits, stores at a place that is not known; over the small logic of GvA to GvAD. -/
import Derived.Test.YtikkkfamflmgeaaGvAD
namespace Go.GV
open Go
section
variable {P : Program} {C : Ctx} {N : Fr} {L : En} {H H' : List HE} {h : PH} {dst : Option Tmp} {ty : TypeId} {pos : String} {after : Array Edge} {gd : Option (Nat × Bool)}
variable {ops : Array Oper} {rest : List Oper} {Q : Exit → Act → World → Prop}
/-- A store at a place that is not known. -/
theorem hd_storeX {T T' : TypeId} {x y : Operand} {b off n : Nat} {v : Value} {vs cs cs' : List Value} {g : Bool} [TI P T n g] (hx : Ev L x (.pointer (some ⟨b, off, none⟩))) (hy : Ev L y v) (hvs : v.cells = vs.toArray)
    (hb : HSet H b cs T' cs' H') (hn : vs.length = n) (hle : off + vs.length ≤ cs.length) (hone : vs.all (·.oneCell') = true) (hcs : spl cs off vs = cs') (next : Hd C N L H' h (wpList P ops Q rest)) :
    Hd C N L H h (wpList P ops Q (⟨none, .store T x y, ty, pos, after, none⟩ :: rest)) := by
  refine ⟨fun a w ha hw => ?_⟩
  have e1 := hx.eval ha
  have e2 := hy.eval ha
  have hsz := run_sz (TI.sz (P := P) (t := T)) w
  obtain ⟨w', hr, ht⟩ := run_storeCells (P := P) b T' off vs 0 cs w (hb.get.block hw) (by omega) hone
  rw [Nat.add_zero, hcs] at ht
  simp only [wpList]
  rw [if_pos (by simp [Region.wanted])]
  have hrun : (execOp a.eval ⟨none, .store T x y, ty, pos, after, none⟩).run P w = .ok .skip w' := by
    simp only [execOp, e1, e2, Instr.storeAt, Instr.sureAddr, storeVar, Sem.run_bind, Sem.run_pure, Result.andThen_ok, hsz, hvs]
    simp [hn, hr]
  unfold opw
  rw [hrun]
  exact next.all _ _ ha (hw.turned hb ht)
end
/-! ### Rows of bits -/
theorem bvl (n : Nat) (h : n < 4294967296) : (@OfNat.ofNat Int n (@instOfNat n) : Int) = ((BitVec.ofNat 32 n).toNat : Int) := by
  rw [BitVec.toNat_ofNat, Nat.mod_eq_of_lt h]; rfl
theorem bv_of {n : Int} (h : inR .u32 n) : n = ((BitVec.ofInt 32 n).toNat : Int) := by
  have := h.1; have := h.2
  rw [BitVec.toNat_ofInt]; omega
theorem ofInt_toNat32 (r : BitVec 32) : BitVec.ofInt 32 (r.toNat : Int) = r := by
  rw [BitVec.ofInt_natCast]; simp
theorem wrap_bv (r : BitVec 32) : IntKind.u32.wrap (r.toNat : Int) = (r.toNat : Int) := wrap_inR ⟨by omega, by have := r.isLt; omega⟩
section
variable {P : Program} {C : Ctx} {L : En} {H : List HE} {h : PH} {dst : Option Tmp} {ty : TypeId} {pos : String} {after : Array Edge} {gd : Option (Nat × Bool)} {t t' : TypeId} {x y : Operand} {a b : Int} {r s : BitVec 32}
theorem bi_xor : bi .xor .u32 (r.toNat : Int) (s.toNat : Int) = some (.int .u32 ((r ^^^ s).toNat : Int)) := by
  show some (Value.int .u32 (IntKind.u32.wrap (BitVec.ofInt 32 (r.toNat : Int) ^^^ BitVec.ofInt 32 (s.toNat : Int)).toNat)) = _
  rw [ofInt_toNat32, ofInt_toNat32, wrap_bv]
theorem bi_and : bi .and .u32 (r.toNat : Int) (s.toNat : Int) = some (.int .u32 ((r &&& s).toNat : Int)) := by
  show some (Value.int .u32 (IntKind.u32.wrap (BitVec.ofInt 32 (r.toNat : Int) &&& BitVec.ofInt 32 (s.toNat : Int)).toNat)) = _
  rw [ofInt_toNat32, ofInt_toNat32, wrap_bv]
theorem bi_or : bi .or .u32 (r.toNat : Int) (s.toNat : Int) = some (.int .u32 ((r ||| s).toNat : Int)) := by
  show some (Value.int .u32 (IntKind.u32.wrap (BitVec.ofInt 32 (r.toNat : Int) ||| BitVec.ofInt 32 (s.toNat : Int)).toNat)) = _
  rw [ofInt_toNat32, ofInt_toNat32, wrap_bv]
theorem od_xor32 (hx : Ev L x (.int .u32 a)) (hy : Ev L y (.int .u32 b)) (ha : a = (r.toNat : Int)) (hb : b = (s.toNat : Int)) : OP P C ⟨dst, .binOp .xor t x y t', ty, pos, after, gd⟩ L H h (.int .u32 ((r ^^^ s).toNat : Int)) := by
  subst ha hb; exact od_bin hx hy bi_xor
theorem od_and32 (hx : Ev L x (.int .u32 a)) (hy : Ev L y (.int .u32 b)) (ha : a = (r.toNat : Int)) (hb : b = (s.toNat : Int)) : OP P C ⟨dst, .binOp .and t x y t', ty, pos, after, gd⟩ L H h (.int .u32 ((r &&& s).toNat : Int)) := by
  subst ha hb; exact od_bin hx hy bi_and
theorem od_or32 (hx : Ev L x (.int .u32 a)) (hy : Ev L y (.int .u32 b)) (ha : a = (r.toNat : Int)) (hb : b = (s.toNat : Int)) : OP P C ⟨dst, .binOp .or t x y t', ty, pos, after, gd⟩ L H h (.int .u32 ((r ||| s).toNat : Int)) := by
  subst ha hb; exact od_bin hx hy bi_or
theorem od_shr32 {k : IntKind} {n : Nat} (hx : Ev L x (.int .u32 a)) (hy : Ev L y (.int k b)) (ha : a = (r.toNat : Int)) (hb : b = (n : Int)) (hn : n ≤ 32) : OP P C ⟨dst, .binOp .shr t x y t', ty, pos, after, gd⟩ L H h (.int .u32 ((r >>> n).toNat : Int)) := by
  subst ha
  have := od_shr (P := P) (C := C) (L := L) (H := H) (h := h) (dst := dst) (ty := ty) (pos := pos) (after := after) (gd := gd) (t := t) (t' := t') hx hy hb hn
  have e : ((r >>> n).toNat : Int) = (r.toNat : Int) / 2 ^ n := by
    rw [BitVec.toNat_ushiftRight, Nat.shiftRight_eq_div_pow]; simp
  rw [e]; exact this
theorem od_shl32 {k : IntKind} {n : Nat} (hx : Ev L x (.int .u32 a)) (hy : Ev L y (.int k b)) (ha : a = (r.toNat : Int)) (hb : b = (n : Int)) (hn : n ≤ 32) : OP P C ⟨dst, .binOp .shl t x y t', ty, pos, after, gd⟩ L H h (.int .u32 ((r <<< n).toNat : Int)) := by
  subst ha
  have := od_shl (P := P) (C := C) (L := L) (H := H) (h := h) (dst := dst) (ty := ty) (pos := pos) (after := after) (gd := gd) (t := t) (t' := t') hx hy hb hn
  have e : ((r <<< n).toNat : Int) = IntKind.u32.wrap ((r.toNat : Int) * 2 ^ n) := by
    rw [BitVec.toNat_shiftLeft, Nat.shiftLeft_eq]
    simp [IntKind.wrap, IntKind.bits, IntKind.signed]
  rw [e]; exact this
theorem od_not32 (hx : Ev L x (.int .u32 a)) (ha : a = (r.toNat : Int)) : OP P C ⟨dst, .unOp .xor t x, ty, pos, after, gd⟩ L H h (.int .u32 ((~~~ r).toNat : Int)) :=
  od_pure fun ρ w hρ _ => by
    have e1 := hρ x (by simp [Op.operands]) _ hx
    subst ha
    have e : BitVec.ofInt 32 (IntKind.u32.max) ^^^ BitVec.ofInt 32 (r.toNat : Int) = ~~~ r := by
      rw [ofInt_toNat32, show BitVec.ofInt 32 (IntKind.u32.max) = BitVec.allOnes 32 from by decide, BitVec.allOnes_xor]
    have e2 : IntKind.u32.wrap (BitVec.ofInt 32 (IntKind.u32.max) ^^^ BitVec.ofInt 32 (r.toNat : Int)).toNat = ((~~~ r).toNat : Int) := by rw [e, wrap_bv]
    simp only [execOp, e1, Op.unary, Op.intBits]
    have e3 : (if IntKind.u32.signed = true then (-1 : Int) else IntKind.u32.max) = IntKind.u32.max := rfl
    rw [e3]
    simp only [Sem.run_bind, Sem.run_pure, Result.andThen_ok]
    rw [show IntKind.u32.bits = 32 from rfl, e2]
end
end Go.GV
