/- Operations, one lemma each, over the small logic of GvA. -/
import Derived.Test.YtikkkfamflmgeaaGvA
namespace Go.GV
open Go

/-! ### Facts on types -/
class TI (P : Program) (t : TypeId) (size : outParam Nat) (agg : outParam Bool) : Prop where
  sz : (P.info? t).map (·.size) = some size
  ag : (match P.underlying t with | some (.struct _) | some (.array _ _) => some true | some _ => some false | none => none) = some agg
class TInt (P : Program) (t : TypeId) (k : outParam IntKind) : Prop where
  eq : P.underlying t = some (.int k)
class TBool (P : Program) (t : TypeId) : Prop where
  eq : P.underlying t = some .bool
class TSl (P : Program) (t : TypeId) (e : outParam TypeId) : Prop where
  eq : P.underlying t = some (.slice e)
class TZero (P : Program) (t : TypeId) (cs : outParam (List Value)) : Prop where
  eq : (P.info? t).bind (·.zero) = some (.agg cs.toArray) ∨ ∃ v, cs = [v] ∧ (P.info? t).bind (·.zero) = some v ∧ v.cells = #[v]
class TFd (P : Program) (s : TypeId) (f : Nat) (off : outParam Nat) (ft : outParam TypeId) : Prop where
  eq : (match P.underlying s with | some (.struct fs) => (fs[f]?).map (fun x => (x.offset, x.type)) | _ => none) = some (off, ft)

section
variable {ρ : Option Nat} {P : Program} {C : Ctx} {L : En} {H : List HE} {h : PH} {dst : Option Tmp} {ty : TypeId} {pos : String} {after : Array Edge} {gd : Option (Nat × Bool)}

theorem run_sz {t : TypeId} {n : Nat} (e : (P.info? t).map (·.size) = some n) (w : World) : (sizeOf t).run P w = .ok n w := by
  cases hi : P.info? t with
  | none => simp [hi] at e
  | some i => simp [hi] at e; simp [sizeOf, typeInfo, hi, e]
theorem run_agg {t : TypeId} {g : Bool} (e : (match P.underlying t with | some (.struct _) | some (.array _ _) => some true | some _ => some false | none => none) = some g) (w : World) : (isAgg t).run P w = .ok g w := by
  unfold isAgg
  cases hu : P.underlying t with
  | none => simp [hu] at e
  | some d =>
    rw [hu] at e
    rw [Sem.run_bind, run_underlying hu]
    simp only [Result.andThen_ok]
    cases d <;> simp at e <;> subst e <;> simp

/-! ### Plain operations -/
theorem od_move {x : Operand} {v : Value} (hx : Ev L x v) : OP P C ⟨dst, .move x, ty, pos, after, gd⟩ L H h v :=
  od_pure fun ρ w hρ _ => by simp [execOp, hρ x (by simp [Op.operands]) v hx]
theorem od_assign {x : Operand} {v : Value} (hx : Ev L x v) : OP P C ⟨dst, .assign x, ty, pos, after, gd⟩ L H h v :=
  od_pure fun ρ w hρ _ => by simp [execOp, hρ x (by simp [Op.operands]) v hx]
def bi (op : BinOp) (k : IntKind) (a b : Int) : Option Value :=
  match op with
  | .add => some (.int k (k.wrap (a + b)))
  | .sub => some (.int k (k.wrap (a - b)))
  | .mul => some (.int k (k.wrap (a * b)))
  | .eql => some (.bool (a == b))
  | .neq => some (.bool (a != b))
  | .lss => some (.bool (decide (a < b)))
  | .leq => some (.bool (decide (a ≤ b)))
  | .gtr => some (.bool (decide (b < a)))
  | .geq => some (.bool (decide (b ≤ a)))
  | .and => some (.int k (k.wrap (BitVec.ofInt k.bits a &&& BitVec.ofInt k.bits b).toNat))
  | .or => some (.int k (k.wrap (BitVec.ofInt k.bits a ||| BitVec.ofInt k.bits b).toNat))
  | .xor => some (.int k (k.wrap (BitVec.ofInt k.bits a ^^^ BitVec.ofInt k.bits b).toNat))
  | _ => none
theorem od_bin {op : BinOp} {t t' : TypeId} {x y : Operand} {k : IntKind} {a b : Int} {v : Value} (hx : Ev L x (.int k a)) (hy : Ev L y (.int k b)) (hv : bi op k a b = some v) :
    OP P C ⟨dst, .binOp op t x y t', ty, pos, after, gd⟩ L H h v :=
  od_pure fun ρ w hρ _ => by
    have e1 := hρ x (by simp [Op.operands]) _ hx
    have e2 := hρ y (by simp [Op.operands]) _ hy
    cases op <;> simp [bi] at hv <;> subst hv <;> simp [execOp, e1, e2, eqGuard, binOp, Op.intArith, Op.intCmp, Op.intBits, GT.gt, GE.ge]
/-- Sums that fit. -/
def ar (op : BinOp) (a b : Int) : Option Int :=
  match op with
  | .add => some (a + b)
  | .sub => some (a - b)
  | .mul => some (a * b)
  | _ => none
/-- The number fits its kind. -/
def inR : IntKind → Int → Prop
  | .i8, n => -128 ≤ n ∧ n ≤ 127
  | .i16, n => -32768 ≤ n ∧ n ≤ 32767
  | .i32, n => -2147483648 ≤ n ∧ n ≤ 2147483647
  | .i64, n => -9223372036854775808 ≤ n ∧ n ≤ 9223372036854775807
  | .u8, n => 0 ≤ n ∧ n ≤ 255
  | .u16, n => 0 ≤ n ∧ n ≤ 65535
  | .u32, n => 0 ≤ n ∧ n ≤ 4294967295
  | .u64, n => 0 ≤ n ∧ n ≤ 18446744073709551615
theorem inR_i32 {n : Int} (h1 : -2147483648 ≤ n) (h2 : n ≤ 2147483647) : inR .i32 n := ⟨h1, h2⟩
theorem inR_i64 {n : Int} (h1 : -9223372036854775808 ≤ n) (h2 : n ≤ 9223372036854775807) : inR .i64 n := ⟨h1, h2⟩
theorem inR_u8 {n : Int} (h1 : 0 ≤ n) (h2 : n ≤ 255) : inR .u8 n := ⟨h1, h2⟩
theorem inR_u16 {n : Int} (h1 : 0 ≤ n) (h2 : n ≤ 65535) : inR .u16 n := ⟨h1, h2⟩
theorem inR_u32 {n : Int} (h1 : 0 ≤ n) (h2 : n ≤ 4294967295) : inR .u32 n := ⟨h1, h2⟩
theorem inR_u64 {n : Int} (h1 : 0 ≤ n) (h2 : n ≤ 18446744073709551615) : inR .u64 n := ⟨h1, h2⟩
theorem wrap_inR {k : IntKind} {n : Int} (hh : inR k n) : k.wrap n = n := by
  cases k <;> simp only [inR] at hh <;> simp [IntKind.wrap, IntKind.bits, IntKind.signed] <;> omega
theorem od_ar {op : BinOp} {t t' : TypeId} {x y : Operand} {k : IntKind} {a b c : Int} (hx : Ev L x (.int k a)) (hy : Ev L y (.int k b)) (hv : ar op a b = some c) (hr : inR k c) :
    OP P C ⟨dst, .binOp op t x y t', ty, pos, after, gd⟩ L H h (.int k c) := by
  refine od_bin hx hy ?_
  cases op <;> simp [ar] at hv <;> subst hv <;> simp only [bi, wrap_inR hr]
theorem od_eqb {t t' : TypeId} {x y : Operand} {a b : Bool} [TBool P t] (hx : Ev L x (.bool a)) (hy : Ev L y (.bool b)) :
    OP P C ⟨dst, .binOp .eql t x y t', ty, pos, after, gd⟩ L H h (.bool (a == b)) :=
  od_pure fun ρ w hρ _ => by
    have e1 := hρ x (by simp [Op.operands]) _ hx
    have e2 := hρ y (by simp [Op.operands]) _ hy
    have hu := TBool.eq (P := P) (t := t)
    have hb : binOp .eql t (.bool a) (.bool b) = (do pure (.bool (← Op.equal t (.bool a) (.bool b)))) := rfl
    have hr := run_equalIn_bool (P := P) w 9999 t a b hu
    simp only [execOp, e1, e2, hb, Op.equal, Op.maxDepth]
    simp [eqGuard, hr]
theorem od_neb {t t' : TypeId} {x y : Operand} {a b : Bool} [TBool P t] (hx : Ev L x (.bool a)) (hy : Ev L y (.bool b)) :
    OP P C ⟨dst, .binOp .neq t x y t', ty, pos, after, gd⟩ L H h (.bool (a != b)) :=
  od_pure fun ρ w hρ _ => by
    have e1 := hρ x (by simp [Op.operands]) _ hx
    have e2 := hρ y (by simp [Op.operands]) _ hy
    have hu := TBool.eq (P := P) (t := t)
    have hb : binOp .neq t (.bool a) (.bool b) = (do pure (.bool (!(← Op.equal t (.bool a) (.bool b))))) := rfl
    have hr := run_equalIn_bool (P := P) w 9999 t a b hu
    simp only [execOp, e1, e2, hb, Op.equal, Op.maxDepth]
    simp [eqGuard, hr, bne]
theorem od_not {t : TypeId} {x : Operand} {a : Bool} (hx : Ev L x (.bool a)) : OP P C ⟨dst, .unOp .not t x, ty, pos, after, gd⟩ L H h (.bool (!a)) :=
  od_pure fun ρ w hρ _ => by
    have e1 := hρ x (by simp [Op.operands]) _ hx
    simp [execOp, e1, Op.unary]
theorem od_conv {s t : TypeId} {x : Operand} {k k' : IntKind} {a : Int} [TInt P s k'] [TInt P t k] (hx : Ev L x (.int k' a)) : OP P C ⟨dst, .convert s t x, ty, pos, after, gd⟩ L H h (.int k (k.wrap a)) :=
  od_pure fun ρ w hρ _ => by
    have e1 := hρ x (by simp [Op.operands]) _ hx
    have hs := TInt.eq (P := P) (t := s)
    have ht := TInt.eq (P := P) (t := t)
    simp [execOp, e1, convert, run_underlying hs, run_underlying ht, Conv.intToInt]
theorem od_cv {s t : TypeId} {x : Operand} {k k' : IntKind} {a : Int} [TInt P s k'] [TInt P t k] (hx : Ev L x (.int k' a)) (hr : inR k a) : OP P C ⟨dst, .convert s t x, ty, pos, after, gd⟩ L H h (.int k a) := by
  have := od_conv (P := P) (C := C) (H := H) (h := h) (dst := dst) (ty := ty) (pos := pos) (after := after) (gd := gd) (s := s) (t := t) hx
  rwa [wrap_inR hr] at this
theorem od_extract {x : Operand} {i : Nat} {vs : List Value} {v : Value} (hx : Ev L x (.tuple vs.toArray)) (hv : vs[i]? = some v) : OP P C ⟨dst, .extract x i, ty, pos, after, gd⟩ L H h v :=
  od_pure fun ρ w hρ _ => by
    have e1 := hρ x (by simp [Op.operands]) _ hx
    simp [execOp, e1, Instr.extract, hv]
theorem od_makeFunc0 {fn : Fn} : OP P C ⟨dst, .makeFunc fn #[] #[], ty, pos, after, gd⟩ L H h (.func fn #[] #[]) :=
  od_pure fun ρ w _ _ => by simp [execOp, Instr.makeFunc]
/-- A list of operands, each told. -/
inductive Evs (L : En) : List Operand → List Value → Prop
  | nil : Evs L [] []
  | cons {x : Operand} {v : Value} {xs : List Operand} {vs : List Value} (hx : Ev L x v) (hxs : Evs L xs vs) : Evs L (x :: xs) (v :: vs)
theorem Evs.map {L : En} {xs : List Operand} {vs : List Value} (hh : Evs L xs vs) {ρ : Operand → Value} (hρ : ∀ x ∈ xs, ∀ u, Ev L x u → ρ x = u) : xs.map ρ = vs := by
  induction hh with
  | nil => rfl
  | cons hx _ ih => simp [hρ _ (by simp) _ hx, ih fun x hm => hρ x (by simp [hm])]
theorem od_makeFunc {fn : Fn} {xs : List Operand} {vs : List Value} (hx : Evs L xs vs) : OP P C ⟨dst, .makeFunc fn #[] xs.toArray, ty, pos, after, gd⟩ L H h (.func fn #[] vs.toArray) :=
  od_pure fun ρ w hρ _ => by
    have e := hx.map (ρ := ρ) (fun x hm => hρ x (by simp [Op.operands, hm]))
    simp [execOp, Instr.makeFunc, e]

/-! ### Choice between two arms -/
theorem od_and {c x : Operand} {b y : Bool} {g : List (Bool × Bool)} (hc : evo L c = some (g, .bool b)) (hg : Sat g) (hx : evo L x = some ((b, true) :: g, .bool y)) :
    OP P C ⟨dst, .pick c x (.const (.bool false)), ty, pos, after, gd⟩ L H h (.bool (b && y)) :=
  od_pure fun ρ w hρ _ => by
    have e1 := hρ c (by simp [Op.operands]) _ ⟨g, hc, hg⟩
    have e3 := hρ (.const (.bool false)) (by simp [Op.operands]) (.bool false) ⟨[], rfl, trivial⟩
    cases b with
    | false => simp [execOp, e1, e3, asBool]
    | true =>
      have e2 := hρ x (by simp [Op.operands]) _ ⟨_, hx, rfl, hg⟩
      simp [execOp, e1, e2, asBool]
theorem od_or {c y : Operand} {b z : Bool} {g : List (Bool × Bool)} (hc : evo L c = some (g, .bool b)) (hg : Sat g) (hy : evo L y = some ((b, false) :: g, .bool z)) :
    OP P C ⟨dst, .pick c (.const (.bool true)) y, ty, pos, after, gd⟩ L H h (.bool (b || z)) :=
  od_pure fun ρ w hρ _ => by
    have e1 := hρ c (by simp [Op.operands]) _ ⟨g, hc, hg⟩
    have e3 := hρ (.const (.bool true)) (by simp [Op.operands]) (.bool true) ⟨[], rfl, trivial⟩
    cases b with
    | true => simp [execOp, e1, e3, asBool]
    | false =>
      have e2 := hρ y (by simp [Op.operands]) _ ⟨_, hy, rfl, hg⟩
      simp [execOp, e1, e2, asBool]

/-! ### A list written out -/
inductive Nf : List Value → List Value → Prop
  | nil : Nf [] []
  | cons {x : Value} {xs ys : List Value} (hh : Nf xs ys) : Nf (x :: xs) (x :: ys)
theorem Nf.eq {xs ys : List Value} (hh : Nf xs ys) : xs = ys := by
  induction hh with
  | nil => rfl
  | cons _ ih => rw [ih]

/-! ### Private boxes -/
inductive HGet : List HE → Nat → List Value → TypeId → Prop
  | here {H : List HE} {b : Nat} {cs : List Value} {t : TypeId} : HGet (box b cs t :: H) b cs t
  | there {e : HE} {H : List HE} {b : Nat} {cs : List Value} {t : TypeId} (hh : HGet H b cs t) : HGet (e :: H) b cs t
theorem HGet.ents {H : List HE} {b : Nat} {cs : List Value} {t : TypeId} (hh : HGet H b cs t) : ∀ {l : List Blk}, Ents H l → (b, Obj.cells cs.toArray t (0, 0)) ∈ l := by
  induction hh with
  | here => rintro l ⟨l1, l2, rfl, e, _⟩; rw [show l1 = _ from e]; simp
  | there _ ih => rintro l ⟨l1, l2, rfl, _, e⟩; exact List.mem_append_right _ (ih e)
theorem HGet.block {b : Nat} {cs : List Value} {t : TypeId} (hh : HGet H b cs t) {w : World} (hw : Inv C H h w) : w.heap[b]? = some (.cells cs.toArray t (0, 0)) := by
  obtain ⟨l, he, hs, _⟩ := hw
  exact hs.mem _ _ (hh.ents he)
theorem HGet.more {b : Nat} {cs : List Value} {t : TypeId} (hh : HGet H b cs t) : ∀ Hx : List HE, HGet (Hx ++ H) b cs t
  | [] => hh
  | _ :: Hx => .there (hh.more Hx)
theorem HGet.blockS {b : Nat} {cs : List Value} {t : TypeId} (hh : HGet H b cs t) {w : World} (hw : SS C H h w) : w.heap[b]? = some (.cells cs.toArray t (0, 0)) := by
  obtain ⟨Hx, h', _, hi⟩ := hw
  exact (hh.more Hx).block hi

theorem cell_of {w : World} {b : Nat} {cs : List Value} {t : TypeId} {fr : Nat × Nat} (hb : w.heap[b]? = some (.cells cs.toArray t fr)) {off j : Nat} {v : Value} (hv : cs[off + j]? = some v) : w.cell? ((⟨b, off, none⟩ : Addr).add j) = some v := by
  unfold Addr.add
  split
  · rename_i e; subst e; simp [World.cell?, hb]; simpa using hv
  · simp [World.cell?, hb]; simpa using hv
theorem run_loadAt {t : TypeId} {n : Nat} {g : Bool} [TI P t n g] {w : World} {b off : Nat} {cs : List Value} {t' : TypeId} {fr : Nat × Nat} (hb : w.heap[b]? = some (.cells cs.toArray t' fr)) {vs : List Value}
    (hv : (cs.drop off).take n = vs) (hn : vs.length = n) (hg : g = true ∨ n = 1) :
    (Instr.loadAt t (.pointer (some ⟨b, off, none⟩))).run P w = .ok (if g then .agg vs.toArray else vs.getD 0 undef) w := by
  have hsz := run_sz (TI.sz (P := P) (t := t)) w
  have hag := run_agg (TI.ag (P := P) (t := t)) w
  have hcell : ∀ j v, vs[j]? = some v → w.cell? ((⟨b, off, none⟩ : Addr).add j) = some v := by
    intro j v e
    refine cell_of hb ?_
    rw [← hv] at e
    rw [List.getElem?_take] at e
    split at e
    · rwa [List.getElem?_drop] at e
    · simp at e
  simp only [Instr.loadAt, Instr.sureAddr, loadVar, Sem.run_bind, Sem.run_pure, Result.andThen_ok, hag]
  cases g with
  | true =>
    simp only [if_true, Sem.run_bind, hsz, Result.andThen_ok]
    have := run_loadCells_list (P := P) (w := w) ⟨b, off, none⟩ vs hcell
    rw [hn] at this
    simp [this]
  | false =>
    have h1 : n = 1 := by simpa using hg
    subst h1
    match vs, hn with
    | [v], _ =>
      have := hcell 0 v rfl
      have e0 : (⟨b, off, none⟩ : Addr).add 0 = ⟨b, off, none⟩ := rfl
      rw [e0] at this
      simp [load, Sem.run, this]

theorem od_load_agg {t : TypeId} {n : Nat} {x : Operand} {b off : Nat} {cs vs : List Value} {t' : TypeId} [TI P t n true] (hx : Ev L x (.pointer (some ⟨b, off, none⟩))) (hb : HGet H b cs t')
    (hv : Nf ((cs.drop off).take n) vs) (hn : vs.length = n) : OP P C ⟨dst, .load t x, ty, pos, after, gd⟩ L H h (.agg vs.toArray) :=
  od_pure fun ρ w hρ hw => by
    have e1 := hρ x (by simp [Op.operands]) _ hx
    have := run_loadAt (P := P) (t := t) (off := off) (hb.blockS hw) hv.eq hn (.inl rfl)
    simp [execOp, e1, this]
theorem od_load_one {t : TypeId} {x : Operand} {b off : Nat} {cs : List Value} {v : Value} {t' : TypeId} [TI P t 1 false] (hx : Ev L x (.pointer (some ⟨b, off, none⟩))) (hb : HGet H b cs t')
    (hv : cs[off]? = some v) : OP P C ⟨dst, .load t x, ty, pos, after, gd⟩ L H h v :=
  od_pure fun ρ w hρ hw => by
    have e1 := hρ x (by simp [Op.operands]) _ hx
    have hvs : (cs.drop off).take 1 = [v] := by
      have : off < cs.length := (List.getElem?_eq_some_iff.1 hv).1
      rw [List.drop_eq_getElem_cons this]
      simp [(List.getElem?_eq_some_iff.1 hv).2]
    have := run_loadAt (P := P) (t := t) (off := off) (hb.blockS hw) hvs rfl (.inr rfl)
    simp [execOp, e1, this]
theorem od_fieldAddr {s : TypeId} {x : Operand} {f off b o n : Nat} {ft : TypeId} {ag : Bool} [TFd P s f off ft] [TI P ft (n + 1) ag] (hx : Ev L x (.pointer (some ⟨b, o, none⟩))) {o' : Nat} (ho : o + off = o') :
    OP P C ⟨dst, .fieldAddr s x f, ty, pos, after, gd⟩ L H h (.pointer (some ⟨b, o', none⟩)) :=
  od_pure fun ρ w hρ hw => by
    have e1 := hρ x (by simp [Op.operands]) _ hx
    have hf := TFd.eq (P := P) (s := s) (f := f)
    subst ho
    cases hu : P.underlying s with
    | none => simp [hu] at hf
    | some d =>
      rw [hu] at hf
      cases d with
      | struct fs =>
        simp only [Option.map_eq_some_iff, Prod.mk.injEq] at hf
        obtain ⟨fd, hfd, rfl, rfl⟩ := hf
        have hsz := run_sz (TI.sz (P := P) (t := fd.type)) w
        have : (Addr.add ⟨b, o, none⟩ fd.offset) = ⟨b, o + fd.offset, none⟩ := by
          unfold Addr.add
          split
          · rename_i e; rw [e]; rfl
          · rfl
        simp [execOp, e1, Instr.fieldAt, run_underlying hu, hfd, Instr.sureAddr, fieldPlace, hsz, this]
      | _ => simp at hf
end
end Go.GV
