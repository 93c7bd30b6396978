/- Struct equality, builtins, loops, over the small logic of GvA to GvD. -/
import Derived.Test.YtikkkfamflmgeaaGvD
namespace Go.GV
open Go

/-! ### Equality of structs of plain fields -/
/-- The kinds of a struct's fields, if all are integers or bools (none: a bool), at offsets 0, 1, .. -/
def flatFs (P : Program) : List Field → Nat → Option (List (Option IntKind))
  | [], _ => some []
  | f :: fs, i =>
    if f.name != "_" && f.offset == i then
      match P.underlying f.type with
      | some (.int k) => (flatFs P fs (i + 1)).map (some k :: ·)
      | some .bool => (flatFs P fs (i + 1)).map (none :: ·)
      | _ => none
    else none
class TEq (P : Program) (t : TypeId) (ks : outParam (List (Option IntKind))) : Prop where
  eq : (match P.underlying t with | some (.struct fs) => flatFs P fs.toList 0 | _ => none) = some ks
  held : P.stoodInHeld t = false
  guard : P.eqGuardType P.depth t = false
inductive Cells : List (Option IntKind) → List Value → Prop
  | nil : Cells [] []
  | int {k : IntKind} {a : Int} {ks : List (Option IntKind)} {vs : List Value} (hh : Cells ks vs) : Cells (some k :: ks) (.int k a :: vs)
  | bool {b : Bool} {ks : List (Option IntKind)} {vs : List Value} (hh : Cells ks vs) : Cells (none :: ks) (.bool b :: vs)
def eqV : Value → Value → Bool
  | .int _ a, .int _ b => a == b
  | .bool a, .bool b => a == b
  | _, _ => false
def eqL : List Value → List Value → Bool
  | [], [] => true
  | [x], [y] => eqV x y
  | x :: xs, y :: ys => eqV x y && eqL xs ys
  | _, _ => false
theorem eqL_cons (x y : Value) (xs ys : List Value) (hl : xs.length = ys.length) : eqL (x :: xs) (y :: ys) = (eqV x y && eqL xs ys) := by
  cases xs with
  | nil => cases ys with
    | nil => simp [eqL]
    | cons b bs => simp at hl
  | cons a as => cases ys with
    | nil => simp at hl
    | cons b bs => rfl
theorem Cells.length {ks : List (Option IntKind)} {vs : List Value} (hh : Cells ks vs) : vs.length = ks.length := by
  induction hh with
  | nil => rfl
  | int _ ih => simp [ih]
  | bool _ ih => simp [ih]
theorem run_part1 {P : Program} {t : TypeId} (hp : (match P.underlying t with | some (.struct _) | some (.array _ _) => some true | some _ => some false | none => none) = some false) {cs : Array Value} {off : Nat} {v : Value} (hv : cs[off]? = some v) (w : World) :
    (part t cs off).run P w = .ok v w := by
  simp [part, run_agg hp, hv]
theorem run_eqFields {P : Program} (d : Nat) (w : World) (X Y : Array Value) : ∀ (fs : List Field) (i : Nat) (ks : List (Option IntKind)) (xs ys : List Value), flatFs P fs i = some ks → Cells ks xs → Cells ks ys → X.toList.drop i = xs → Y.toList.drop i = ys →
    (Op.eqFields (d + 1) X Y fs).run P w = .ok (eqL xs ys) w
  | [], i, ks, xs, ys, h, hx, hy, _, _ => by
    simp [flatFs] at h
    subst h
    cases hx; cases hy
    simp [Op.eqFields, eqL]
  | f :: fs, i, ks, xs, ys, h, hx, hy, ex, ey => by
    simp only [flatFs] at h
    split at h
    · rename_i hn
      simp at hn
      obtain ⟨hname, hoff⟩ := hn
      have step : ∀ (kk : Option IntKind) (ks' : List (Option IntKind)) (x y : Value) (xs' ys' : List Value), flatFs P fs (i + 1) = some ks' → xs = x :: xs' → ys = y :: ys' → Cells ks' xs' → Cells ks' ys' →
          (match P.underlying f.type with | some (.struct _) | some (.array _ _) => some true | some _ => some false | none => none) = some false →
          (Op.equalIn (d + 1) f.type x y).run P w = .ok (eqV x y) w → (Op.eqFields (d + 1) X Y (f :: fs)).run P w = .ok (eqL xs ys) w := by
        intro kk ks' x y xs' ys' hk e1 e2 c1 c2 hp he
        have gx : X[f.offset]? = some x := by
          rw [hoff, ← Array.getElem?_toList]
          have : (X.toList.drop i)[0]? = some x := by rw [ex, e1]; rfl
          simpa using this
        have gy : Y[f.offset]? = some y := by
          rw [hoff, ← Array.getElem?_toList]
          have : (Y.toList.drop i)[0]? = some y := by rw [ey, e2]; rfl
          simpa using this
        have dx : X.toList.drop (i + 1) = xs' := by rw [← List.drop_drop, ex, e1]; rfl
        have dy : Y.toList.drop (i + 1) = ys' := by rw [← List.drop_drop, ey, e2]; rfl
        have ih := run_eqFields (P := P) d w X Y fs (i + 1) ks' xs' ys' hk c1 c2 dx dy
        have px := run_part1 hp gx w
        have py := run_part1 hp gy w
        simp only [Op.eqFields]
        rw [if_pos hname]
        simp only [Sem.run_bind, px, py, Result.andThen_ok, he]
        rw [e1, e2, eqL_cons x y xs' ys' (by rw [c1.length, c2.length])]
        cases hb : eqV x y
        · simp
        · simp [ih]
      cases hu : P.underlying f.type with
      | none => simp [hu] at h
      | some ud =>
        rw [hu] at h
        cases ud with
        | int k =>
          simp only [Option.map_eq_some_iff] at h
          obtain ⟨ks', hk, rfl⟩ := h
          cases hx with
          | int cx => cases hy with
            | int cy => exact step (some k) ks' _ _ _ _ hk rfl rfl cx cy (by rw [hu]) (run_equalIn_int w d f.type k k _ _ hu)
        | bool =>
          simp only [Option.map_eq_some_iff] at h
          obtain ⟨ks', hk, rfl⟩ := h
          cases hx with
          | bool cx => cases hy with
            | bool cy => exact step none ks' _ _ _ _ hk rfl rfl cx cy (by rw [hu]) (run_equalIn_bool w d f.type _ _ hu)
        | _ => simp at h
    · simp at h

section
variable {ρ : Option Nat} {P : Program} {C : Ctx} {N : Fr} {L : En} {H : List HE} {h : PH} {dst : Option Tmp} {ty : TypeId} {pos : String} {after : Array Edge} {gd : Option (Nat × Bool)}
variable {ops : Array Oper} {o : Oper} {rest : List Oper} {Q : Exit → Act → World → Prop}

theorem run_equal_flat {t : TypeId} {ks : List (Option IntKind)} [TEq P t ks] {xs ys : List Value} (cx : Cells ks xs) (cy : Cells ks ys) (w : World) : (Op.equal t (.agg xs.toArray) (.agg ys.toArray)).run P w = .ok (eqL xs ys) w := by
  have he := TEq.eq (P := P) (t := t)
  cases hu : P.underlying t with
  | none => simp [hu] at he
  | some d =>
    rw [hu] at he
    cases d with
    | struct fs =>
      have hf : P.fieldsOf t = fs := by simp [Program.fieldsOf, hu]
      unfold Op.equal Op.maxDepth
      rw [run_equalIn_struct w 9999 t _ _ (by rw [hf]; exact hu) (TEq.held), hf]
      exact run_eqFields (P := P) 9998 w _ _ fs.toList 0 ks xs ys he cx cy (by simp) (by simp)
    | _ => simp at he
theorem od_eqs {t t' : TypeId} {x y : Operand} {ks : List (Option IntKind)} {xs ys : List Value} [TEq P t ks] (hx : Ev L x (.agg xs.toArray)) (hy : Ev L y (.agg ys.toArray)) (cx : Cells ks xs) (cy : Cells ks ys) :
    OP P C ⟨dst, .binOp .eql t x y t', ty, pos, after, gd⟩ L H h (.bool (eqL xs ys)) :=
  od_pure fun ρ w hρ _ => by
    have e1 := hρ x (by simp [Op.operands]) _ hx
    have e2 := hρ y (by simp [Op.operands]) _ hy
    have hg := run_eqGuard_agg (P := P) w .eql t x y xs.toArray ys.toArray TEq.guard
    have hb : binOp .eql t (.agg xs.toArray) (.agg ys.toArray) = (do pure (.bool (← Op.equal t (.agg xs.toArray) (.agg ys.toArray)))) := rfl
    simp only [execOp, e1, e2, hb, Sem.run_bind, hg, Result.andThen_ok, run_equal_flat cx cy w, Sem.run_pure]
theorem od_nes {t t' : TypeId} {x y : Operand} {ks : List (Option IntKind)} {xs ys : List Value} [TEq P t ks] (hx : Ev L x (.agg xs.toArray)) (hy : Ev L y (.agg ys.toArray)) (cx : Cells ks xs) (cy : Cells ks ys) :
    OP P C ⟨dst, .binOp .neq t x y t', ty, pos, after, gd⟩ L H h (.bool (!eqL xs ys)) :=
  od_pure fun ρ w hρ _ => by
    have e1 := hρ x (by simp [Op.operands]) _ hx
    have e2 := hρ y (by simp [Op.operands]) _ hy
    have hg := run_eqGuard_agg (P := P) w .neq t x y xs.toArray ys.toArray TEq.guard
    have hb : binOp .neq t (.agg xs.toArray) (.agg ys.toArray) = (do pure (.bool (!(← Op.equal t (.agg xs.toArray) (.agg ys.toArray))))) := rfl
    simp only [execOp, e1, e2, hb, Sem.run_bind, hg, Result.andThen_ok, run_equal_flat cx cy w, Sem.run_pure]

/-! ### Builtins -/
theorem od_min {x y : Operand} {at_ : Array TypeId} {k : IntKind} {a b : Int} (hx : Ev L x (.int k a)) (hy : Ev L y (.int k b)) : OP P C ⟨dst, .call ⟨.builtin .min, #[x, y], at_⟩, ty, pos, after, gd⟩ L H h (.int k (min a b)) :=
  od_pure fun ρ w hρ _ => by
    have e1 := hρ x (by simp [Op.operands, Call.operands]) _ hx
    have e2 := hρ y (by simp [Op.operands, Call.operands]) _ hy
    have : (if b < a then b else a) = min a b := by omega
    simp [execOp, resolve, e1, e2, invoke, builtin, Builtin.min_, Builtin.min2, this]
theorem od_max {x y : Operand} {at_ : Array TypeId} {k : IntKind} {a b : Int} (hx : Ev L x (.int k a)) (hy : Ev L y (.int k b)) : OP P C ⟨dst, .call ⟨.builtin .max, #[x, y], at_⟩, ty, pos, after, gd⟩ L H h (.int k (max a b)) :=
  od_pure fun ρ w hρ _ => by
    have e1 := hρ x (by simp [Op.operands, Call.operands]) _ hx
    have e2 := hρ y (by simp [Op.operands, Call.operands]) _ hy
    simp [execOp, resolve, e1, e2, invoke, builtin, Builtin.max_, Builtin.max2]
    omega
theorem od_len {x : Operand} {t e : TypeId} [TSl P t e] {p : Option Addr} {n c : Nat} (hx : Ev L x (.slice p n c)) : OP P C ⟨dst, .call ⟨.builtin .len, #[x], #[t]⟩, ty, pos, after, gd⟩ L H h (.int .i64 n) :=
  od_pure fun ρ w hρ _ => by
    have e1 := hρ x (by simp [Op.operands, Call.operands]) _ hx
    have hu := TSl.eq (P := P) (t := t)
    simp [execOp, resolve, e1, invoke, builtin, Builtin.len_, run_underlying hu, goInt]

/-! ### Loops -/
theorem hd_loop {c : Code} {ι : Type} (I : ι → Prop) (LL : ι → En) (HH : ι → List HE) (hh : ι → PH) (μ : ι → Nat) (i0 : ι) (h0 : I i0) (start : ∀ a w, EnOK a N L → Inv C H h w → EnOK a N (LL i0) ∧ Inv C (HH i0) (hh i0) w)
    (round : ∀ i, I i → Hd C N (LL i) (HH i) (hh i) (cw ρ P c (Exit.then (fun a w => ∃ j, I j ∧ μ j < μ i ∧ EnOK a N (LL j) ∧ Inv C (HH j) (hh j) w) Q))) : Hd C N L H h (cw ρ P (Code.loop c) Q) := by
  refine ⟨fun a w ha hw => ?_⟩
  have key : ∀ n (i : ι), μ i = n → I i → ∀ a w, EnOK a N (LL i) → Inv C (HH i) (hh i) w → ∀ (b : Frame) (k : List Item) (cs : List Frame), b.roundOf = (fR ρ).round → (fR ρ).fn b.fn → (fR ρ).room (cs.length + 1 + 0) →
      ∃ e a' w', Q e a' w' ∧ ArrivesIn (Machine.fenced P (fR ρ)) P (lone (b.atR a (.code c :: .inLoop c :: k)) cs w) b k cs e a' w' := by
    intro n
    induction n using Nat.strongRecOn with
    | _ n ih =>
      intro i hn hi a w ha hw b k cs hro hb hr
      obtain ⟨e, a1, w1, hq, harr⟩ := (round i hi).all a w ha hw b (.inLoop c :: k) cs hro hb hr
      cases e with
      | normal =>
        obtain ⟨j, hj, hlt, ha1, hw1⟩ := hq
        obtain ⟨e2, a2, w2, hq2, harr2⟩ := ih (μ j) (hn ▸ hlt) j rfl hj a1 w1 ha1 hw1 b k cs hro hb hr
        exact ⟨e2, a2, w2, hq2, .of_steps (StepsIn.trans harr (.one (fenced_calm hb hr rfl) stepR_inLoop)) harr2⟩
      | exit id => exact ⟨_, a1, w1, hq, .pass (x := .inLoop c) rfl (fun _ _ => .inl (by simp)) harr⟩
      | goto l => exact ⟨_, a1, w1, hq, .pass (x := .inLoop c) rfl (fun _ _ => .inl (by simp)) harr⟩
      | ret => exact ⟨_, a1, w1, hq, .pass (x := .inLoop c) rfl (fun _ _ => .inl (by simp)) harr⟩
      | panic ch => exact ⟨_, a1, w1, hq, .pass (x := .inLoop c) rfl (fun _ _ => .inl (by simp)) harr⟩
      | outgrown => exact ⟨_, a1, w1, hq, .pass (x := .inLoop c) rfl (fun _ _ => .inl (by simp)) harr⟩
  obtain ⟨ha', hw'⟩ := start a w ha hw
  intro b k cs hro hb hr
  obtain ⟨e, a', w', hq, harr⟩ := key _ i0 rfl h0 a w ha' hw' b k cs hro hb hr
  exact ⟨e, a', w', hq, .of_steps (.one (fenced_calm hb hr rfl) stepR_loop) harr⟩
end
end Go.GV
