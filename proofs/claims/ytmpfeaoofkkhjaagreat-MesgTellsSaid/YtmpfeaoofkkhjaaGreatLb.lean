/- A small logic over the kit's weakest preconditions, part 2. -/
import Derived.Test.YtmpfeaoofkkhjaaGreatLa
import Derived.Laws.BytesArg
import Derived.ChangeArms
set_option linter.unusedVariables false
set_option linter.unusedSimpArgs false
section
/- Shifts, divisions, guards known to hold, strings of bytes, rows of the call's own read and written by index; over the small logic of GvA to GvK. -/
namespace Go.GV
open Go

class TStr (P : Program) (t : TypeId) : Prop where
  eq : P.underlying t = some .string

theorem nonneg_inR_div {k : IntKind} {a b : Int} (h : inR k a) (h0 : 0 ≤ a) (hb : 0 < b) : inR k (a / b) := by
  have h1 : a / b ≤ a := Int.ediv_le_self b h0
  have h2 : 0 ≤ a / b := Int.ediv_nonneg h0 (Int.le_of_lt hb)
  cases k <;> simp only [inR] at h ⊢ <;> omega

section
variable {ρ : Option Nat} {P : Program} {C : Ctx} {N : Fr} {L : En} {H H' : List HE} {h : PH} {dst : Option Tmp} {ty : TypeId} {pos : String} {after : Array Edge} {gd : Option (Nat × Bool)}
variable {ops : Array Oper} {o : Oper} {rest : List Oper} {Q : Exit → Act → World → Prop}

/-! ### Shifts, divisions -/
theorem od_shr {t t' : TypeId} {x y : Operand} {k k' : IntKind} {a b : Int} {n : Nat} (hx : Ev L x (.int k a)) (hy : Ev L y (.int k' b)) (hb : b = (n : Int)) (hn : n ≤ k.bits) :
    OP P C ⟨dst, .binOp .shr t x y t', ty, pos, after, gd⟩ L H h (.int k (a / 2 ^ n)) :=
  od_pure fun ρ w hρ _ => by
    have e1 := hρ x (by simp [Op.operands]) _ hx
    have e2 := hρ y (by simp [Op.operands]) _ hy
    subst hb
    have h0 : ¬ ((n : Int) < 0) := by omega
    have h1 : min n k.bits = n := Nat.min_eq_left hn
    have h2 : (0 : Int) ≤ 2 ^ n := by have := Int.pow_pos (n := 2) (m := n) (by omega); omega
    simp [execOp, e1, e2, eqGuard, binOp, Op.shift, h0, h1, Int.fdiv_eq_ediv_of_nonneg _ h2]
theorem od_shl {t t' : TypeId} {x y : Operand} {k k' : IntKind} {a b : Int} {n : Nat} (hx : Ev L x (.int k a)) (hy : Ev L y (.int k' b)) (hb : b = (n : Int)) (hn : n ≤ k.bits) :
    OP P C ⟨dst, .binOp .shl t x y t', ty, pos, after, gd⟩ L H h (.int k (k.wrap (a * 2 ^ n))) :=
  od_pure fun ρ w hρ _ => by
    have e1 := hρ x (by simp [Op.operands]) _ hx
    have e2 := hρ y (by simp [Op.operands]) _ hy
    subst hb
    have h0 : ¬ ((n : Int) < 0) := by omega
    have h1 : min n k.bits = n := Nat.min_eq_left hn
    simp [execOp, e1, e2, eqGuard, binOp, Op.shift, h0, h1]
theorem od_rem {t t' : TypeId} {x y : Operand} {k : IntKind} {a b : Int} (hx : Ev L x (.int k a)) (hy : Ev L y (.int k b)) (h0 : 0 ≤ a) (hb : 0 < b) :
    OP P C ⟨dst, .binOp .rem t x y t', ty, pos, after, gd⟩ L H h (.int k (a % b)) :=
  od_pure fun ρ w hρ _ => by
    have e1 := hρ x (by simp [Op.operands]) _ hx
    have e2 := hρ y (by simp [Op.operands]) _ hy
    have hb' : ¬ (b = 0) := by omega
    simp [execOp, e1, e2, eqGuard, binOp, Op.intDiv, hb', Int.tmod_eq_emod_of_nonneg h0]
theorem od_quo {t t' : TypeId} {x y : Operand} {k : IntKind} {a b : Int} (hx : Ev L x (.int k a)) (hy : Ev L y (.int k b)) (h0 : 0 ≤ a) (hb : 0 < b) (hr : inR k a) :
    OP P C ⟨dst, .binOp .quo t x y t', ty, pos, after, gd⟩ L H h (.int k (a / b)) :=
  od_pure fun ρ w hρ _ => by
    have e1 := hρ x (by simp [Op.operands]) _ hx
    have e2 := hρ y (by simp [Op.operands]) _ hy
    have hb' : ¬ (b = 0) := by omega
    simp [execOp, e1, e2, eqGuard, binOp, Op.intDiv, hb', Int.tdiv_eq_ediv_of_nonneg h0, wrap_inR (nonneg_inR_div hr h0 hb)]

/-! ### Guards that are known -/
theorem od_pickT {c x y : Operand} {v : Value} (hc : Ev L c (.bool true)) (hx : Ev L x v) : OP P C ⟨dst, .pick c x y, ty, pos, after, gd⟩ L H h v :=
  od_pure fun ρ w hρ _ => by
    have e1 := hρ c (by simp [Op.operands]) _ hc
    have e2 := hρ x (by simp [Op.operands]) _ hx
    simp [execOp, e1, e2, asBool]
theorem od_pickF {c x y : Operand} {v : Value} (hc : Ev L c (.bool false)) (hy : Ev L y v) : OP P C ⟨dst, .pick c x y, ty, pos, after, gd⟩ L H h v :=
  od_pure fun ρ w hρ _ => by
    have e1 := hρ c (by simp [Op.operands]) _ hc
    have e2 := hρ y (by simp [Op.operands]) _ hy
    simp [execOp, e1, e2, asBool]
/-- The guard holds: as without one. -/
theorem hd_gon {d : Option Tmp} {op : Op} {gu : Nat × Bool} {s : Nat} {want c : Bool} {g0 : List (Bool × Bool)} (hg : gslot ops (some gu) = some (s, want)) (hs : look L s = some (g0, .bool c)) (hsat : Sat ((c, want) :: g0))
    (next : Hd C N L H h (wpList P ops Q (⟨d, op, ty, pos, after, none⟩ :: rest))) : Hd C N L H h (wpList P ops Q (⟨d, op, ty, pos, after, some gu⟩ :: rest)) := by
  refine ⟨fun a w ha hw => ?_⟩
  have hn := next.all a w ha hw
  have hwa := wanted_of (o := ⟨d, op, ty, pos, after, some gu⟩) ha hg hs
  simp only [wpList] at hn ⊢
  rw [if_pos (by simp [Region.wanted])] at hn
  rw [if_pos (by rw [hwa]; exact (sat_iff _).1 hsat)]
  exact hn
/-- The guard does not hold: nothing is done. -/
theorem hd_goff {d : Tmp} {op : Op} {gu : Nat × Bool} {s : Nat} {want c : Bool} {g0 : List (Bool × Bool)} (hg : gslot ops (some gu) = some (s, want)) (hs : look L s = some (g0, .bool c)) (hsat : ¬ Sat ((c, want) :: g0)) (hN : Nat.blt d N.n = true)
    (next : Hd C N ((d, [], undef) :: L) H h (wpList P ops Q rest)) : Hd C N L H h (wpList P ops Q (⟨some d, op, ty, pos, after, some gu⟩ :: rest)) := by
  refine ⟨fun a w ha hw => ?_⟩
  have hwa := wanted_of (o := ⟨some d, op, ty, pos, after, some gu⟩) ha hg hs
  simp only [wpList]
  rw [if_neg (by rw [hwa, ← sat_iff]; exact hsat)]
  refine next.all _ _ ?_ hw
  have := ha.put (g := []) (v := undef) (d := d) (by simpa using hN)
  simpa [G, satB] using this

/-! ### Strings of bytes -/
theorem Src.more {q : Option Addr} {m sz : Nat} {ys : List Value} (hs : Src H h q m sz ys) (Hx : List HE) {h' : PH} (hl : h.le h') : Src (Hx ++ H) h' q m sz ys := by
  cases hs with
  | zero => exact .zero
  | sl hs => exact .sl (hs.mono hl)
  | row hm => exact .row (hm.more Hx)
theorem Src.wS {q : Option Addr} {m sz : Nat} {ys : List Value} (hs : Src H h q m sz ys) {w : World} (hw : SS C H h w) : SrcW w q m sz ys := by
  obtain ⟨Hx, h', hl, hi⟩ := hw
  exact (hs.more Hx hl).w hi
theorem od_b2s {s t e : TypeId} [TSl P s e] [TInt P e .u8] [TStr P t] {x : Operand} {q : Option Addr} {m d : Nat} {bs : List Int} {ys : List Value} (hx : Ev L x (.slice q m d)) (hs : Src H h q m 1 ys) (hys : ys = bs.map (Value.int .u8)) :
    OP P C ⟨dst, .convert s t x, ty, pos, after, gd⟩ L H h (.string (strOfNums bs)) :=
  od_pure fun ρ w hρ hw => by
    have e1 := hρ x (by simp [Op.operands]) _ hx
    obtain ⟨h1, h2, h3⟩ := hs.wS hw
    subst hys
    simp only [execOp, e1]
    cases q with
    | none =>
      have : bs = [] := by simpa using h2 rfl
      subst this
      have := run_convert_bytes_nil (P := P) w s e TSl.eq TInt.eq m d t TStr.eq
      simp [this, strOfNums]
      rfl
    | some a =>
      have hl : (loadCells a m).run P w = .ok (bs.map (Value.int .u8)).toArray w := by
        have := run_loadCells_list (P := P) w a (bs.map (Value.int .u8)) (h3 a rfl)
        rw [h1, Nat.mul_one] at this
        exact this
      rw [Sem.run_bind, run_convert_bytes_string w s t e _ m d TSl.eq TInt.eq TStr.eq, run_bytesToString w _ m d bs hl, foldl_push_bytes]
      simp [strOfNums, ByteArray.empty, ByteArray.emptyWithCapacity]
      rfl
theorem u8_inj {a b : Int} (ha : inR .u8 a) (hb : inR .u8 b) (e : UInt8.ofNat a.toNat = UInt8.ofNat b.toNat) : a = b := by
  simp only [inR] at ha hb
  have := congrArg UInt8.toNat e
  simp at this
  omega
theorem map_u8_inj : ∀ {xs ys : List Int}, (∀ x ∈ xs, inR .u8 x) → (∀ y ∈ ys, inR .u8 y) → (xs.map fun n => UInt8.ofNat n.toNat) = ys.map (fun n => UInt8.ofNat n.toNat) → xs = ys
  | [], [], _, _, _ => rfl
  | [], _ :: _, _, _, e => by simp at e
  | _ :: _, [], _, _, e => by simp at e
  | x :: xs, y :: ys, h1, h2, e => by
    simp only [List.map_cons, List.cons.injEq] at e
    rw [u8_inj (h1 x (by simp)) (h2 y (by simp)) e.1, map_u8_inj (fun z hz => h1 z (by simp [hz])) (fun z hz => h2 z (by simp [hz])) e.2]
theorem strOf_toList (xs : List Int) : (strOfNums xs).toList = xs.map fun n => UInt8.ofNat n.toNat := by
  rw [ByteArray.toList_eq]
  exact strOfNums_data xs
theorem od_seq {t t' : TypeId} {x y : Operand} {xs ys : List Int} (hx : Ev L x (.string (strOfNums xs))) (hy : Ev L y (.string (strOfNums ys))) (h1 : ∀ x ∈ xs, inR .u8 x) (h2 : ∀ y ∈ ys, inR .u8 y) :
    OP P C ⟨dst, .binOp .eql t x y t', ty, pos, after, gd⟩ L H h (.bool (decide (xs = ys))) :=
  od_pure fun ρ w hρ _ => by
    have e1 := hρ x (by simp [Op.operands]) _ hx
    have e2 := hρ y (by simp [Op.operands]) _ hy
    have : ((strOfNums xs).toList == (strOfNums ys).toList) = decide (xs = ys) := by
      rw [strOf_toList, strOf_toList]
      by_cases e : xs = ys
      · subst e; simp
      · rw [decide_eq_false e]
        exact beq_eq_false_iff_ne.2 fun e' => e (map_u8_inj h1 h2 e')
    simp [execOp, e1, e2, eqGuard, binOp, Op.stringOp, this]
def ltB : List Int → List Int → Bool
  | _, [] => false
  | [], _ :: _ => true
  | a :: x, b :: y => decide (a < b) || (decide (a = b) && ltB x y)
/-! ### Rows of the call's own, by index -/
theorem row_ptr {p : Option Addr} {n c : Nat} {e : TypeId} {sz : Nat} {xs : List Value} {l : List Blk} (hr : row p n c e sz xs l) (hn : 0 < n) : p = some ⟨pb p, 0, none⟩ := by
  obtain ⟨_, _, hr⟩ := hr
  rcases hr with ⟨_, h0, _⟩ | ⟨b, sp, h1, _⟩
  · omega
  · subst h1; rfl
theorem HMem.ptr {p : Option Addr} {n c : Nat} {e : TypeId} {sz : Nat} {xs : List Value} (hm : HMem H (row p n c e sz xs)) {w : World} (hw : SS C H h w) (hn : 0 < n) : p = some ⟨pb p, 0, none⟩ := by
  obtain ⟨Hx, h', _, l, he, _⟩ := hw
  obtain ⟨l1, hr, _⟩ := (hm.more Hx).ents he
  exact row_ptr hr hn
theorem od_indexR {t e e' : TypeId} {sz : Nat} {g : Bool} [TSl P t e] [TI P e sz g] {x y : Operand} {k : IntKind} {p : Option Addr} {n c i : Nat} {m : Int} {xs : List Value} (hx : Ev L x (.slice p n c)) (hy : Ev L y (.int k m)) (hmem : HMem H (row p n c e' sz xs)) (hm : m = (i : Int)) (hi : i < n) :
    OP P C ⟨dst, .indexAddr t x y, ty, pos, after, gd⟩ L H h (.pointer (some ⟨pb p, i * sz, none⟩)) :=
  od_pure fun ρ w hρ hw => by
    have hp := hmem.ptr hw (by omega)
    have hp' : p = some ⟨pb p, po p, none⟩ := by rw [hp]; rfl
    have := (od_index (P := P) (C := C) (L := L) (H := H) (h := h) (dst := dst) (ty := ty) (pos := pos) (after := after) (gd := gd) (t := t) hx hy hm hi hp').run ρ w hρ hw
    have h0 : po p = 0 := by rw [hp]; rfl
    rw [h0, Nat.zero_add] at this
    exact this
theorem HMem.cell {p : Option Addr} {n c : Nat} {e : TypeId} {sz : Nat} {xs : List Value} (hm : HMem H (row p n c e sz xs)) {w : World} (hw : SS C H h w) {j : Nat} {v : Value} (hv : xs[j]? = some v) : w.cell? ⟨pb p, j, none⟩ = some v := by
  have hs := (Src.row (h := h) hm).wS hw
  have hn : 0 < n := by
    rcases Nat.eq_zero_or_pos n with e0 | e0
    · subst e0
      have := hs.1
      simp at this
      subst this
      simp at hv
    · exact e0
  have hp := hm.ptr hw hn
  have := hs.2.2 _ hp j v hv
  rwa [addr_add, Nat.zero_add] at this
theorem od_load_oner {t : TypeId} {x : Operand} {off : Nat} {p : Option Addr} {n c sz : Nat} {e : TypeId} {xs : List Value} {v : Value} [TI P t 1 false] (hx : Ev L x (.pointer (some ⟨pb p, off, none⟩))) (hm : HMem H (row p n c e sz xs)) (hv : xs[off]? = some v) :
    OP P C ⟨dst, .load t x, ty, pos, after, gd⟩ L H h v :=
  od_pure fun ρ w hρ hw => by
    have e1 := hρ x (by simp [Op.operands]) _ hx
    have := run_loadAt_cells (P := P) (t := t) (b := pb p) (off := off) (w := w) (vs := [v]) (fun j u hj => by
      match j, hj with
      | 0, hj =>
        simp at hj
        subst hj
        rw [addr_add]
        exact hm.cell hw hv
      | j + 1, hj => simp at hj) rfl (.inr rfl)
    simp [execOp, e1, this]
theorem od_load_aggr {t : TypeId} {x : Operand} {off m : Nat} {p : Option Addr} {n c sz : Nat} {e : TypeId} {xs vs : List Value} [TI P t m true] (hx : Ev L x (.pointer (some ⟨pb p, off, none⟩))) (hm : HMem H (row p n c e sz xs)) (hv : (xs.drop off).take m = vs) (hn : vs.length = m) :
    OP P C ⟨dst, .load t x, ty, pos, after, gd⟩ L H h (.agg vs.toArray) :=
  od_pure fun ρ w hρ hw => by
    have e1 := hρ x (by simp [Op.operands]) _ hx
    have := run_loadAt_cells (P := P) (t := t) (b := pb p) (off := off) (w := w) (vs := vs) (fun j u hj => by
      rw [addr_add]
      refine hm.cell hw ?_
      rw [← hv, List.getElem?_take] at hj
      split at hj
      · rwa [List.getElem?_drop] at hj
      · cases hj) hn (.inl rfl)
    simp [execOp, e1, this]
theorem hd_storeR {T : TypeId} {x y : Operand} {off m : Nat} {v : Value} {p : Option Addr} {n c sz : Nat} {e : TypeId} {xs xs' vs : List Value} {g : Bool} [TI P T m g] (hx : Ev L x (.pointer (some ⟨pb p, off, none⟩))) (hy : Ev L y v) (hvs : v.cells = vs.toArray)
    (hpk : Pick H (row p n c e sz xs) H') (hn : vs.length = m) (hle : off + vs.length ≤ xs.length) (hpos : 0 < n) (hone : vs.all (·.oneCell') = true) (hxs : spl xs off vs = xs') (next : Hd C N L (row p n c e sz xs' :: H') h (wpList P ops Q rest)) :
    Hd C N L H h (wpList P ops Q (⟨none, .store T x y, ty, pos, after, none⟩ :: rest)) := by
  refine ⟨fun a w ha hw => ?_⟩
  have e1 := hx.eval ha
  have e2 := hy.eval ha
  have hsz := run_sz (TI.sz (P := P) (t := T)) w
  have hw1 := hw.pick hpk
  have hp : p ≠ none := by
    have := HMem.ptr (C := C) (h := h) (w := w) (HMem.here (e := row p n c e sz xs) (H := H')) (.of hw1) hpos
    rw [this]; simp
  obtain ⟨b, sp, rfl, h1, h2, h3, hbx⟩ := hw1.row_box hp
  have hgb := (HGet.here (b := b) (cs := xs ++ sp) (t := e) (H := H')).block hbx
  obtain ⟨w', hst, htn⟩ := run_storeCells (P := P) b e off vs 0 (xs ++ sp) w hgb (by simp; omega) hone
  have hsp : spl (xs ++ sp) off vs = xs' ++ sp := by
    rw [← hxs]
    unfold spl
    rw [List.take_append_of_le_length (by omega), List.drop_append_of_le_length (by omega)]
    simp
  rw [Nat.add_zero, hsp] at htn
  have hl' : xs'.length = xs.length := by rw [← hxs]; exact length_spl hle
  simp only [wpList]
  rw [if_pos (by simp [Region.wanted])]
  have hrun : (execOp a.eval ⟨none, .store T x y, ty, pos, after, none⟩).run P w = .ok .skip w' := by
    simp only [execOp, e1, e2, Instr.storeAt, Instr.sureAddr, storeVar, Sem.run_bind, Sem.run_pure, Result.andThen_ok, hsz, hvs, pb]
    simp [hn, hst]
  unfold opw
  rw [hrun]
  refine next.all _ _ ha (Inv.box_row (by rw [hl', h1]) h2 ?_ (hbx.turned HSet.here htn))
  rw [List.length_append, hl', ← List.length_append]; exact h3

/-! ### Handing out -/
theorem hd_pubbox {R : Act → World → Prop} {b : Nat} {cs : List Value} {t : TypeId} (hpk : Pick H (box b cs t) H') (next : ∀ h', h.le h' → Pub h' b 0 cs → Hd C N L H' h' R) : Hd C N L H h R := by
  refine ⟨fun a w ha hw => ?_⟩
  obtain ⟨hle, hi⟩ := Inv.publish1 (hw.pick hpk)
  exact (next _ hle ⟨cs.toArray, t, (0, 0), by simp [PH.add], fun j v hv => by simpa using hv⟩).all a w ha hi
theorem SpecM.turn {f : FuncId} {args : Array Value} {Hi : List HE} {A B : Value → PH → List HE → Prop} (s : SpecM P f args h Hi A) (ab : ∀ C v h' Ho w, A v h' Ho → Inv C Ho h' w → ∃ h'' Ho', B v h'' Ho' ∧ Inv C Ho' h'' w) : SpecM P f args h Hi B :=
  fun w l he hs => (s w l he hs).mono fun _ w' ⟨v, h', Ho, e, p, i⟩ => by
    obtain ⟨h'', Ho', p', i'⟩ := ab _ v h' Ho w' p i
    exact ⟨v, h'', Ho', e, p', i'⟩
end
/-- Cells of bytes. -/
def by8 (bs : List Int) : List Value := bs.map (Value.int .u8)
def el8 (bs : List Int) : List (List Value) := bs.map fun b => [.int .u8 b]
theorem el8_flat (bs : List Int) : (el8 bs).flatten = by8 bs := by
  induction bs with
  | nil => rfl
  | cons b bs ih => simp only [el8, List.map_cons, List.flatten_cons] at ih ⊢; rw [ih]; rfl
theorem by8_one (a : List Int) : (by8 a).all (·.oneCell') = true := by
  simp [by8]; intro x _; rfl
end Go.GV

end
section
/- Loops by a list of slots, sums by 'or'; over the small logic of GvA to GvL. -/
namespace Go.GV
open Go

inductive Sub (L : En) : En → Prop
  | nil : Sub L []
  | cons {s : Nat} {g : List (Bool × Bool)} {v v' : Value} {r : En} (hl : look L s = some (g, v')) (hv : v' = v) (hh : Sub L r) : Sub L ((s, g, v) :: r)
theorem Sub.look {L L' : En} (hs : Sub L L') : ∀ {s : Nat} {g : List (Bool × Bool)} {v : Value}, look L' s = some (g, v) → look L s = some (g, v) := by
  induction hs with
  | nil => intro s g v e; simp [GV.look] at e
  | cons hl hv _ ih =>
    intro s g v e
    rw [look_put] at e
    split at e
    · rename_i e1; subst e1; simp at e; rw [← e.1, ← e.2, ← hv]; exact hl
    · exact ih e
theorem Sub.ok {L L' : En} (hs : Sub L L') {a : Act} {N : Fr} (ha : EnOK a N L) : EnOK a N L' := ⟨ha.size, ha.defers, fun _ _ _ e => ha.at_ _ _ _ (hs.look e)⟩

section
variable {ρ : Option Nat} {P : Program} {C : Ctx} {N : Fr} {L : En} {H H' : List HE} {h : PH} {dst : Option Tmp} {ty : TypeId} {pos : String} {after : Array Edge} {gd : Option (Nat × Bool)}
variable {ops : Array Oper} {o : Oper} {rest : List Oper} {Q : Exit → Act → World → Prop}

theorem hd_loopS {c : Code} {ι : Type} (I : ι → Prop) (LL : ι → En) (HH : ι → List HE) (hh : ι → PH) (μ : ι → Nat) (i0 : ι) (h0 : I i0) (hL : Sub L (LL i0)) (hH : ∀ w, Inv C H h w → Inv C (HH i0) (hh i0) w)
    (round : ∀ i, I i → Hd C N (LL i) (HH i) (hh i) (cw ρ P c (Exit.then (fun a w => ∃ j, I j ∧ μ j < μ i ∧ EnOK a N (LL j) ∧ Inv C (HH j) (hh j) w) Q))) : Hd C N L H h (cw ρ P (Code.loop c) Q) :=
  hd_loop I LL HH hh μ i0 h0 (fun _ w ha hw => ⟨hL.ok ha, hH w hw⟩) round
theorem hd_again {ι : Type} {I : ι → Prop} {LL : ι → En} {HH : ι → List HE} {hh : ι → PH} {μ : ι → Nat} {m : Nat} (j : ι) (hI : I j) (hm : μ j < m) (hL : Sub L (LL j)) (hH : ∀ w, Inv C H h w → Inv C (HH j) (hh j) w) :
    Hd C N L H h (fun a w => ∃ j, I j ∧ μ j < m ∧ EnOK a N (LL j) ∧ Inv C (HH j) (hh j) w) :=
  ⟨fun _ w ha hw => ⟨j, hI, hm, hL.ok ha, hH w hw⟩⟩
theorem hd_condT {c : Operand} {x y : Code} {t : Bool} (hc : Ev L c (.bool t)) (he : t = true) (ht : Hd C N L H h (cw ρ P x Q)) : Hd C N L H h (cw ρ P (Code.cond c x y) Q) := hd_cond hc (fun _ => ht) (fun e => by rw [he] at e; cases e)
theorem hd_condF {c : Operand} {x y : Code} {t : Bool} (hc : Ev L c (.bool t)) (he : t = false) (hf : Hd C N L H h (cw ρ P y Q)) : Hd C N L H h (cw ρ P (Code.cond c x y) Q) := hd_cond hc (fun e => by rw [he] at e; cases e) (fun _ => hf)
theorem hd_split {R : Act → World → Prop} (c : Bool) (ht : c = true → Hd C N L H h R) (hf : c = false → Hd C N L H h R) : Hd C N L H h R := by
  cases c with
  | true => exact ht rfl
  | false => exact hf rfl
theorem od_load_one0 {t : TypeId} {x : Operand} {b off : Nat} {cs : List Value} {v : Value} [TI P t 1 false] (hx : Ev L x (.pointer (some ⟨b, off, none⟩))) (hp : Pub h b off (v :: cs)) :
    OP P C ⟨dst, .load t x, ty, pos, after, gd⟩ L H h v := od_load_onep (k := 0) hx hp rfl rfl
/-- Results, and rows handed out. -/
theorem hd_resR {fn : Func} {n : Nat} {Post : Value → PH → List HE → Prop} {rs : List ResultVar} {vs : List Value} {e : Exit} (he : e = .ret ∨ e = .normal) (hr : fn.results = rs.toArray) (hv : Res P L H rs vs)
    (hp : Post (ofVs vs) h H) : Hd C ⟨n, []⟩ L H h (bodyPost P fn (PostR C Post) e) :=
  hd_res he hr hv fun _ hw => ⟨h, H, hp, hw⟩
theorem od_shlR {t t' : TypeId} {x y : Operand} {k k' : IntKind} {a b : Int} {n : Nat} (hx : Ev L x (.int k a)) (hy : Ev L y (.int k' b)) (hb : b = (n : Int)) (hn : n ≤ k.bits) (hr : inR k (a * 2 ^ n)) :
    OP P C ⟨dst, .binOp .shl t x y t', ty, pos, after, gd⟩ L H h (.int k (a * 2 ^ n)) := by
  have := od_shl (P := P) (C := C) (L := L) (H := H) (h := h) (dst := dst) (ty := ty) (pos := pos) (after := after) (gd := gd) (t := t) (t' := t') hx hy hb hn
  rwa [wrap_inR hr] at this
theorem or_low {a b m : Nat} (hb : b < 2 ^ m) : (a * 2 ^ m) ||| b = a * 2 ^ m + b := by
  rw [Nat.mul_comm]
  exact (Nat.two_pow_add_eq_or_of_lt hb a).symm
theorem od_orlow {t t' : TypeId} {x y : Operand} {k : IntKind} {a b : Int} (m : Nat) (hx : Ev L x (.int k (a * 2 ^ m))) (hy : Ev L y (.int k b)) (h0 : 0 ≤ a) (hb0 : 0 ≤ b) (hb : b < 2 ^ m) (hr : inR k (a * 2 ^ m + b)) :
    OP P C ⟨dst, .binOp .or t x y t', ty, pos, after, gd⟩ L H h (.int k (a * 2 ^ m + b)) := by
  refine od_bin hx hy ?_
  obtain ⟨a', rfl⟩ := Int.eq_ofNat_of_zero_le h0
  obtain ⟨b', rfl⟩ := Int.eq_ofNat_of_zero_le hb0
  have hb' : b' < 2 ^ m := by exact_mod_cast hb
  have e1 : ((a' : Int) * 2 ^ m) = ((a' * 2 ^ m : Nat) : Int) := by push_cast; rfl
  have e2 : ((a' : Int) * 2 ^ m + b') = ((a' * 2 ^ m + b' : Nat) : Int) := by push_cast; rfl
  have hor := or_low (a := a') hb'
  rw [e2] at hr ⊢
  rw [e1]
  generalize a' * 2 ^ m = A at hor hr ⊢
  have key : ∀ w : Nat, A + b' < 2 ^ w → (BitVec.ofInt w (A : Int) ||| BitVec.ofInt w (b' : Int)).toNat = A + b' := by
    intro w hw
    rw [BitVec.toNat_or]
    simp only [BitVec.ofInt_natCast, BitVec.toNat_ofNat]
    rw [Nat.mod_eq_of_lt (by omega), Nat.mod_eq_of_lt (by omega), hor]
  simp only [bi]
  rw [key k.bits (by cases k <;> simp only [inR, IntKind.bits] at hr ⊢ <;> omega), wrap_inR hr]
theorem od_andlow {t t' : TypeId} {x y : Operand} {k : IntKind} {a b : Int} (m : Nat) (hx : Ev L x (.int k a)) (hy : Ev L y (.int k b)) (hb : b = 2 ^ m - 1) (h0 : 0 ≤ a) (hra : inR k a) (hrb : inR k b) :
    OP P C ⟨dst, .binOp .and t x y t', ty, pos, after, gd⟩ L H h (.int k (a % 2 ^ m)) := by
  refine od_bin hx hy ?_
  obtain ⟨a', rfl⟩ := Int.eq_ofNat_of_zero_le h0
  have hpos : (0 : Nat) < 2 ^ m := Nat.pow_pos (by omega)
  have hb' : b = ((2 ^ m - 1 : Nat) : Int) := by rw [hb]; push_cast [Nat.one_le_two_pow]; rfl
  have e2 : ((a' : Int) % 2 ^ m) = ((a' % 2 ^ m : Nat) : Int) := by push_cast; rfl
  subst hb'
  have hle : a' % 2 ^ m ≤ a' := Nat.mod_le _ _
  have hr : inR k ((a' % 2 ^ m : Nat) : Int) := by cases k <;> simp only [inR] at hra ⊢ <;> omega
  rw [e2]
  have hor : a' &&& (2 ^ m - 1) = a' % 2 ^ m := Nat.and_two_pow_sub_one_eq_mod a' m
  generalize 2 ^ m - 1 = M at *
  have key : ∀ w : Nat, a' < 2 ^ w → M < 2 ^ w → (BitVec.ofInt w (a' : Int) &&& BitVec.ofInt w (M : Int)).toNat = a' % 2 ^ m := by
    intro w h1 h2
    rw [BitVec.toNat_and]
    simp only [BitVec.ofInt_natCast, BitVec.toNat_ofNat]
    rw [Nat.mod_eq_of_lt h1, Nat.mod_eq_of_lt h2, hor]
  simp only [bi]
  rw [key k.bits (by cases k <;> simp only [inR, IntKind.bits] at hra ⊢ <;> omega) (by cases k <;> simp only [inR, IntKind.bits] at hrb ⊢ <;> omega), wrap_inR hr]
end
end Go.GV

end
section
/- Bytes of a constant string (marked, and handed out at once), over the small logic of GvA to GvM. -/
namespace Go.GV
open Go

theorem Inv.turn1 {C : Ctx} {H : List HE} {h : PH} {w w' : World} {b : Nat} {o o' : Obj} (hw : Inv C ((fun l => l = [(b, o)]) :: H) h w) (ht : Turned w w' b o') : Inv C ((fun l => l = [(b, o')]) :: H) h w' := by
  obtain ⟨l, ⟨l1, l2, rfl, e, he⟩, hs, hc⟩ := hw
  have e' : l1 = [(b, o)] := e
  subst e'
  have hn := hs.sep b o (by simp)
  have hnd := hs.nodup
  simp only [List.cons_append, List.nil_append, List.map_cons, List.nodup_cons] at hnd
  have hne : ∀ k o2, (k, o2) ∈ l2 → k ≠ b := fun k o2 hm e3 => hnd.1 (List.mem_map.2 ⟨(k, o2), hm, e3⟩)
  have hown := hc.own b o (by simp)
  refine ⟨[(b, o')] ++ l2, ⟨[(b, o')], l2, rfl, rfl, he⟩, ⟨?_, ?_, ?_, ?_⟩, ⟨ht.os.trans hc.os, ht.tape.trans hc.tape, by rw [ht.drawn]; exact hc.drawn, ht.output.trans hc.output, by rw [ht.size]; exact hc.size, ?_, hc.le, hc.fresh, ?_⟩⟩
  · simp only [List.cons_append, List.nil_append, List.map_cons, List.nodup_cons]; exact hnd
  · intro k o2 hm
    rw [List.cons_append, List.nil_append] at hm
    rcases List.mem_cons.1 hm with e3 | hm
    · simp at e3; rw [e3.1, e3.2]; exact ht.at_
    · rw [ht.other k (hne k o2 hm)]; exact hs.mem k o2 (by simp [hm])
  · intro k o2 e3
    have : k ≠ b := by rintro rfl; rw [hn] at e3; cases e3
    rw [ht.other k this]; exact hs.pub k o2 e3
  · intro k o2 hm
    rw [List.cons_append, List.nil_append] at hm
    rcases List.mem_cons.1 hm with e3 | hm
    · simp at e3; rw [e3.1]; exact hn
    · exact hs.sep k o2 (by simp [hm])
  · intro k hk hkb
    have : k ≠ b := by
      rintro rfl
      rcases hown with h1 | h1
      · omega
      · exact hkb h1
    rw [ht.other k this]; exact hc.old k hk hkb
  · intro k o2 hm
    rw [List.cons_append, List.nil_append] at hm
    rcases List.mem_cons.1 hm with e3 | hm
    · simp at e3; rw [e3.1]; exact hown
    · exact hc.own k o2 (by simp [hm])

section
variable {ρ : Option Nat} {P : Program} {C : Ctx} {N : Fr} {L : En} {H H' : List HE} {h : PH} {dst : Option Tmp} {ty : TypeId} {pos : String} {after : Array Edge}
variable {ops : Array Oper} {rest : List Oper} {Q : Exit → Act → World → Prop}
theorem is_vcall {d : Nat} {x : Operand} {xs : Array Operand} {at_ : Array TypeId} (hx : Hd C N L H h (wpList P ops Q (⟨some d, .call ⟨.value x, xs, at_⟩, ty, pos, after, none⟩ :: rest))) : Hd C N L H h (wpList P ops Q (⟨some d, .call ⟨.value x, xs, at_⟩, ty, pos, after, none⟩ :: rest)) := hx
theorem od_pickX {c x y : Operand} {v : Value} {b : Bool} {gd : Option (Nat × Bool)} (hc : Ev L c (.bool b)) (hb : b = true) (hx : Ev L x v) : OP P C ⟨dst, .pick c x y, ty, pos, after, gd⟩ L H h v := by
  subst hb; exact od_pickT hc hx
theorem od_pickY {c x y : Operand} {v : Value} {b : Bool} {gd : Option (Nat × Bool)} (hc : Ev L c (.bool b)) (hb : b = false) (hy : Ev L y v) : OP P C ⟨dst, .pick c x y, ty, pos, after, gd⟩ L H h v := by
  subst hb; exact od_pickF hc hy
/-- Cells that are bytes. -/
inductive C8 : List Value → List Int → Prop
  | nil : C8 [] []
  | cons {b : Int} {xs : List Value} {bs : List Int} (hh : C8 xs bs) : C8 (.int .u8 b :: xs) (b :: bs)
theorem C8.eq {xs : List Value} {bs : List Int} (hh : C8 xs bs) : xs = by8 bs := by
  induction hh with
  | nil => rfl
  | cons _ ih => rw [ih]; rfl
end
end Go.GV

end
section
/- Readable slices are shared slices, over the small logic of GvA to GvN. -/
namespace Go.GV
open Go Go.RowKit Go.ChangeShapes Go.WideShapes

theorem flatten_get {sz : Nat} (hsz : 0 < sz) : ∀ {xs : List (List Value)}, (∀ x ∈ xs, x.length = sz) → ∀ (j : Nat) (v : Value), xs.flatten[j]? = some v → ∃ x, xs[j / sz]? = some x ∧ x[j % sz]? = some v
  | [], _, j, v, hv => by simp at hv
  | y :: ys, he, j, v, hv => by
    have hy := he y (by simp)
    rw [List.flatten_cons] at hv
    by_cases hj : j < sz
    · rw [List.getElem?_append_left (by omega)] at hv
      exact ⟨y, by rw [Nat.div_eq_of_lt hj]; rfl, by rw [Nat.mod_eq_of_lt hj]; exact hv⟩
    · rw [List.getElem?_append_right (by omega), hy] at hv
      obtain ⟨x, h1, h2⟩ := flatten_get hsz (fun z hz => he z (by simp [hz])) (j - sz) v hv
      refine ⟨x, ?_, ?_⟩
      · rw [Nat.div_eq_sub_div hsz (by omega)]; simpa using h1
      · rw [Nat.mod_eq_sub_mod (by omega)]; exact h2

section
variable {X : Type} {enc : TypeId × Value → X} {P : Program} {W : World}
theorem rd_slice {t e : TypeId} {sz : Nat} {g : Bool} [TSl P t e] [TI P e sz g] (hsz : 0 < sz) {cs : List Value} (hh : Rd enc P W t cs) : ∃ p n c xss, cs = [.slice p n c] ∧ Sl (whole W) sz p n c xss ∧ ∀ x ∈ xss, Rd enc P W e x := by
  obtain ⟨fuel, x, hf⟩ := hh
  have hce : P.cellsOf e = sz := by
    have := TI.sz (P := P) (t := e) (size := sz)
    simp [Program.cellsOf, this]
  rcases DataW.trod_slice (TSl.eq (P := P) (t := t)) hf with ⟨rfl, _⟩ | ⟨a, len, cap, elems, rest, m, _, rfl, _, _, hlc, hcm, hel, hall, _⟩
  · exact ⟨none, 0, 0, [], rfl, Sl.nil _ _, by simp⟩
  · rw [hce] at hall
    have hsome : ∀ i, i < len → ∃ y, W.cells? 0 (a.add (i * sz)) sz = some y ∧ Rd enc P W e y := by
      intro i hi
      have h1 := hall i hi
      rw [List.getElem?_eq_getElem (by omega)] at h1
      obtain ⟨y, h2, h3⟩ := Option.bind_eq_some_iff.1 h1
      exact ⟨y, h2, m, _, h3⟩
    let f : Nat → List Value := fun i => (W.cells? 0 (a.add (i * sz)) sz).getD []
    have hfi : ∀ i, i < len → W.cells? 0 (a.add (i * sz)) sz = some (f i) ∧ Rd enc P W e (f i) := by
      intro i hi
      obtain ⟨y, h1, h2⟩ := hsome i hi
      have : f i = y := by simp [f, h1]
      rw [this]; exact ⟨h1, h2⟩
    have hlen : ∀ i, i < len → (f i).length = sz := fun i hi => (World.cells?_some (hfi i hi).1).2.1
    refine ⟨some a, len, cap, (List.range len).map f, rfl, ⟨by simp, hlc, by simp [maxLen] at hcm; omega, ?_, ?_⟩, ?_⟩
    · intro y hy
      obtain ⟨i, hi, rfl⟩ := List.mem_map.1 hy
      exact hlen i (List.mem_range.1 hi)
    · intro hne
      have hpos : 0 < len := by
        rcases Nat.eq_zero_or_pos len with e0 | e0
        · subst e0; simp at hne
        · exact e0
      have hcell : ∀ i, i < len → ∀ r, r < sz → W.cell? ((a.add (i * sz)).add r) = (f i)[r]? := fun i hi r hr => (World.cells?_some (hfi i hi).1).2.2 r hr
      have h00 := hcell 0 hpos 0 hsz
      rw [List.getElem?_eq_getElem (by rw [hlen 0 hpos]; exact hsz)] at h00
      have hadd0 : (a.add (0 * sz)).add 0 = a := by simp [Addr.add]
      rw [hadd0] at h00
      obtain ⟨b, off, sp⟩ := a
      unfold World.cell? at h00
      split at h00
      · rename_i arr tt fr hb
        have hspn : sp = none := by
          cases sp with
          | none => rfl
          | some q => simp at h00
        subst hspn
        refine ⟨b, off, rfl, arr, tt, fr, hb, fun j v hv => ?_⟩
        obtain ⟨y, h1, h2⟩ := flatten_get hsz (by
          intro z hz
          obtain ⟨i, hi, rfl⟩ := List.mem_map.1 hz
          exact hlen i (List.mem_range.1 hi)) j v hv
        rw [List.getElem?_map] at h1
        have hlt : j / sz < len := by
          rcases Nat.lt_or_ge (j / sz) len with h9 | h9
          · exact h9
          · simp [List.getElem?_eq_none (show (List.range len).length ≤ j / sz by simpa using h9)] at h1
        simp [hlt] at h1
        have h3 := hcell (j / sz) hlt (j % sz) (Nat.mod_lt _ hsz)
        rw [h1, h2] at h3
        have : (((⟨b, off, none⟩ : Addr).add (j / sz * sz)).add (j % sz)) = ⟨b, off + j, none⟩ := by
          rw [addr_add, addr_add]
          congr 1
          have := Nat.div_add_mod j sz
          rw [Nat.mul_comm] at this
          omega
        rw [this] at h3
        simpa [World.cell?, hb] using h3
      · cases h00
    · intro y hy
      obtain ⟨i, hi, rfl⟩ := List.mem_map.1 hy
      exact (hfi i (List.mem_range.1 hi)).2
theorem ok_slice {t e : TypeId} [TSl P t e] {r : Reach} {b : Nat} {v : Value} (hv : Value.okWide P W r b t v) : ∃ p n c, v = .slice p n c := okWide_slice (TSl.eq (P := P) (t := t)) hv
end
end Go.GV

end
section
/- Guards that hold nothing, over the small logic of GvA to GvO. -/
namespace Go.GV
open Go
section
variable {ρ : Option Nat} {P : Program} {C : Ctx} {N : Fr} {L : En} {H H' : List HE} {h : PH} {dst : Option Tmp} {ty : TypeId} {pos : String} {after : Array Edge} {gd : Option (Nat × Bool)}
variable {ops : Array Oper} {o : Oper} {rest : List Oper} {Q : Exit → Act → World → Prop}

theorem hd_gundef {d : Tmp} {op : Op} {gu : Nat × Bool} {s : Nat} {want : Bool} (hg : gslot ops (some gu) = some (s, want)) (hs : look L s = some ([], undef)) (hN : Nat.blt d N.n = true)
    (next : Hd C N ((d, [], undef) :: L) H h (wpList P ops Q rest)) : Hd C N L H h (wpList P ops Q (⟨some d, op, ty, pos, after, some gu⟩ :: rest)) := by
  refine ⟨fun a w ha hw => ?_⟩
  have hwa : Region.wanted ⟨some d, op, ty, pos, after, some gu⟩ (yielded ops a.tmps) = false := by
    obtain ⟨j, w'⟩ := gu
    simp only [gslot] at hg
    split at hg
    · rename_i oj hoj
      split at hg
      · rename_i d' hd
        simp only [Option.some.injEq, Prod.mk.injEq] at hg
        obtain ⟨rfl, rfl⟩ := hg
        have hat := ha.at_ _ _ _ hs
        simp only [Region.wanted, yielded, hoj, Option.bind_some, hd, hat]
        simp [G, satB, undef]
      · simp at hg
    · simp at hg
  simp only [wpList]
  rw [if_neg (by rw [hwa]; simp)]
  refine next.all _ _ ?_ hw
  have := ha.put (g := []) (v := undef) (d := d) (by simpa using hN)
  simpa [G, satB] using this
end
end Go.GV

end
section
/- Drawn orders once more: what is known of the world grows with each operation that must come alone; over the small logic of GvA to GvP. -/
namespace Go.GV
open Go
section
variable {ρ : Option Nat} {P : Program} {ops : Array Oper} {R : Act → World → Prop} {B : List Nat}
theorem anyX_mono {S S' : World → Prop} (hS : ∀ w, S' w → S w) : ∀ (f : Nat) (listed : Array Bool) (a : Act) (w : World), anyX P ops R S' B f listed a w → anyX P ops R S B f listed a w
  | 0, _, _, _, hh => hh
  | f + 1, _, _, _, hh => ⟨hh.1, fun i hi => wpOp_mono (fun a' w' h' => ⟨fun hn => hS w' (h'.1 hn), anyX_mono hS f _ a' w' h'.2⟩) (hh.2 i hi)⟩
def wpPm (P : Program) (ops : Array Oper) (R : Act → World → Prop) (B : List Nat) : List (Nat × Bool) → (World → Prop) → Act → World → Prop
  | [], _, a, w => R a w
  | (i, true) :: r, S, a, w => S w ∧ ∃ o v, ops[i]? = some o ∧ YieldsIf P ops S o v a ∧ wpPm P ops R B r S (a.put o.dst v) w
  | (i, false) :: r, S, a, w => wpOp P ops i (fun a' w' => (i ∉ B → S w') ∧ ∃ S', (∀ w, S' w → S w) ∧ wpPm P ops R B r S' a' w') a w
end
section
variable {ρ : Option Nat} {P : Program} {C : Ctx} {N : Fr} {L : En} {H H0 : List HE} {h h0 : PH} {ops : Array Oper} {o : Oper} {Q : Exit → Act → World → Prop} {R : Act → World → Prop} {B : List Nat} {r : List (Nat × Bool)} {S : World → Prop}
theorem SS.less {w : World} (hm : More H0 H) (hl : h0.le h) (hw : SS C H h w) : SS C H0 h0 w := by
  obtain ⟨Hx, rfl⟩ := hm.ex
  obtain ⟨Hy, h', hl', hw⟩ := hw
  exact ⟨Hy ++ Hx, h', PH.le_trans hl hl', by rw [List.append_assoc]; exact hw⟩
end
end Go.GV

end
section
/- Private blocks of which only something is known; over the small logic of GvA to GvQ. -/
namespace Go.GV
open Go
theorem natC (i : Nat) : ((i : Nat) : Int) = (i : Int) := rfl
theorem natLit (n : Nat) : (@OfNat.ofNat Int n (@instOfNat n) : Int) = ((@OfNat.ofNat Nat n (instOfNatNat n) : Nat) : Int) := rfl
/-- A private block of some kind. -/
def hex {α : Type} (φ : α → Prop) (F : α → HE) : HE := fun l => ∃ a, φ a ∧ F a l
section
variable {ρ : Option Nat} {P : Program} {C : Ctx} {N : Fr} {L : En} {H H' : List HE} {h : PH} {R : Act → World → Prop}
theorem hd_inv {H2 : List HE} {h2 : PH} (hi : ∀ w, Inv C H h w → Inv C H2 h2 w) (next : Hd C N L H2 h2 R) : Hd C N L H h R := ⟨fun a w ha hw => next.all a w ha (hi w hw)⟩
theorem hd_sub {L' : En} (hs : Sub L L') (next : Hd C N L' H h R) : Hd C N L H h R := ⟨fun a w ha hw => next.all a w (hs.ok ha) hw⟩
end
end Go.GV

end
section
/- What values stand for: numbers, pairs of parts, slices; over the small logic of GvA to GvR. -/
namespace Go.GV
open Go Go.RowKit Go.ChangeShapes Go.WideShapes

def All2 {α β : Type} (R : α → β → Prop) : List α → List β → Prop
  | [], [] => True
  | a :: as, b :: bs => R a b ∧ All2 R as bs
  | [], _ :: _ => False
  | _ :: _, [] => False
theorem All2.length {α β : Type} {R : α → β → Prop} : ∀ {as : List α} {bs : List β}, All2 R as bs → as.length = bs.length
  | [], [], _ => rfl
  | _ :: _, _ :: _, h => by simp [All2.length h.2]
  | [], _ :: _, h => h.elim
  | _ :: _, [], h => h.elim
theorem All2.get {α β : Type} {R : α → β → Prop} : ∀ {as : List α} {bs : List β}, All2 R as bs → ∀ {i : Nat} {b : β}, bs[i]? = some b → ∃ a, as[i]? = some a ∧ R a b
  | [], [], _, i, b, hb => by simp at hb
  | a :: as, b' :: bs, h, 0, b, hb => by simp at hb; subst hb; exact ⟨a, rfl, h.1⟩
  | a :: as, b' :: bs, h, i + 1, b, hb => All2.get h.2 (i := i) (by simpa using hb)
  | [], _ :: _, h, _, _, _ => h.elim
  | _ :: _, [], h, _, _, _ => h.elim
theorem All2.mono {α β : Type} {R R' : α → β → Prop} (hr : ∀ a b, R a b → R' a b) : ∀ {as : List α} {bs : List β}, All2 R as bs → All2 R' as bs
  | [], [], _ => trivial
  | _ :: _, _ :: _, h => ⟨hr _ _ h.1, h.2.mono hr⟩
  | [], _ :: _, h => h.elim
  | _ :: _, [], h => h.elim
theorem All2.append {α β : Type} {R : α → β → Prop} : ∀ {as cs : List α} {bs ds : List β}, All2 R as bs → All2 R cs ds → All2 R (as ++ cs) (bs ++ ds)
  | [], _, [], _, _, h2 => h2
  | _ :: _, _, _ :: _, _, h, h2 => ⟨h.1, h.2.append h2⟩
  | [], _, _ :: _, _, h, _ => h.elim
  | _ :: _, _, [], _, h, _ => h.elim
theorem All2.snoc {α β : Type} {R : α → β → Prop} {as : List α} {bs : List β} {a : α} {b : β} (h : All2 R as bs) (hab : R a b) : All2 R (as ++ [a]) (bs ++ [b]) := h.append ⟨hab, trivial⟩
theorem All2.take {α β : Type} {R : α → β → Prop} : ∀ {as : List α} {bs : List β} (_ : All2 R as bs) (k : Nat), All2 R (as.take k) (bs.take k)
  | [], [], _, k => by simp [All2]
  | _ :: _, _ :: _, _, 0 => by simp [All2]
  | _ :: _, _ :: _, h, k + 1 => ⟨h.1, h.2.take k⟩
  | [], _ :: _, h, _ => h.elim
  | _ :: _, [], h, _ => h.elim
theorem All2.drop {α β : Type} {R : α → β → Prop} : ∀ {as : List α} {bs : List β} (_ : All2 R as bs) (k : Nat), All2 R (as.drop k) (bs.drop k)
  | [], [], _, k => by simp [All2]
  | _ :: _, _ :: _, h, 0 => h
  | _ :: _, _ :: _, h, k + 1 => h.2.drop k
  | [], _ :: _, h, _ => h.elim
  | _ :: _, [], h, _ => h.elim
theorem All2.set {α β : Type} {R : α → β → Prop} : ∀ {as : List α} {bs : List β} (_ : All2 R as bs) (i : Nat) {a : α} {b : β}, R a b → All2 R (as.set i a) (bs.set i b)
  | [], [], _, _, _, _, _ => trivial
  | _ :: _, _ :: _, h, 0, _, _, hab => ⟨hab, h.2⟩
  | _ :: _, _ :: _, h, i + 1, _, _, hab => ⟨h.1, h.2.set i hab⟩
  | [], _ :: _, h, _, _, _, _ => h.elim
  | _ :: _, [], h, _, _, _, _ => h.elim
theorem All2.of_map {α β : Type} {R : α → β → Prop} {f : β → α} : ∀ {bs : List β}, (∀ b ∈ bs, R (f b) b) → All2 R (bs.map f) bs
  | [], _ => trivial
  | b :: bs, h => ⟨h b (by simp), All2.of_map fun c hc => h c (by simp [hc])⟩
theorem All2.to_map {α β : Type} {R : α → β → Prop} {f : β → α} (hf : ∀ a b, R a b → a = f b) : ∀ {as : List α} {bs : List β}, All2 R as bs → as = bs.map f
  | [], [], _ => rfl
  | _ :: _, _ :: _, h => by rw [List.map_cons, ← hf _ _ h.1, ← All2.to_map hf h.2]
  | [], _ :: _, h => h.elim
  | _ :: _, [], h => h.elim
theorem All2.mem {α β : Type} {R : α → β → Prop} : ∀ {as : List α} {bs : List β}, All2 R as bs → ∀ b ∈ bs, ∃ a, R a b
  | [], [], _, b, hb => by cases hb
  | a :: as, b' :: bs, h, b, hb => by
    rcases List.mem_cons.1 hb with rfl | hb
    · exact ⟨a, h.1⟩
    · exact All2.mem h.2 b hb
  | [], _ :: _, h, _, _ => h.elim
  | _ :: _, [], h, _, _ => h.elim

/-- What a row of cells stands for. -/
structure Rp (α : Type) where
  sz : Nat
  ok : PH → List Value → α → Prop
  len : ∀ {h : PH} {cs : List Value} {a : α}, ok h cs a → cs.length = sz
  mono : ∀ {h h' : PH} {cs : List Value} {a : α}, h.le h' → ok h cs a → ok h' cs a
  one : ∀ {h : PH} {cs : List Value} {a : α}, ok h cs a → cs.all (·.oneCell') = true
def rInt (k : IntKind) : Rp Int where
  sz := 1
  ok _ cs a := cs = [.int k a] ∧ inR k a
  len h := by rw [h.1]; rfl
  mono _ h := h
  one h := by rw [h.1]; rfl
def rBool : Rp Bool where
  sz := 1
  ok _ cs a := cs = [.bool a]
  len h := by rw [h]; rfl
  mono _ h := h
  one h := by rw [h]; rfl
def rPair {α β : Type} (r : Rp α) (s : Rp β) : Rp (α × β) where
  sz := r.sz + s.sz
  ok h cs a := ∃ x y, cs = x ++ y ∧ r.ok h x a.1 ∧ s.ok h y a.2
  len := by rintro h cs a ⟨x, y, rfl, h1, h2⟩; simp [r.len h1, s.len h2]
  mono := by rintro h h' cs a hl ⟨x, y, rfl, h1, h2⟩; exact ⟨x, y, rfl, r.mono hl h1, s.mono hl h2⟩
  one := by
    rintro h cs a ⟨x, y, rfl, h1, h2⟩
    rw [List.all_append, r.one h1, s.one h2]; rfl
/-- A slice that nobody writes, and what it stands for. -/
def SlR {α : Type} (r : Rp α) (h : PH) (p : Option Addr) (n c : Nat) (xs : List α) : Prop := ∃ css, Sl h r.sz p n c css ∧ All2 (r.ok h) css xs
section
variable {α : Type} {r : Rp α} {h h' : PH} {p : Option Addr} {n c : Nat} {xs : List α}
theorem SlR.mono (hs : SlR r h p n c xs) (hl : h.le h') : SlR r h' p n c xs := let ⟨css, h1, h2⟩ := hs; ⟨css, h1.mono hl, h2.mono fun _ _ => r.mono hl⟩
theorem SlR.len (hs : SlR r h p n c xs) : xs.length = n := by obtain ⟨css, h1, h2⟩ := hs; rw [← h2.length, h1.len]
theorem SlR.cap (hs : SlR r h p n c xs) : n ≤ c := let ⟨_, h1, _⟩ := hs; h1.cap
theorem SlR.top (hs : SlR r h p n c xs) : n ≤ 9223372036854775807 := let ⟨_, h1, _⟩ := hs; h1.top
theorem SlR.nil (r : Rp α) (h : PH) : SlR r h none 0 0 [] := ⟨[], Sl.nil h _, trivial⟩
theorem SlR.ptr (hs : SlR r h p n c xs) (hn : 0 < n) : p = some ⟨pb p, po p, none⟩ := let ⟨_, h1, _⟩ := hs; h1.ptr hn
theorem SlR.at (hs : SlR r h p n c xs) {i : Nat} {x : α} (hx : xs[i]? = some x) : ∃ cs, Pub h (pb p) (po p + i * r.sz) cs ∧ r.ok h cs x ∧ p = some ⟨pb p, po p, none⟩ := by
  have hl := hs.len
  have hi : i < xs.length := (List.getElem?_eq_some_iff.1 hx).1
  have hp := hs.ptr (by omega)
  obtain ⟨css, h1, h2⟩ := hs
  obtain ⟨cs, hcs, hok⟩ := h2.get hx
  exact ⟨cs, h1.at hcs, hok, hp⟩
theorem SlR.sub (hs : SlR r h p n c xs) {lo hi : Nat} (h1 : lo ≤ hi) (h2 : hi ≤ n) : SlR r h (subp p c lo r.sz) (hi - lo) (c - lo) ((xs.take hi).drop lo) :=
  let ⟨css, k1, k2⟩ := hs; ⟨(css.take hi).drop lo, k1.sub h1 h2, (k2.take hi).drop lo⟩
theorem SlR.dropS (hs : SlR r h p n c xs) {lo : Nat} (h1 : lo ≤ n) : SlR r h (subp p c lo r.sz) (n - lo) (c - lo) (xs.drop lo) := by
  have := hs.sub h1 (Nat.le_refl n)
  rwa [List.take_of_length_le (by rw [hs.len]; omega)] at this
theorem SlR.src {H : List HE} (hs : SlR r h p n c xs) : ∃ css, Src H h p n r.sz css.flatten ∧ All2 (r.ok h) css xs := let ⟨css, h1, h2⟩ := hs; ⟨css, .sl h1, h2⟩
end
def rSl {α : Type} (r : Rp α) : Rp (List α) where
  sz := 1
  ok h cs xs := ∃ p n c, cs = [.slice p n c] ∧ SlR r h p n c xs
  len := by rintro h cs a ⟨p, n, c, rfl, _⟩; rfl
  mono := by rintro h h' cs a hl ⟨p, n, c, rfl, hs⟩; exact ⟨p, n, c, rfl, hs.mono hl⟩
  one := by rintro h cs a ⟨p, n, c, rfl, _⟩; rfl
/-- The same, of another type. -/
def rMap {α β : Type} (r : Rp α) (f : β → α) : Rp β where
  sz := r.sz
  ok h cs b := r.ok h cs (f b)
  len h := r.len h
  mono hl h := r.mono hl h
  one h := r.one h

/-! ### Numbers -/
def vI (k : IntKind) (xs : List Int) : List Value := xs.map (Value.int k)
def elI (k : IntKind) (xs : List Int) : List (List Value) := xs.map fun x => [.int k x]
theorem elI_flat (k : IntKind) (xs : List Int) : (elI k xs).flatten = vI k xs := by
  induction xs with
  | nil => rfl
  | cons x xs ih => simp only [elI, vI, List.map_cons, List.flatten_cons, List.singleton_append] at *; rw [ih]
theorem vI_append (k : IntKind) (a b : List Int) : vI k (a ++ b) = vI k a ++ vI k b := List.map_append
theorem vI_one (k : IntKind) (a : List Int) : (vI k a).all (·.oneCell') = true := by
  simp only [vI, List.all_map, List.all_eq_true]; intro x _; rfl
theorem vI_len (k : IntKind) (a : List Int) : (vI k a).length = a.length := List.length_map _
theorem vI_set {k : IntKind} {xs : List Int} {i : Nat} {y : Int} (h : i < xs.length) : spl (vI k xs) (i * 1) [.int k y] = vI k (xs.set i y) := by
  rw [Nat.mul_one]
  simp only [spl, vI, List.map_set, List.length_singleton]
  rw [List.set_eq_take_append_cons_drop, if_pos (by simpa using h)]
  simp
theorem vI_take (k : IntKind) (xs : List Int) (i : Nat) : (vI k xs).take i = vI k (xs.take i) := by simp [vI, List.map_take]
theorem slI_iff {k : IntKind} {h : PH} {p : Option Addr} {n c : Nat} {xs : List Int} : SlR (rInt k) h p n c xs ↔ Sl h 1 p n c (elI k xs) ∧ ∀ x ∈ xs, inR k x := by
  constructor
  · rintro ⟨css, h1, h2⟩
    have e : css = elI k xs := h2.to_map (f := fun x => [Value.int k x]) (fun a b (hh : a = [Value.int k b] ∧ GV.inR k b) => hh.1)
    refine ⟨by rw [← e]; exact h1, fun x hx => ?_⟩
    obtain ⟨_, ha⟩ := h2.mem x hx
    exact ha.2
  · rintro ⟨h1, h2⟩
    exact ⟨elI k xs, h1, All2.of_map fun b hb => ⟨rfl, h2 b hb⟩⟩
theorem SlR.inR {k : IntKind} {h : PH} {p : Option Addr} {n c : Nat} {xs : List Int} (hs : SlR (rInt k) h p n c xs) : ∀ x ∈ xs, inR k x := (slI_iff.1 hs).2
theorem SlR.srcI {k : IntKind} {H : List HE} {h : PH} {p : Option Addr} {n c : Nat} {xs : List Int} (hs : SlR (rInt k) h p n c xs) : Src H h p n 1 (vI k xs) := by rw [← elI_flat]; exact .sl (slI_iff.1 hs).1
theorem SlR.atI {k : IntKind} {h : PH} {p : Option Addr} {n c : Nat} {xs : List Int} (hs : SlR (rInt k) h p n c xs) {i : Nat} {y : Int} (hy : xs[i]? = some y) : Pub h (pb p) (po p + i * 1) [.int k y] ∧ GV.inR k y ∧ p = some ⟨pb p, po p, none⟩ := by
  obtain ⟨cs, h1, ⟨rfl, h2⟩, h3⟩ := hs.at hy
  exact ⟨h1, h2, h3⟩

/-! ### Rows of the call's own are handed out -/
section
variable {ρ : Option Nat} {P : Program} {C : Ctx} {N : Fr} {L : En} {H H' : List HE} {h : PH} {R : Act → World → Prop} {α : Type} {r : Rp α}
theorem Inv.pubR {w : World} {p : Option Addr} {n c : Nat} {e : TypeId} {css : List (List Value)} {xs : List α} (hw : Inv C (row p n c e r.sz css.flatten :: H) h w) (hok : All2 (r.ok h) css xs) (hlen : xs.length = n) (htop : n ≤ 9223372036854775807) : ∃ h', h.le h' ∧ SlR r h' p n c xs ∧ Inv C H h' w := by
  obtain ⟨h', h1, h2, h3⟩ := hw.publish (by rw [hok.length, hlen]) (fun x hx => by
    obtain ⟨i, hi, rfl⟩ := List.getElem_of_mem hx
    obtain ⟨b, hb⟩ : ∃ b, xs[i]? = some b := ⟨_, List.getElem?_eq_getElem (by rw [← hok.length]; exact hi)⟩
    obtain ⟨a, ha, hr⟩ := hok.get hb
    rw [List.getElem?_eq_getElem hi] at ha
    simp at ha
    rw [ha]; exact r.len hr) htop
  exact ⟨h', h1, ⟨css, h2, hok.mono fun _ _ => r.mono h1⟩, h3⟩
theorem hd_pubR {p : Option Addr} {n c : Nat} {e : TypeId} {ys : List Value} (css : List (List Value)) (xs : List α) (hpk : Pick H (row p n c e r.sz ys) H') (hys : ys = css.flatten) (hok : All2 (r.ok h) css xs) (hlen : xs.length = n) (htop : n ≤ 9223372036854775807)
    (next : ∀ h', h.le h' → SlR r h' p n c xs → Hd C N L H' h' R) : Hd C N L H h R :=
  ⟨fun a w ha hw => by
    have hw' := hw.pick hpk
    rw [hys] at hw'
    obtain ⟨h', h1, h2, h3⟩ := hw'.pubR hok hlen htop
    exact (next h' h1 h2).all a w ha h3⟩
theorem hd_pubI {k : IntKind} {p : Option Addr} {n c : Nat} {e : TypeId} {ys : List Value} (xs : List Int) (hpk : Pick H (row p n c e 1 ys) H') (hys : ys = vI k xs) (hr : ∀ x ∈ xs, inR k x) (hlen : xs.length = n) (htop : n ≤ 9223372036854775807)
    (next : ∀ h', h.le h' → SlR (rInt k) h' p n c xs → Hd C N L H' h' R) : Hd C N L H h R :=
  hd_pubR (r := rInt k) (elI k xs) xs hpk (by rw [elI_flat]; exact hys) (All2.of_map fun b hb => ⟨rfl, hr b hb⟩) hlen htop next
end

/-! ### Readable values -/
section
variable {X : Type} {enc : TypeId × Value → X} {P : Program} {W : World}
def RdOK {α : Type} (enc : TypeId × Value → X) (P : Program) (W : World) (r : Rp α) (t : TypeId) : Prop := ∀ cs, Rd enc P W t cs → ∃ a, r.ok (whole W) cs a
theorem rdok_int {t : TypeId} {k : IntKind} [TInt P t k] : RdOK enc P W (rInt k) t := fun _ hh => let ⟨n, e, hr⟩ := rd_int hh; ⟨n, e, hr⟩
theorem all2_ex {α β : Type} {R : α → β → Prop} : ∀ (as : List α), (∀ a ∈ as, ∃ b, R a b) → ∃ bs, All2 R as bs
  | [], _ => ⟨[], trivial⟩
  | a :: as, h => by
    obtain ⟨b, hb⟩ := h a (by simp)
    obtain ⟨bs, hbs⟩ := all2_ex as fun x hx => h x (by simp [hx])
    exact ⟨b :: bs, hb, hbs⟩
theorem rdok_slice {α : Type} {r : Rp α} {t e : TypeId} {sz : Nat} {g : Bool} [TSl P t e] [TI P e sz g] (hsz : 0 < sz) (he : r.sz = sz) (hr : RdOK enc P W r e) : RdOK enc P W (rSl r) t := fun cs hh => by
  obtain ⟨p, n, c, xss, rfl, hs, hx⟩ := rd_slice hsz hh
  obtain ⟨bs, hbs⟩ := all2_ex xss fun x hx' => hr x (hx x hx')
  exact ⟨bs, p, n, c, rfl, xss, by rw [he]; exact hs, hbs⟩
def seg (cs : List Value) (o n : Nat) : List Value := (cs.drop o).take n
theorem seg_pair {α β : Type} {r : Rp α} {s : Rp β} {h : PH} {cs : List Value} {o n1 n2 : Nat} {a : α} {b : β} (ha : r.ok h (seg cs o n1) a) (hb : s.ok h (seg cs (o + n1) n2) b) : (rPair r s).ok h (seg cs o (n1 + n2)) (a, b) :=
  ⟨_, _, by simp only [seg]; rw [List.take_add, List.drop_drop], ha, hb⟩
theorem seg_all {cs : List Value} {n : Nat} (h : cs.length = n) : seg cs 0 n = cs := by simp [seg, ← h]
theorem rdok_seg {α : Type} {r : Rp α} {s : TypeId} {f off n : Nat} {ft : TypeId} {g : Bool} [TFd P s f off ft] [TI P ft n g] (hr : RdOK enc P W r ft) {cs : List Value} (hh : Rd enc P W s cs) : ∃ a, r.ok (whole W) (seg cs off n) a := hr _ (rd_field (f := f) hh)
end
end Go.GV

end
section
/- Drawn orders, with threads: rows of operations that go on side by side, each with memory of its own; over the small logic of GvA to GvS. -/
namespace Go.GV
open Go

/-! ### One operation writes one slot -/
section
variable {ρ : Option Nat} {P : Program} {ops : Array Oper}
/-- Slots that operation i does not write. -/
def Away (ops : Array Oper) (i s : Nat) : Prop := ∀ o, ops[i]? = some o → o.dst ≠ some s
theorem put_away {a : Act} {d : Option Tmp} {v : Value} {s : Nat} (h : d ≠ some s) : (a.put d v).tmps[s]? = a.tmps[s]? := by
  cases d with
  | none => rfl
  | some d =>
    simp only [Act.put]
    rw [Array.getElem?_setIfInBounds_ne (fun e => h (by rw [e]))]
theorem wpOp_slots {i : Nat} {K : Act → World → Prop} {a : Act} {w : World} (hh : wpOp P ops i K a w) :
    wpOp P ops i (fun a' w' => K a' w' ∧ ∀ s, Away ops i s → a'.tmps[s]? = a.tmps[s]?) a w := by
  unfold wpOp at *
  split
  · rename_i e; simp only [e] at hh; exact ⟨hh, fun _ _ => rfl⟩
  · rename_i o e
    simp only [e] at hh
    have aw : ∀ v s, Away ops i s → (a.put o.dst v).tmps[s]? = a.tmps[s]? := fun v s hs => put_away (hs o e)
    split
    · rename_i hw
      rw [if_pos hw] at hh
      unfold opw at *
      generalize (execOp a.eval o).run P w = r at *
      cases r with
      | ok nx w' =>
        cases nx <;> simp only [up] at hh ⊢
        case value u => exact ⟨hh, aw _⟩
        case skip => exact ⟨hh, aw _⟩
        case enter f args => exact Calls.mono hh fun e w'' ⟨v, he, hk⟩ => ⟨v, he, hk, aw _⟩
        case round l f tmps assign body => exact RoundIn.mono hh fun e w'' ⟨v, he, hk⟩ => ⟨v, he, hk, aw _⟩
      | halt x w' => exact hh
    · rename_i hw
      rw [if_neg hw] at hh
      exact ⟨hh, aw _⟩
end

/-! ### Private blocks in any order -/
theorem Ents.perm {H H' : List HE} (hp : H.Perm H') : ∀ {l : List Blk}, Ents H l → ∃ l', Ents H' l' ∧ l.Perm l' := by
  induction hp with
  | nil => intro l h; exact ⟨l, h, .refl _⟩
  | cons x _ ih =>
    rintro l ⟨l1, l2, rfl, hx, h2⟩
    obtain ⟨l', h', hp'⟩ := ih h2
    exact ⟨l1 ++ l', ⟨l1, l', rfl, hx, h'⟩, hp'.append_left l1⟩
  | swap x y H =>
    rintro l ⟨l1, l2, rfl, hx, l3, l4, rfl, hy, h4⟩
    refine ⟨l3 ++ (l1 ++ l4), ⟨l3, l1 ++ l4, rfl, hy, l1, l4, rfl, hx, h4⟩, ?_⟩
    rw [← List.append_assoc, ← List.append_assoc]
    exact List.Perm.append_right _ List.perm_append_comm
  | trans _ _ ih1 ih2 =>
    intro l h
    obtain ⟨l1, h1, p1⟩ := ih1 h
    obtain ⟨l2, h2, p2⟩ := ih2 h1
    exact ⟨l2, h2, p1.trans p2⟩
theorem Inv.perm {C : Ctx} {H H' : List HE} {h : PH} {w : World} (hp : H.Perm H') (hw : Inv C H h w) : Inv C H' h w := by
  obtain ⟨l, he, hs, hc⟩ := hw
  obtain ⟨l', he', hpl⟩ := he.perm hp
  exact ⟨l', he', hs.perm hpl, hc.perm hpl⟩

/-! ### Threads -/
/-- A thread's operations, one by one, whatever else there is, and is done, in memory that is not its own. -/
def TS (P : Program) (C : Ctx) (N : Fr) (ops : Array Oper) (L0 : En) (D : List Nat) (Post : En → List HE → PH → Prop) : List Nat → En → List HE → PH → Prop
  | [], L, H, h => Post L H h
  | i :: r, L, H, h => ∀ HF h1, h.le h1 → Hd C N (L ++ L0) (H ++ HF) h1 (wpOp P ops i fun a w => ∃ L' H' h2, h1.le h2 ∧ EnOK a N (L' ++ L0) ∧ (L'.all fun e => D.contains e.1) = true ∧ Inv C (H' ++ HF) h2 w ∧ TS P C N ops L0 D Post r L' H' h2)
structure St where
  T : List Nat
  D : List Nat
  L : En
  H : List HE
  h : PH
  Post : En → List HE → PH → Prop
/-- All orders of the threads' operations; 'S' holds behind each that is not of 'B'. -/
def interS (P : Program) (ops : Array Oper) (S : World → Prop) (B : List Nat) (K : Act → World → Prop) : Nat → List (List Nat) → Act → World → Prop
  | 0, _, a, w => K a w
  | f + 1, ts, a, w => ∀ k i r, ts[k]? = some (i :: r) → wpOp P ops i (fun a' w' => (i ∉ B → S w') ∧ interS P ops S B K f (ts.set k r) a' w') a w
def total (ts : List (List Nat)) : Nat := (ts.map List.length).sum
theorem total_set {ts : List (List Nat)} {k i : Nat} {r : List Nat} (h : ts[k]? = some (i :: r)) : total ts = total (ts.set k r) + 1 := by
  induction ts generalizing k with
  | nil => simp at h
  | cons t ts ih =>
    cases k with
    | zero => simp at h; subst h; simp [total]; omega
    | succ k => simp at h; have := ih h; simp [total] at *; omega
def GoodSt (P : Program) (C : Ctx) (N : Fr) (ops : Array Oper) (L0 : En) (a : Act) (h : PH) (s : St) : Prop :=
  TS P C N ops L0 s.D s.Post s.T s.L s.H s.h ∧ EnOK a N (s.L ++ L0) ∧ (s.L.all fun e => s.D.contains e.1) = true ∧ s.h.le h
def apartB (ops : Array Oper) (L0 : En) (D : List Nat) (i : Nat) : Bool :=
  match ops[i]? with
  | some o => match o.dst with
    | some d => !(D.contains d) && (look L0 d).isNone
    | none => true
  | none => true
theorem look_app {A B : En} {s : Nat} : look (A ++ B) s = match look A s with | some x => some x | none => look B s := by
  induction A with
  | nil => rfl
  | cons e A ih =>
    obtain ⟨k, g⟩ := e
    rw [List.cons_append, look_put, look_put]
    split
    · rfl
    · exact ih
theorem look_dom {A : En} {D : List Nat} (h : (A.all fun e => D.contains e.1) = true) {s : Nat} {x : List (Bool × Bool) × Value} (hl : look A s = some x) : D.contains s = true := by
  induction A with
  | nil => simp [look] at hl
  | cons e A ih =>
    obtain ⟨k, g⟩ := e
    rw [look_put] at hl
    simp only [List.all_cons, Bool.and_eq_true] at h
    split at hl
    · rename_i e; subst e; exact h.1
    · exact ih h.2 hl
theorem away_of {ops : Array Oper} {L0 L : En} {D : List Nat} {i s : Nat} (hA : apartB ops L0 D i = true) (hL : (L.all fun e => D.contains e.1) = true) {x : List (Bool × Bool) × Value} (hl : look (L ++ L0) s = some x) : Away ops i s := by
  intro o ho hd
  simp only [apartB, ho, hd, Bool.and_eq_true, Bool.not_eq_true'] at hA
  rw [look_app] at hl
  cases e : look L s with
  | some y => rw [look_dom hL e] at hA; cases hA.1
  | none =>
    rw [e] at hl
    simp only at hl
    rw [hl] at hA
    simp at hA
theorem EnOK.away {a a' : Act} {N : Fr} {ops : Array Oper} {L0 L : En} {D : List Nat} {i : Nat} (ha : EnOK a N (L ++ L0)) (hs : a'.tmps.size = N.n) (hd : a'.defers = N.ds) (hA : apartB ops L0 D i = true) (hL : (L.all fun e => D.contains e.1) = true)
    (hsl : ∀ s, Away ops i s → a'.tmps[s]? = a.tmps[s]?) : EnOK a' N (L ++ L0) :=
  ⟨hs, hd, fun s g v hl => by rw [hsl s (away_of hA hL hl)]; exact ha.at_ s g v hl⟩
section
variable {ρ : Option Nat} {P : Program} {C : Ctx} {N : Fr} {L0 : En} {H0 : List HE} {h0 : PH} {ops : Array Oper} {B : List Nat} {K : Act → World → Prop}
theorem le_sum_mem {l : List Nat} {n : Nat} (h : n ∈ l) : n ≤ l.sum := by
  induction l with
  | nil => cases h
  | cons x l ih =>
    rcases List.mem_cons.1 h with rfl | h
    · simp
    · have := ih h; simp; omega
theorem flatMap_at {l : List St} {k : Nat} {x : St} (h : l[k]? = some x) : (l.flatMap (·.H)).Perm (x.H ++ (l.eraseIdx k).flatMap (·.H)) := by
  induction l generalizing k with
  | nil => simp at h
  | cons y l ih =>
    cases k with
    | zero => simp at h; subst h; simp
    | succ k =>
      simp only [List.getElem?_cons_succ] at h
      simp only [List.flatMap_cons, List.eraseIdx_cons_succ]
      refine (List.Perm.append_left y.H (ih h)).trans ?_
      rw [← List.append_assoc, ← List.append_assoc]
      exact List.Perm.append_right _ List.perm_append_comm
theorem eraseIdx_set {α : Type} (l : List α) (k : Nat) (x : α) : (l.set k x).eraseIdx k = l.eraseIdx k := by
  induction l generalizing k with
  | nil => rfl
  | cons y l ih =>
    cases k with
    | zero => rfl
    | succ k => simp [ih]
def Apart (ops : Array Oper) (L0 : En) (sts : List St) : Prop := ∀ (k k' : Nat) (s s' : St), sts[k]? = some s → sts[k']? = some s' → k ≠ k' → ∀ i ∈ s.T, apartB ops L0 s'.D i = true
theorem inter_sound (ps : List (En → List HE → PH → Prop))
    (hk : ∀ (sts : List St) (a : Act) (w : World) (h : PH), sts.map (·.Post) = ps → (∀ (k : Nat) (s : St), sts[k]? = some s → s.Post s.L s.H s.h ∧ EnOK a N (s.L ++ L0) ∧ s.h.le h) → h0.le h → Inv C (sts.flatMap (·.H) ++ H0) h w → K a w) :
    ∀ (f : Nat) (sts : List St) (a : Act) (w : World) (h : PH), sts.map (·.Post) = ps → total (sts.map (·.T)) = f → (∀ (k : Nat) (s : St), sts[k]? = some s → GoodSt P C N ops L0 a h s) → Apart ops L0 sts → h0.le h → Inv C (sts.flatMap (·.H) ++ H0) h w → interS P ops (SS C H0 h0) B K f (sts.map (·.T)) a w
  | 0, sts, a, w, h, hps, hf, hg, hap, hl, hw => by
    refine hk sts a w h hps (fun k s hs => ?_) hl hw
    obtain ⟨h1, h2, h3, h4⟩ := hg k s hs
    have : s.T = [] := by
      have hm : s ∈ sts := List.mem_of_getElem? hs
      have h0 : ∀ n ∈ (sts.map (·.T)).map List.length, n = 0 := by
        intro n hn
        have := le_sum_mem hn
        simp only [total] at hf
        omega
      have := h0 s.T.length (by simp only [List.map_map, List.mem_map]; exact ⟨s, hm, rfl⟩)
      exact List.length_eq_zero_iff.1 this
    rw [this] at h1
    exact ⟨h1, h2, h4⟩
  | f + 1, sts, a, w, h, hps, hf, hg, hap, hl, hw => by
    intro k i r hki
    rw [List.getElem?_map] at hki
    cases hs : sts[k]? with
    | none => rw [hs] at hki; simp at hki
    | some s =>
      rw [hs] at hki
      simp at hki
      obtain ⟨h1, h2, h3, h4⟩ := hg k s hs
      rw [hki] at h1
      have hw1 : Inv C (s.H ++ ((sts.eraseIdx k).flatMap (·.H) ++ H0)) h w := by
        rw [← List.append_assoc]
        exact hw.perm (List.Perm.append_right _ (flatMap_at hs))
      have hop := (h1 _ h h4).all a w h2 hw1
      refine wpOp_mono ?_ (wpOp_slots hop)
      rintro a' w' ⟨⟨L', H', h2', hle, hen, hdom, hinv, hts⟩, hsl⟩
      have hk' : k < sts.length := (List.getElem?_eq_some_iff.1 hs).1
      refine ⟨fun _ => ⟨H' ++ (sts.eraseIdx k).flatMap (·.H), h2', PH.le_trans hl hle, by rw [List.append_assoc]; exact hinv⟩, ?_⟩
      have hT : (sts.map (·.T)).set k r = (sts.set k { s with T := r, L := L', H := H', h := h2' }).map (·.T) := by rw [List.map_set]
      rw [hT]
      refine inter_sound ps hk f _ a' w' h2' ?_ ?_ ?_ ?_ (PH.le_trans hl hle) ?_
      · rw [List.map_set, ← hps]
        apply List.ext_getElem?
        intro j
        rw [List.getElem?_set]
        split
        · rename_i hj
          subst hj
          have hsk : sts[k] = s := (List.getElem?_eq_some_iff.1 hs).2
          simp [hk', hsk]
        · rfl
      · have := total_set (ts := sts.map (·.T)) (k := k) (i := i) (r := r) (by rw [List.getElem?_map, hs]; simp [hki])
        rw [hT] at this
        omega
      · intro j t ht
        rw [List.getElem?_set] at ht
        split at ht
        · rename_i hj
          subst hj
          simp at ht
          subst ht
          exact ⟨hts, hen, hdom, PH.le_refl _⟩
        · rename_i hj
          obtain ⟨g1, g2, g3, g4⟩ := hg j t ht
          exact ⟨g1, g2.away hen.size hen.defers (hap k j s t hs ht hj i (by rw [hki]; simp)) g3 hsl, g3, PH.le_trans g4 hle⟩
      · intro j j' t t' ht ht' hne i' hi'
        rw [List.getElem?_set] at ht ht'
        have e1 : ∃ t0, sts[j]? = some t0 ∧ (∀ x ∈ t.T, x ∈ t0.T) := by
          split at ht
          · rename_i hj
            subst hj
            simp at ht; subst ht
            exact ⟨s, hs, fun x hx => by rw [hki]; simp [hx]⟩
          · exact ⟨t, ht, fun x hx => hx⟩
        have e2 : ∃ t0, sts[j']? = some t0 ∧ t'.D = t0.D := by
          split at ht'
          · rename_i hj
            subst hj
            simp at ht'; subst ht'
            exact ⟨s, hs, rfl⟩
          · exact ⟨t', ht', rfl⟩
        obtain ⟨t0, q1, q2⟩ := e1
        obtain ⟨t1, q3, q4⟩ := e2
        rw [q4]
        exact hap j j' t0 t1 q1 q3 hne i' (q2 i' hi')
      · have hset : (sts.set k { s with T := r, L := L', H := H', h := h2' })[k]? = some { s with T := r, L := L', H := H', h := h2' } := by rw [List.getElem?_set]; simp [hk']
        refine hinv.perm ?_
        rw [← List.append_assoc]
        refine List.Perm.append_right _ ?_
        have := (flatMap_at hset).symm
        rwa [eraseIdx_set] at this
end

/-! ### Plans with threads -/
inductive PI where
  | one (i : Nat) (b : Bool)
  | par (ts : List (List Nat))
def parOK (ops : Array Oper) (B : List Nat) (next : Array Bool → Bool) : Nat → List (List Nat) → Array Bool → Bool
  | 0, _, listed => next listed
  | f + 1, ts, listed => ((List.range ts.length).any fun k =>
    match ts[k]? with
    | some (i :: r) => B.contains i && easy ops i && (Region.ready .any ops listed).contains i && Region.free .any ops listed i && parOK ops B next f (ts.set k r) (listed.setIfInBounds i true)
    | _ => false) ||
    (!(Region.ready .any ops listed).isEmpty && (Region.ready .any ops listed).all fun j => (List.range ts.length).any fun k =>
    match ts[k]? with
    | some (i :: r) => Nat.beq i j && parOK ops B next f (ts.set k r) (listed.setIfInBounds j true)
    | _ => false)
def planOKn (ops : Array Oper) (B : List Nat) : List PI → Array Bool → Bool
  | [], listed => (Region.ready .any ops listed).isEmpty
  | .one i true :: r, listed => (Region.ready .any ops listed).contains i && Region.free .any ops listed i && B.all (fun j => waitsT ops 6 j i && !Nat.beq i j) && planOKn ops B r (listed.setIfInBounds i true)
  | .one i false :: r, listed => decide (Region.ready .any ops listed = [i]) && planOKn ops B r (listed.setIfInBounds i true)
  | .par ts :: r, listed => parOK ops B (planOKn ops B r) (total ts) ts listed
def sizeN : List PI → Nat
  | [] => 0
  | .one _ _ :: r => sizeN r + 1
  | .par ts :: r => sizeN r + total ts
def wpPn (P : Program) (ops : Array Oper) (R : Act → World → Prop) (B : List Nat) : List PI → (World → Prop) → Act → World → Prop
  | [], _, a, w => R a w
  | .one i true :: r, S, a, w => S w ∧ ∃ o v, ops[i]? = some o ∧ YieldsIf P ops S o v a ∧ wpPn P ops R B r S (a.put o.dst v) w
  | .one i false :: r, S, a, w => wpOp P ops i (fun a' w' => (i ∉ B → S w') ∧ ∃ S', (∀ w, S' w → S w) ∧ wpPn P ops R B r S' a' w') a w
  | .par ts :: r, S, a, w => interS P ops S B (fun a w => ∃ S', (∀ w, S' w → S w) ∧ wpPn P ops R B r S' a w) (total ts) ts a w
section
variable {ρ : Option Nat} {P : Program} {ops : Array Oper} {R : Act → World → Prop} {B : List Nat}
theorem par_sound {S : World → Prop} {K : Act → World → Prop} {next : Array Bool → Bool} {m : Nat} (hs : Region.noSelect ops = true) (hnext : ∀ listed a w, shut ops listed → next listed = true → K a w → anyX P ops R S B m listed a w) :
    ∀ (f : Nat) (ts : List (List Nat)) (listed : Array Bool) (a : Act) (w : World), shut ops listed → parOK ops B next f ts listed = true → interS P ops S B K f ts a w → anyX P ops R S B (m + f) listed a w
  | 0, ts, listed, a, w, hc, hp, hh => hnext listed a w hc hp hh
  | f + 1, ts, listed, a, w, hc, hp, hh => by
    simp only [parOK, Bool.or_eq_true] at hp
    rcases hp with hp | hp
    · obtain ⟨k, _, hk⟩ := List.any_eq_true.1 hp
      split at hk
      · rename_i i r hts
        simp only [Bool.and_eq_true] at hk
        obtain ⟨⟨⟨⟨h1, h2⟩, h3⟩, h4⟩, h5⟩ := hk
        have hr1 : i ∈ Region.ready .any ops listed := by simpa using h3
        obtain ⟨o, v, ho, hy, hk2⟩ := easy_op h2 (hh k i r hts)
        exact anyX_easy ho (by simpa using h1) hs _ _ _ _ hc (Region.free_spec ho h4) hr1 hy (par_sound hs hnext f _ _ _ w (hc.set hr1) h5 hk2.2)
      · cases hk
    · simp only [Bool.and_eq_true, Bool.not_eq_true', List.all_eq_true, List.any_eq_true] at hp
      refine ⟨fun e => (by rw [e] at hp; simp at hp), fun j hj => ?_⟩
      obtain ⟨k, _, hk⟩ := hp.2 j hj
      split at hk
      · rename_i i r hts
        simp only [Bool.and_eq_true] at hk
        have hij : i = j := Nat.eq_of_beq_eq_true hk.1
        subst hij
        exact wpOp_mono (fun a' w' h' => ⟨h'.1, par_sound hs hnext f _ _ a' w' (hc.set hj) hk.2 h'.2⟩) (hh k i r hts)
      · cases hk
theorem planN_sound (hs : Region.noSelect ops = true) : ∀ (pl : List PI) (S : World → Prop) (listed : Array Bool) (a : Act) (w : World), shut ops listed → planOKn ops B pl listed = true → wpPn P ops R B pl S a w → anyX P ops R S B (sizeN pl) listed a w
  | [], S, listed, a, w, _, hp, hh => ⟨by simpa [planOKn] using hp, hh⟩
  | .one i true :: r, S, listed, a, w, hc, hp, ⟨hS, o, v, ho, hy, hh⟩ => by
    simp only [planOKn, Bool.and_eq_true] at hp
    obtain ⟨⟨⟨h1, h2⟩, h3⟩, h4⟩ := hp
    have hB : ∀ j ∈ B, waitsT ops 6 j i = true ∧ i ≠ j := fun j hj => by
      have := List.all_eq_true.1 h3 j hj
      simp only [Bool.and_eq_true, Bool.not_eq_true'] at this
      exact ⟨this.1, Nat.ne_of_beq_eq_false this.2⟩
    have hr1 : i ∈ Region.ready .any ops listed := by simpa using h1
    exact anyX_first ho (fun j hj => (hB j hj).1) (fun hm => (hB i hm).2 rfl) hs _ _ _ _ hc (Region.free_spec ho h2) hr1 hy hS (planN_sound hs r _ _ _ _ (hc.set hr1) h4 hh)
  | .one i false :: r, S, listed, a, w, hc, hp, hh => by
    simp only [planOKn, Bool.and_eq_true, decide_eq_true_eq] at hp
    refine ⟨fun e => (by rw [hp.1] at e; cases e), fun j hj => ?_⟩
    rw [hp.1] at hj
    have : j = i := by simpa using hj
    subst this
    refine wpOp_mono (fun a' w' hk => ⟨hk.1, ?_⟩) hh
    obtain ⟨S', hS', hk2⟩ := hk.2
    exact anyX_mono hS' _ _ _ _ (planN_sound hs r _ _ _ _ (hc.set (by rw [hp.1]; simp)) hp.2 hk2)
  | .par ts :: r, S, listed, a, w, hc, hp, hh => by
    refine par_sound (next := planOKn ops B r) hs (fun listed a w hc hn ⟨S', hS', hk⟩ => ?_) _ _ _ _ _ hc hp hh
    exact anyX_mono hS' _ _ _ _ (planN_sound hs r _ _ _ _ hc hn hk)
theorem wp_planN {S : World → Prop} {id : Nat} {l : List Oper} {Q : Exit → Act → World → Prop} {a : Act} {w : World} {pl : List PI} (hm : P.follows .mixedOrders = true) (hs : Region.noSelect l.toArray = true) (hp : planOKn l.toArray B pl (Array.replicate l.length false) = true)
    (hn : Nat.beq (sizeN pl) l.length = true) (hh : wpPn P l.toArray (Q .normal) B pl S a { w with drawn := w.drawn + 1 }) : cw ρ P (Code.region id l.toArray true) Q a w := by
  refine cw_mono (Q := Qn (Q .normal)) (wpIn_region_any hm ?_) (fun e a w ⟨e1, e2⟩ => by subst e1; exact e2)
  have := any_of_X (ρ := ρ) _ _ _ _ (planN_sound (P := P) (R := Q .normal) hs pl S (Array.replicate l.length false) a _ (fun j i _ hl => by rw [getD_repl] at hl; cases hl) hp hh)
  rw [Nat.eq_of_beq_eq_true hn] at this
  simpa using this
end

/-! ### In the logic -/
section
variable {ρ : Option Nat} {P : Program} {C : Ctx} {N : Fr} {L L0 L' : En} {H H0 HF H' : List HE} {h h0 h1 : PH} {ops : Array Oper} {o : Oper} {Q : Exit → Act → World → Prop} {R : Act → World → Prop} {B : List Nat} {r : List PI} {S : World → Prop} {D : List Nat} {Post : En → List HE → PH → Prop} {T : List Nat}
theorem hd_planN {id : Nat} {l : List Oper} (B : List Nat) (pl : List PI) (hm : P.follows .mixedOrders = true) (hs : Region.noSelect l.toArray = true) (hp : planOKn l.toArray B pl (Array.replicate l.length false) = true)
    (hn : Nat.beq (sizeN pl) l.length = true) (hx : Hd C N L H h (wpPn P l.toArray (Q .normal) B pl (SS C H h))) : Hd C N L H h (cw ρ P (Code.region id l.toArray true) Q) :=
  ⟨fun a _ ha hw => wp_planN hm hs hp hn (hx.all a _ ha hw.drawn)⟩
theorem hd_pn_nil (hx : Hd C N L H h R) : Hd C N L H h (wpPn P ops R B [] S) := ⟨fun a w ha hw => hx.all a w ha hw⟩
theorem hd_pn_op {i : Nat} (ho : ops[i]? = some o) (hx : Hd C N L H h (wpList P ops (Qn fun a' w' => (i ∉ B → S w') ∧ ∃ S', (∀ w, S' w → S w) ∧ wpPn P ops R B r S' a' w') [o])) : Hd C N L H h (wpPn P ops R B (.one i false :: r) S) := by
  refine ⟨fun a w ha hw => ?_⟩
  have := hx.all a w ha hw
  simp only [wpPn, wpOp, ho]
  simp only [wpList] at this
  split
  · rename_i hwa
    rw [if_pos hwa] at this
    exact opw_mono (fun a' w' hk => hk.2) this
  · rename_i hwa
    rw [if_neg hwa] at this
    exact this.2
theorem hd_pn_bar {i : Nat} (hm : i ∈ B) (hx : Hd C N L H h (wpPn P ops R B r S)) : Hd C N L H h (wpList P ops (Qn fun a' w' => (i ∉ B → S w') ∧ ∃ S', (∀ w, S' w → S w) ∧ wpPn P ops R B r S' a' w') []) :=
  ⟨fun a w ha hw => ⟨rfl, fun hn => absurd hm hn, S, fun _ hw => hw, hx.all a w ha hw⟩⟩
/-- What stands ahead of a known rest. -/
inductive Pre {α : Type} (X : List α) : List α → List α → Prop
  | nil : Pre X X []
  | cons {e : α} {Y Z : List α} (hh : Pre X Y Z) : Pre X (e :: Y) (e :: Z)
theorem Pre.eq {α : Type} {X Y Z : List α} (hh : Pre X Y Z) : Y = Z ++ X := by
  induction hh with
  | nil => rfl
  | cons _ ih => rw [ih]; rfl
theorem ts_done (hp : Post L H h) : TS P C N ops L0 D Post [] L H h := hp
theorem ts_step {i : Nat} (ho : ops[i]? = some o) (hx : ∀ HF h1, h.le h1 → Hd C N (L ++ L0) (H ++ HF) h1 (wpList P ops (Qn fun a w => ∃ L' H' h2, h1.le h2 ∧ EnOK a N (L' ++ L0) ∧ (L'.all fun e => D.contains e.1) = true ∧ Inv C (H' ++ HF) h2 w ∧ TS P C N ops L0 D Post T L' H' h2) [o])) :
    TS P C N ops L0 D Post (i :: T) L H h := by
  intro HF h1 hle
  refine ⟨fun a w ha hw => ?_⟩
  have := (hx HF h1 hle).all a w ha hw
  simp only [wpOp, ho]
  simp only [wpList] at this
  split
  · rename_i hwa
    rw [if_pos hwa] at this
    exact opw_mono (fun a' w' hk => hk.2) this
  · rename_i hwa
    rw [if_neg hwa] at this
    exact this.2
theorem ts_on {Lc : En} {Hc : List HE} (hL : Pre L0 Lc L') (hH : Pre HF Hc H') (hl : h1.le h) (hD : (L'.all fun e => D.contains e.1) = true) (next : TS P C N ops L0 D Post T L' H' h) :
    Hd C N Lc Hc h (wpList P ops (Qn fun a w => ∃ L' H' h2, h1.le h2 ∧ EnOK a N (L' ++ L0) ∧ (L'.all fun e => D.contains e.1) = true ∧ Inv C (H' ++ HF) h2 w ∧ TS P C N ops L0 D Post T L' H' h2) []) :=
  ⟨fun a w ha hw => ⟨rfl, L', H', h, hl, by rw [← hL.eq]; exact ha, hD, by rw [← hH.eq]; exact hw, next⟩⟩
theorem EnOK.join {a : Act} {A B' X : En} (hA : EnOK a N (A ++ X)) (hB : EnOK a N (B' ++ X)) : EnOK a N (A ++ (B' ++ X)) :=
  ⟨hA.size, hA.defers, fun s g v hl => by
    rw [look_app] at hl
    cases e : look A s with
    | some x =>
      rw [e] at hl
      simp only [Option.some.injEq] at hl
      subst hl
      exact hA.at_ s g v (by rw [look_app, e])
    | none =>
      rw [e] at hl
      exact hB.at_ s g v hl⟩
def apartTs (ops : Array Oper) (L0 : En) (T D : List Nat) : Bool := T.all fun i => apartB ops L0 D i
end
end Go.GV

end
section
/- Results with some of the private blocks; over the small logic of GvA to GvT. -/
namespace Go.GV
open Go
section
variable {ρ : Option Nat} {P : Program} {C : Ctx} {N : Fr} {L : En} {H : List HE} {h : PH}
theorem Inv.right {A B : List HE} {w : World} (hw : Inv C (A ++ B) h w) : Inv C B h w := by
  induction A with
  | nil => exact hw
  | cons e A ih => exact ih hw.drop1
theorem Inv.left {A B : List HE} {w : World} (hw : Inv C (A ++ B) h w) : Inv C A h w := (hw.perm List.perm_append_comm).right
theorem hd_resS {fn : Func} {n : Nat} {Post : Value → PH → List HE → Prop} {rs : List ResultVar} {vs : List Value} {e : Exit} {Hi Hf : List HE} (he : e = .ret ∨ e = .normal) (hr : fn.results = rs.toArray) (hv : Res P L H rs vs) (hs : Split H Hi Hf)
    (hp : Post (ofVs vs) h Hi) : Hd C ⟨n, []⟩ L H h (bodyPost P fn (PostR C Post) e) :=
  hd_res he hr hv fun _ hw => ⟨h, Hi, hp, (Inv.split hs hw).left⟩
/-- Keep some of the private blocks. -/
theorem hd_only {R : Act → World → Prop} {Hi Hf : List HE} (hs : Split H Hi Hf) (next : Hd C N L Hi h R) : Hd C N L H h R := ⟨fun a w ha hw => next.all a w ha (Inv.split hs hw).left⟩
theorem inv_only {Hi Hf : List HE} (hs : Split H Hi Hf) {w : World} (hw : Inv C H h w) : Inv C Hi h w := (Inv.split hs hw).left
end
end Go.GV

end
section
/- Guards in plans; literal rows; over the small logic of GvA to GvU. -/
namespace Go.GV
open Go
section
variable {ρ : Option Nat} {P : Program} {C : Ctx} {N : Fr} {L : En} {H H' : List HE} {h : PH} {ops : Array Oper} {o : Oper} {R : Act → World → Prop} {B : List Nat} {r : List PI}
inductive CI (k : IntKind) : List Value → List Int → Prop
  | nil : CI k [] []
  | cons {b : Int} {xs : List Value} {bs : List Int} (hh : CI k xs bs) : CI k (.int k b :: xs) (b :: bs)
theorem CI.eq {k : IntKind} {xs : List Value} {bs : List Int} (hh : CI k xs bs) : xs = vI k bs := by
  induction hh with
  | nil => rfl
  | cons _ ih => rw [ih]; rfl
theorem hd_pubL {k : IntKind} {p : Option Addr} {n c : Nat} {e : TypeId} {ys : List Value} {xs : List Int} (hpk : Pick H (row p n c e 1 ys) H') (hc : CI k ys xs) (hr : ∀ x ∈ xs, inR k x) (hlen : xs.length = n) (htop : n ≤ 9223372036854775807)
    (next : ∀ h', h.le h' → SlR (rInt k) h' p n c xs → Hd C N L H' h' R) : Hd C N L H h R := hd_pubI xs hpk hc.eq hr hlen htop next
end
end Go.GV

end
section
/- Plans once more: what was private ahead of the region stays what is asked of the world; over the small logic of GvA to GvV. -/
namespace Go.GV
open Go
section
variable {ρ : Option Nat} {P : Program} {C : Ctx} {N : Fr} {L L0 L' : En} {H H0 HF H' : List HE} {h h0 h1 : PH} {ops : Array Oper} {o : Oper} {Q : Exit → Act → World → Prop} {R : Act → World → Prop} {B : List Nat} {r : List PI} {S : World → Prop} {D : List Nat} {Post : En → List HE → PH → Prop} {T : List Nat}
theorem hd_pn_run {i d : Nat} {g : List (Bool × Bool)} {v : Value} (ho : ops[i]? = some o) (hmo : More H0 H) (hok : OKp P C ops o L H0 h g v) (hd : o.dst = some d) (hN : Nat.blt d N.n = true)
    (next : Hd C N ((d, g, v) :: L) H h (wpPn P ops R B r (SS C H0 h))) : Hd C N L H h (wpPn P ops R B (.one i true :: r) (SS C H0 h)) := by
  refine ⟨fun a w ha hw => ?_⟩
  have hN' : d < N.n := by simpa using hN
  have hev : ∀ x ∈ o.op.operands, ∀ u, Ev L x u → a.eval x = u := fun x _ u hu => hu.eval ha
  refine ⟨SS.more hmo (PH.le_refl _) hw, o, G g v, ho, ?_, ?_⟩
  · cases hok with
    | plain hg hv => exact .inl ⟨by simp [Region.wanted, hg], fun w' hw' => by rw [hv.run a.eval w' hev hw']; simp [G, satB]⟩
    | guarded hg hs hv =>
      rename_i s want g0 c
      by_cases hsat : Sat ((c, want) :: g0)
      · exact .inl ⟨by rw [wanted_of ha hg hs]; exact (sat_iff _).1 hsat, fun w' hw' => by rw [(hv hsat).run a.eval w' hev hw', G_sat hsat]⟩
      · refine .inr ⟨?_, G_not hsat⟩
        rw [wanted_of ha hg hs]
        cases e : satB ((c, want) :: g0) with
        | false => rfl
        | true => exact absurd ((sat_iff _).2 e) hsat
  · refine next.all _ _ ?_ hw
    rw [hd]
    exact ha.put hN'
theorem hd_pn_runG {i d s : Nat} {want c : Bool} {g0 : List (Bool × Bool)} {v : Value} (ho : ops[i]? = some o) (hg : gslot ops o.guard = some (s, want)) (hs : look L s = some (g0, .bool c)) (hsat : Sat ((c, want) :: g0)) (hmo : More H0 H) (hv : OP P C o L H0 h v) (hd : o.dst = some d) (hN : Nat.blt d N.n = true)
    (next : Hd C N ((d, [], v) :: L) H h (wpPn P ops R B r (SS C H0 h))) : Hd C N L H h (wpPn P ops R B (.one i true :: r) (SS C H0 h)) := by
  refine ⟨fun a w ha hw => ?_⟩
  have hN' : d < N.n := by simpa using hN
  have hev : ∀ x ∈ o.op.operands, ∀ u, Ev L x u → a.eval x = u := fun x _ u hu => hu.eval ha
  refine ⟨SS.more hmo (PH.le_refl _) hw, o, v, ho, .inl ⟨by rw [wanted_of ha hg hs]; exact (sat_iff _).1 hsat, fun w' hw' => by rw [hv.run a.eval w' hev hw']⟩, ?_⟩
  refine next.all _ _ ?_ hw
  rw [hd]
  have := ha.put (g := []) (v := v) hN'
  simpa [G, satB] using this
theorem hd_pn_offG {i d s : Nat} {want c : Bool} {g0 : List (Bool × Bool)} (ho : ops[i]? = some o) (hg : gslot ops o.guard = some (s, want)) (hs : look L s = some (g0, .bool c)) (hsat : ¬ Sat ((c, want) :: g0)) (hmo : More H0 H) (hd : o.dst = some d) (hN : Nat.blt d N.n = true)
    (next : Hd C N ((d, [], undef) :: L) H h (wpPn P ops R B r (SS C H0 h))) : Hd C N L H h (wpPn P ops R B (.one i true :: r) (SS C H0 h)) := by
  refine ⟨fun a w ha hw => ?_⟩
  have hN' : d < N.n := by simpa using hN
  refine ⟨SS.more hmo (PH.le_refl _) hw, o, undef, ho, .inr ⟨?_, rfl⟩, ?_⟩
  · rw [wanted_of ha hg hs]
    cases e : satB ((c, want) :: g0) with
    | false => rfl
    | true => exact absurd ((sat_iff _).2 e) hsat
  · refine next.all _ _ ?_ hw
    rw [hd]
    have := ha.put (g := []) (v := undef) hN'
    simpa [G, satB] using this
theorem hd_pn_undefG {i d s : Nat} {want : Bool} (ho : ops[i]? = some o) (hg : gslot ops o.guard = some (s, want)) (hs : look L s = some ([], undef)) (hmo : More H0 H) (hd : o.dst = some d) (hN : Nat.blt d N.n = true)
    (next : Hd C N ((d, [], undef) :: L) H h (wpPn P ops R B r (SS C H0 h))) : Hd C N L H h (wpPn P ops R B (.one i true :: r) (SS C H0 h)) := by
  refine ⟨fun a w ha hw => ?_⟩
  have hN' : d < N.n := by simpa using hN
  refine ⟨SS.more hmo (PH.le_refl _) hw, o, undef, ho, .inr ⟨?_, rfl⟩, ?_⟩
  · cases hgu : o.guard with
    | none => rw [hgu] at hg; simp [gslot] at hg
    | some gu =>
      rw [hgu] at hg
      obtain ⟨j, w'⟩ := gu
      simp only [gslot] at hg
      split at hg
      · rename_i oj hoj
        split at hg
        · rename_i d' hd'
          simp only [Option.some.injEq, Prod.mk.injEq] at hg
          obtain ⟨rfl, rfl⟩ := hg
          have hat := ha.at_ _ _ _ hs
          simp only [Region.wanted, hgu, yielded, hoj, Option.bind_some, hd', hat]
          simp [G, satB, undef]
        · simp at hg
      · simp at hg
  · refine next.all _ _ ?_ hw
    rw [hd]
    have := ha.put (g := []) (v := undef) hN'
    simpa [G, satB] using this
theorem hd_pn_go {i : Nat} (hmo : More H0 H) (hl : h0.le h) (hx : Hd C N L H h (wpPn P ops R B r (SS C H0 h))) : Hd C N L H h (wpList P ops (Qn fun a' w' => (i ∉ B → SS C H0 h0 w') ∧ ∃ S', (∀ w, S' w → SS C H0 h0 w) ∧ wpPn P ops R B r S' a' w') []) :=
  ⟨fun a w ha hw => ⟨rfl, fun _ => SS.more hmo hl hw, SS C H0 h, fun _ hw => hw.less .same hl, hx.all a w ha hw⟩⟩
/-- 2 threads. -/
theorem hd_par2m {T1 T2 D1 D2 : List Nat} (Post1 Post2 : En → List HE → PH → Prop) (ha12 : apartTs ops L0 T1 D2 = true) (ha21 : apartTs ops L0 T2 D1 = true) (t1 : TS P C N ops L0 D1 Post1 T1 [] [] h) (t2 : TS P C N ops L0 D2 Post2 T2 [] [] h)
    (next : ∀ L1 H1 h1 L2 H2 h2 h', Post1 L1 H1 h1 → Post2 L2 H2 h2 → h1.le h' → h2.le h' → h.le h' → Hd C N (L1 ++ (L2 ++ L0)) (H1 ++ (H2 ++ H0)) h' (wpPn P ops R B r (SS C H0 h'))) :
    Hd C N L0 H0 h (wpPn P ops R B (.par [T1, T2] :: r) (SS C H0 h)) := by
  refine ⟨fun a w ha hw => ?_⟩
  refine inter_sound (P := P) (ops := ops) (B := B) (N := N) (L0 := L0) (H0 := H0) (h0 := h) [Post1, Post2] ?_ _ [⟨T1, D1, [], [], h, Post1⟩, ⟨T2, D2, [], [], h, Post2⟩] a w h rfl rfl ?_ ?_ (PH.le_refl _) ?_
  · intro sts a' w' h' hps hg hl hw'
    match sts, hps with
    | [s1, s2], hps =>
      simp only [List.map_cons, List.map_nil, List.cons.injEq, and_true] at hps
      obtain ⟨e1, e2⟩ := hps
      obtain ⟨p1, q1, r1⟩ := hg 0 s1 rfl
      rw [e1] at p1
      obtain ⟨p2, q2, r2⟩ := hg 1 s2 rfl
      rw [e2] at p2
      have hinv : Inv C (s1.H ++ (s2.H ++ H0)) h' w' := by simpa [List.append_assoc] using hw'
      have hen : EnOK a' N (s1.L ++ (s2.L ++ L0)) := by
        have z2 : EnOK a' N (s2.L ++ L0) := q2
        have z1 : EnOK a' N ((s1.L ++ s2.L) ++ L0) := by rw [List.append_assoc]; exact q1.join z2
        simpa [List.append_assoc] using z1
      refine ⟨SS C H0 h', fun _ hw2 => hw2.less .same hl, ?_⟩
      exact (next _ _ _ _ _ _ h' p1 p2 r1 r2 hl).all a' w' hen hinv
  · intro k s hs
    match k, hs with
    | 0, hs => simp at hs; subst hs; exact ⟨t1, ha, rfl, PH.le_refl _⟩
    | 1, hs => simp at hs; subst hs; exact ⟨t2, ha, rfl, PH.le_refl _⟩
  · intro k k' s s' hs hs' hne i hi
    match k, k', hs, hs' with
    | 0, 0, _, _ => exact absurd rfl hne
    | 0, 1, hs, hs' => simp at hs hs'; subst hs hs'; exact List.all_eq_true.1 ha12 i hi
    | 1, 0, hs, hs' => simp at hs hs'; subst hs hs'; exact List.all_eq_true.1 ha21 i hi
    | 1, 1, _, _ => exact absurd rfl hne
  · simpa using hw
end
end Go.GV

end
section
/- Plans are checked on numbers: sets of operations and of slots as bits; over the small logic of GvA to GvW. -/
namespace Go.GV
open Go

abbrev Row3 := Nat × Nat × Nat
def maskL (l : List Nat) : Nat := l.foldl (fun m k => m ||| (1 <<< k)) 0
theorem mask_fold (l : List Nat) (m k : Nat) : (l.foldl (fun m k => m ||| (1 <<< k)) m).testBit k = (m.testBit k || l.contains k) := by
  induction l generalizing m with
  | nil => simp
  | cons x l ih =>
    rw [List.foldl_cons, ih, Nat.testBit_or]
    have : (1 <<< x).testBit k = (k == x) := by
      rw [Nat.one_shiftLeft, Nat.testBit_two_pow]
      by_cases h : x = k
      · subst h; simp
      · simp [h, Ne.symm h]
    rw [this, List.contains_cons, Bool.or_assoc]
theorem mask_bit (l : List Nat) (k : Nat) : (maskL l).testBit k = l.contains k := by rw [maskL, mask_fold]; simp
def aftL (o : Oper) : List Nat := (o.after.toList.filter (Region.binds .any)).map (·.on)
def dstN (o : Oper) : Nat := match o.dst with | some d => d + 1 | none => 0
def rowOf (ops : Array Oper) (o : Oper) : Row3 := (maskL (aftL o), dstN o, maskL (o.looksAt ops))
def tableOf (l : List Oper) : List Row3 := l.map (rowOf l.toArray)
def readyR (m : Nat) (i : Nat) (r : Row3) : Bool := !m.testBit i && (r.1 &&& m == r.1)
def readyT (T : List Row3) (m : Nat) : List Nat := (List.range T.length).filter fun i => match T[i]? with | some r => readyR m i r | none => false
def apartR (x y : Row3) : Bool := (x.2.1 == 0 || (!(y.2.2.testBit (x.2.1 - 1)) && y.2.1 != x.2.1)) && (y.2.1 == 0 || !(x.2.2.testBit (y.2.1 - 1)))
def freeT (T : List Row3) (m i : Nat) : Bool :=
  match T[i]? with
  | none => false
  | some x => (List.range T.length).all fun j => j == i || m.testBit j || match T[j]? with
    | some y => y.1.testBit i || apartR x y
    | none => true
def waitsN (T : List Row3) (j i : Nat) : Bool := match T[j]? with | some r => r.1.testBit i | none => false
def waitsTT (T : List Row3) : Nat → Nat → Nat → Bool
  | 0, j, i => waitsN T j i
  | f + 1, j, i => waitsN T j i || (List.range T.length).any fun k => waitsN T j k && waitsTT T f k i
def parT (T : List Row3) (B U : List Nat) (next : Nat → Bool) : Nat → List (List Nat) → Nat → Bool
  | 0, _, m => next m
  | f + 1, ts, m => ((List.range ts.length).any fun k =>
    match ts[k]? with
    | some (i :: r) => B.contains i && U.contains i && (readyT T m).contains i && freeT T m i && parT T B U next f (ts.set k r) (m ||| (1 <<< i))
    | _ => false) ||
    (!(readyT T m).isEmpty && (readyT T m).all fun j => (List.range ts.length).any fun k =>
    match ts[k]? with
    | some (i :: r) => Nat.beq i j && parT T B U next f (ts.set k r) (m ||| (1 <<< j))
    | _ => false)
def planT (T : List Row3) (B U : List Nat) : List PI → Nat → Bool
  | [], m => (readyT T m).isEmpty
  | .one i true :: r, m => (readyT T m).contains i && freeT T m i && B.all (fun j => waitsTT T 6 j i && !Nat.beq i j) && planT T B U r (m ||| (1 <<< i))
  | .one i false :: r, m => decide (readyT T m = [i]) && planT T B U r (m ||| (1 <<< i))
  | .par ts :: r, m => parT T B U (planT T B U r) (total ts) ts m

/-- The same set, by bits and by an array. -/
structure Same (n : Nat) (listed : Array Bool) (m : Nat) : Prop where
  size : listed.size = n
  bit : ∀ j, listed.getD j false = m.testBit j
theorem Same.getD_true {n : Nat} {listed : Array Bool} {m : Nat} (h : Same n listed m) {j : Nat} (hj : j < n) : listed.getD j true = m.testBit j := by
  rw [← h.bit j]
  have : j < listed.size := by rw [h.size]; exact hj
  simp [Array.getD, this]
theorem Same.zero (n : Nat) : Same n (Array.replicate n false) 0 := ⟨by simp, fun j => by rw [getD_repl]; simp⟩
theorem Same.set {n : Nat} {listed : Array Bool} {m : Nat} (h : Same n listed m) {i : Nat} (hi : i < n) : Same n (listed.setIfInBounds i true) (m ||| (1 <<< i)) := by
  refine ⟨by simp [h.size], fun j => ?_⟩
  rw [Nat.testBit_or, ← h.bit j, Nat.one_shiftLeft, Nat.testBit_two_pow]
  by_cases hij : i = j
  · subst hij
    have : i < listed.size := by rw [h.size]; exact hi
    simp [Array.getD, this]
  · rw [getD_set_ne false hij]
    simp [hij]
section
variable {l : List Oper} {listed : Array Bool} {m : Nat}
theorem aft_contains (o : Oper) (i : Nat) : (aftL o).contains i = o.after.any (fun e => Region.binds .any e && e.on == i) := by
  rw [Bool.eq_iff_iff]
  simp only [aftL, List.contains_iff_mem, List.mem_map, List.mem_filter, Array.any_eq_true', Bool.and_eq_true, beq_iff_eq, Array.mem_toList_iff]
  exact ⟨fun ⟨e, ⟨h1, h2⟩, h3⟩ => ⟨e, h1, h2, h3⟩, fun ⟨e, h1, h2, h3⟩ => ⟨e, ⟨h1, h2⟩, h3⟩⟩
theorem and_sub (a m : Nat) : (a &&& m == a) = true ↔ ∀ k, a.testBit k = true → m.testBit k = true := by
  rw [beq_iff_eq]
  constructor
  · intro h k hk
    have := congrArg (fun x => x.testBit k) h
    simp only [Nat.testBit_and, hk, Bool.true_and] at this
    exact this
  · intro h
    apply Nat.eq_of_testBit_eq
    intro k
    rw [Nat.testBit_and]
    cases e : a.testBit k with
    | false => rfl
    | true => rw [h k e]; rfl
theorem ready_eq (hs : Same l.length listed m) : Region.ready .any l.toArray listed = readyT (tableOf l) m := by
  unfold Region.ready readyT
  have hlen : (tableOf l).length = l.toArray.size := by simp [tableOf]
  rw [hlen]
  apply List.filter_congr
  intro i hi
  have hi' : i < l.length := by simpa using hi
  rw [hs.getD_true hi']
  have e1 : l.toArray[i]? = some l[i] := by simp [hi']
  have e2 : (tableOf l)[i]? = some (rowOf l.toArray l[i]) := by simp [tableOf, hi']
  rw [e1, e2]
  simp only [Option.map_some, Option.getD_some, readyR, rowOf]
  congr 1
  rw [Bool.eq_iff_iff, and_sub]
  simp only [Array.all_eq_true', Bool.or_eq_true, Bool.not_eq_true', mask_bit]
  constructor
  · intro h k hk
    rw [aft_contains, Array.any_eq_true'] at hk
    obtain ⟨e, he, hb⟩ := hk
    simp only [Bool.and_eq_true, beq_iff_eq] at hb
    rcases h e he with h1 | h1
    · rw [hb.1] at h1; cases h1
    · rw [← hs.bit, ← hb.2]; exact h1
  · intro h e he
    cases hb : Region.binds .any e with
    | false => exact .inl rfl
    | true =>
      right
      rw [hs.bit]
      exact h e.on (by rw [aft_contains, Array.any_eq_true']; exact ⟨e, he, by simp [hb]⟩)
theorem apart_eq (ops : Array Oper) (x y : Oper) : x.apart ops y = apartR (rowOf ops x) (rowOf ops y) := by
  unfold Oper.apart apartR rowOf dstN
  simp only [mask_bit]
  cases hx : x.dst <;> cases hy : y.dst <;> simp
  rename_i d e
  have : (some e != some d) = (e != d) := by
    by_cases h : e = d
    · subst h; simp
    · simp [bne]
  rw [this]
theorem free_eq (hs : Same l.length listed m) (i : Nat) : Region.free .any l.toArray listed i = freeT (tableOf l) m i := by
  unfold Region.free freeT
  have hlen : (tableOf l).length = l.toArray.size := by simp [tableOf]
  rcases Nat.lt_or_ge i l.length with hi | hi
  · have e1 : l.toArray[i]? = some l[i] := by simp [hi]
    have e2 : (tableOf l)[i]? = some (rowOf l.toArray l[i]) := by simp [tableOf, hi]
    rw [e1, e2, hlen]
    rw [Bool.eq_iff_iff]
    simp only [List.all_eq_true, List.mem_range]
    refine forall_congr' fun j => forall_congr' fun hj => ?_
    have hj' : j < l.length := by simpa using hj
    have f1 : l.toArray[j]? = some l[j] := by simp [hj']
    have f2 : (tableOf l)[j]? = some (rowOf l.toArray l[j]) := by simp [tableOf, hj']
    rw [f1, f2, hs.getD_true hj']
    simp only
    rw [apart_eq, ← aft_contains, ← mask_bit]
    rfl
  · have e1 : l.toArray[i]? = none := by simp [hi]
    have e2 : (tableOf l)[i]? = none := by simp [tableOf, hi]
    rw [e1, e2]
theorem waits_eq (j i : Nat) : waits l.toArray j i = waitsN (tableOf l) j i := by
  unfold waits waitsN
  rcases Nat.lt_or_ge j l.length with hj | hj
  · have e1 : l.toArray[j]? = some l[j] := by simp [hj]
    have e2 : (tableOf l)[j]? = some (rowOf l.toArray l[j]) := by simp [tableOf, hj]
    rw [e1, e2]
    simp only [rowOf, mask_bit, aft_contains]
    congr 1
    funext e
    congr 1
    rw [Bool.eq_iff_iff]; simp
  · have e1 : l.toArray[j]? = none := by simp [hj]
    have e2 : (tableOf l)[j]? = none := by simp [tableOf, hj]
    rw [e1, e2]
theorem waitsT_eq : ∀ (f j i : Nat), waitsT l.toArray f j i = waitsTT (tableOf l) f j i
  | 0, j, i => waits_eq j i
  | f + 1, j, i => by
    have hlen : (tableOf l).length = l.toArray.size := by simp [tableOf]
    simp only [waitsT, waitsTT, waits_eq, hlen]
    congr 1
    congr 1
    funext k
    rw [waitsT_eq f k i]
theorem ready_lt {i : Nat} (h : i ∈ readyT (tableOf l) m) : i < l.length := by
  have := (List.mem_filter.1 h).1
  simpa [tableOf] using this
theorem par_imp {B U : List Nat} (hU : ∀ i ∈ U, easy l.toArray i = true) {next : Array Bool → Bool} {nextN : Nat → Bool} (hn : ∀ listed m, Same l.length listed m → nextN m = true → next listed = true) : ∀ (f : Nat) (ts : List (List Nat)) (listed : Array Bool) (m : Nat), Same l.length listed m → parT (tableOf l) B U nextN f ts m = true → parOK l.toArray B next f ts listed = true
  | 0, ts, listed, m, hs, h => hn listed m hs h
  | f + 1, ts, listed, m, hs, h => by
    simp only [parOK, parT, Bool.or_eq_true] at *
    rcases h with h | h
    · left
      simp only [List.any_eq_true] at *
      obtain ⟨k, hk, hh⟩ := h
      refine ⟨k, hk, ?_⟩
      split at hh
      · rename_i i r hts
        simp only [Bool.and_eq_true] at hh
        simp only [hts, Bool.and_eq_true, ready_eq hs, free_eq hs]
        obtain ⟨⟨⟨⟨h1, h2⟩, h3⟩, h4⟩, h5⟩ := hh
        exact ⟨⟨⟨⟨h1, hU i (by simpa using h2)⟩, h3⟩, h4⟩, par_imp hU hn f _ _ _ (hs.set (ready_lt (m := m) (by simpa using h3))) h5⟩
      · cases hh
    · right
      simp only [ready_eq hs, Bool.and_eq_true, List.all_eq_true, List.any_eq_true] at *
      refine ⟨h.1, fun j hj => ?_⟩
      obtain ⟨k, hk, hh⟩ := h.2 j hj
      refine ⟨k, hk, ?_⟩
      split at hh
      · rename_i i r hts
        simp only [Bool.and_eq_true] at hh
        simp only [hts, Bool.and_eq_true]
        exact ⟨hh.1, par_imp hU hn f _ _ _ (hs.set (ready_lt hj)) hh.2⟩
      · cases hh
theorem plan_eq (B U : List Nat) (hU : ∀ i ∈ U, easy l.toArray i = true) : ∀ (pl : List PI) (listed : Array Bool) (m : Nat), Same l.length listed m → planT (tableOf l) B U pl m = true → planOKn l.toArray B pl listed = true
  | [], listed, m, hs, h => by simp only [planOKn, planT, ready_eq hs] at *; exact h
  | .one i true :: r, listed, m, hs, h => by
    simp only [planOKn, planT, ready_eq hs, free_eq hs, waitsT_eq, Bool.and_eq_true] at *
    refine ⟨h.1, plan_eq B U hU r _ _ (hs.set (ready_lt (m := m) ?_)) h.2⟩
    simpa using h.1.1.1
  | .one i false :: r, listed, m, hs, h => by
    simp only [planOKn, planT, ready_eq hs, Bool.and_eq_true, decide_eq_true_eq] at *
    refine ⟨h.1, plan_eq B U hU r _ _ (hs.set (ready_lt (m := m) ?_)) h.2⟩
    rw [h.1]; simp
  | .par ts :: r, listed, m, hs, h => by
    simp only [planOKn, planT] at *
    refine par_imp (l := l) hU (fun listed m hs h => plan_eq B U hU r listed m hs h) _ _ _ _ hs h
end
section
variable {ρ : Option Nat} {P : Program} {C : Ctx} {N : Fr} {L : En} {H : List HE} {h : PH} {Q : Exit → Act → World → Prop}
theorem hd_planU {id : Nat} {l : List Oper} (T : List Row3) (B U : List Nat) (pl : List PI) (hm : P.follows .mixedOrders = true) (hs : Region.noSelect l.toArray = true) (hT : tableOf l = T) (hU : (U.all fun i => easy l.toArray i) = true) (hp : planT T B U pl 0 = true)
    (hn : Nat.beq (sizeN pl) l.length = true) (hx : Hd C N L H h (wpPn P l.toArray (Q .normal) B pl (SS C H h))) : Hd C N L H h (cw ρ P (Code.region id l.toArray true) Q) :=
  hd_planN B pl hm hs (plan_eq B U (fun i hi => List.all_eq_true.1 hU i hi) pl _ 0 (Same.zero _) (by rw [hT]; exact hp)) hn hx
theorem hd_planT {id : Nat} {l : List Oper} (T : List Row3) (B : List Nat) (pl : List PI) (hm : P.follows .mixedOrders = true) (hs : Region.noSelect l.toArray = true) (hT : tableOf l = T) (hp : planT T B [] pl 0 = true)
    (hn : Nat.beq (sizeN pl) l.length = true) (hx : Hd C N L H h (wpPn P l.toArray (Q .normal) B pl (SS C H h))) : Hd C N L H h (cw ρ P (Code.region id l.toArray true) Q) :=
  hd_planU T B [] pl hm hs hT rfl hp hn hx
end
end Go.GV

end
section
/- A row of the call's own, lent to an operation that only reads it; over the small logic of GvA to GvX. -/
namespace Go.GV
open Go
section
variable {ρ : Option Nat} {P : Program} {C : Ctx} {N : Fr} {L : En} {H H' : List HE} {h : PH} {o : Oper} {v : Value}
end
end Go.GV

end
section
/- Ways that meet again: a cut between two parts of the code; a walk that stops at a place; over the small logic of GvA to GvY. -/
namespace Go.GV
open Go
/-- A goal at which a walk stops. -/
structure Stop (p : Prop) : Prop where
  go : p
section
variable {ρ : Option Nat} {P : Program} {C : Ctx} {N : Fr} {L : En} {H : List HE} {h : PH} {Q : Exit → Act → World → Prop}
theorem hd_cut {x y : Code} {ι : Type} (I : ι → Prop) (LL : ι → En) (HH : ι → List HE) (hh : ι → PH)
    (hx : Hd C N L H h (cw ρ P x (Exit.then (fun a w => ∃ j, I j ∧ EnOK a N (LL j) ∧ Inv C (HH j) (hh j) w) Q)))
    (hy : ∀ j, I j → Hd C N (LL j) (HH j) (hh j) (cw ρ P y Q)) : Hd C N L H h (cw ρ P (Code.seq x y) Q) :=
  ⟨fun a w ha hw => cw_seq (cw_mono (hx.all a w ha hw) fun e a' w' he => by
    cases e with
    | normal =>
      obtain ⟨j, hI, h1, h2⟩ := he
      exact (hy j hI).all a' w' h1 h2
    | _ => exact he)⟩
theorem hd_leave {ι : Type} {I : ι → Prop} {LL : ι → En} {HH : ι → List HE} {hh : ι → PH} (j : ι) (hI : I j) (hL : Sub L (LL j)) (hH : ∀ w, Inv C H h w → Inv C (HH j) (hh j) w) :
    Hd C N L H h (fun a w => ∃ j, I j ∧ EnOK a N (LL j) ∧ Inv C (HH j) (hh j) w) :=
  ⟨fun _ w ha hw => ⟨j, hI, hL.ok ha, hH w hw⟩⟩
/-- Stops ahead of 'region id; c' and what follows. -/
theorem hd_stop2 {id : Nat} {ops : Array Oper} {dr : Bool} {c y : Code} (hx : Stop (Hd C N L H h (cw ρ P (Code.seq (Code.seq (Code.region id ops dr) c) y) Q))) : Hd C N L H h (cw ρ P (Code.seq (Code.seq (Code.region id ops dr) c) y) Q) := hx.go
/-- Stops ahead of a region that something follows. -/
theorem hd_stop1 {id : Nat} {ops : Array Oper} {dr : Bool} {y : Code} (hx : Stop (Hd C N L H h (cw ρ P (Code.seq (Code.region id ops dr) y) Q))) : Hd C N L H h (cw ρ P (Code.seq (Code.region id ops dr) y) Q) := hx.go
/-- Stops at a region. -/
theorem hd_stop0 {id : Nat} {ops : Array Oper} {dr : Bool} (hx : Stop (Hd C N L H h (cw ρ P (Code.region id ops dr) Q))) : Hd C N L H h (cw ρ P (Code.region id ops dr) Q) := hx.go
end
end Go.GV

end
section
/- Ranges over a function: the iterator's contract, the caller's rule, in the small logic. -/
namespace Go.GV
open Go

/-! ### Blocks of the machine's own -/
def obj (b : Nat) (o : Obj) : HE := fun l => l = [(b, o)]
def dfr (D : Nat) : HE := obj D (.deferred (some []))
def lp (l : Nat) (r : Loop) (s : LoopState) (p : Option Code) : HE := obj l (.loop { r with state := s, pending := p })
theorem put_turned {w : World} {b : Nat} {o o' : Obj} (hb : w.heap[b]? = some o) : Turned w (w.putObj b o') b o' := by
  have hlt := (Array.getElem?_eq_some_iff.1 hb).1
  exact ⟨rfl, rfl, rfl, rfl, by simp [World.putObj], World.putObj_heap_same hlt, fun k hk => World.putObj_heap_other hk⟩
section
variable {C : Ctx} {H : List HE} {h : PH} {w : World}
theorem Inv.objAt {b : Nat} {o : Obj} (hw : Inv C (obj b o :: H) h w) : w.heap[b]? = some o := by
  obtain ⟨l, ⟨l1, l2, rfl, e1, _⟩, hs, _⟩ := hw
  rw [show l1 = _ from e1] at hs
  exact hs.mem b o (by simp)
theorem Inv.putO {b : Nat} {o : Obj} (o' : Obj) (hw : Inv C (obj b o :: H) h w) : Inv C (obj b o' :: H) h (w.putObj b o') := Inv.turn1 hw (put_turned hw.objAt)
theorem Inv.first {x : HE} (hw : Inv C (x :: H) h w) : Inv C (H ++ [x]) h w := Inv.perm (List.perm_append_comm (l₁ := [x])) hw
theorem Inv.allocO (hw : Inv C H h w) (o : Obj) : Inv C (obj w.heap.size o :: H) h (w.alloc o) := by
  obtain ⟨l, he, hs, hc⟩ := hw
  have blt : ∀ b o, (b, o) ∈ l → b < w.heap.size := fun b o hm => (Array.getElem?_eq_some_iff.1 (hs.mem b o hm)).1
  have plt : ∀ b o, h b = some o → b < w.heap.size := fun b o e => (Array.getElem?_eq_some_iff.1 (hs.pub b o e)).1
  have old : ∀ k, k < w.heap.size → (w.alloc o).heap[k]? = w.heap[k]? := fun k hk => RowKit.Below.heap_alloc w _ k hk
  have hnew : (w.alloc o).heap[w.heap.size]? = some o := by
    show (w.heap.push _)[w.heap.size]? = _
    simp
  have hsz : (w.alloc o).heap.size = w.heap.size + 1 := by
    show (w.heap.push _).size = _
    simp
  refine ⟨(w.heap.size, o) :: l, ⟨[_], l, rfl, rfl, he⟩, ⟨?_, ?_, ?_, ?_⟩, ⟨hc.os, hc.tape, hc.drawn, hc.output, by rw [hsz]; have := hc.size; omega, ?_, hc.le, hc.fresh, ?_⟩⟩
  · simp only [List.map_cons, List.nodup_cons]
    refine ⟨fun hm => ?_, hs.nodup⟩
    obtain ⟨⟨b, o⟩, hm, e⟩ := List.mem_map.1 hm
    have := blt b o hm
    simp at e; omega
  · intro b o' hm
    rcases List.mem_cons.1 hm with e | hm
    · simp at e; rw [e.1, e.2]; exact hnew
    · rw [old b (blt b o' hm)]; exact hs.mem b o' hm
  · intro b o' e; rw [old b (plt b o' e)]; exact hs.pub b o' e
  · intro b o' hm
    rcases List.mem_cons.1 hm with e | hm
    · simp at e
      cases e2 : h b with
      | none => rfl
      | some o' => have := plt b o' e2; omega
    · exact hs.sep b o' hm
  · intro k hk hb; rw [old k (by have := hc.size; omega)]; exact hc.old k hk hb
  · intro b o' hm
    rcases List.mem_cons.1 hm with e | hm
    · simp at e; left; rw [e.1]; exact hc.size
    · exact hc.own b o' hm
end

/-! ### The call of yield -/
def YieldsB (P : Program) (l : Nat) (args : Array Value) (h : PH) (Hi : List HE) (Post : Value → PH → List HE → Prop) : Prop :=
  ∀ w bl, Ents Hi bl → Sep w h bl → YieldAt Fence.wide 0 P l args w (PostR ⟨w, h, bl.map (·.1)⟩ Post)
section
variable {ρ : Option Nat} {P : Program} {C : Ctx} {N : Fr} {L : En} {H : List HE} {h : PH} {dst : Option Tmp} {ty : TypeId} {pos : String} {after : Array Edge} {gd : Option (Nat × Bool)}
variable {ops : Array Oper} {o : Oper} {rest : List Oper} {Q : Exit → Act → World → Prop}
/-! ### The iterator's contract: it calls yield with values as 'V' says, 'm' times, unless it is told to stop. -/
def IterOf (P : Program) (gf : FuncId) (lb : List Value) (h : PH) (V : Nat → List Value → PH → Prop) (m : Nat) : Prop :=
  ∀ (l : Nat) (St : Nat → PH → List HE → Prop) (JX : PH → List HE → Prop) (H0 : List HE), St 0 h H0 →
    (∀ k hk Hk vs, k < m → h.le hk → St k hk Hk → V k vs hk → YieldsB P l vs.toArray hk Hk (fun v h' Ho => (v = .bool true ∧ St (k + 1) h' Ho) ∨ (v = .bool false ∧ JX h' Ho))) →
    SpecM P gf (.func (.yield l) #[] #[] :: lb).toArray h H0 (fun _ h' Ho => St m h' Ho ∨ JX h' Ho)

/-! ### The caller's rule -/
/-- The slots of a round: the loop's parameters over the others. -/
def enPs : List Nat → List Value → En → En
  | p :: ps, v :: vs, L => enPs ps vs ((p, [], v) :: L)
  | _, _, L => L
/-- A round begins. -/
def rnd (P : Program) (l : Nat) (body : Code) (Qb : Exit → Act → World → Prop) : Act → World → Prop := fun a w => ∃ w2, (Instr.beginRound l).run P w = .ok () w2 ∧ cw (some l) P body Qb a w2
/-- How a round may end. -/
def rPost (C : Ctx) (St : Nat → PH → List HE → Prop) (JX : Code → PH → List HE → Prop) (k l : Nat) (r : Loop) : Exit → Act → World → Prop
  | .normal, _, w => ∃ h' Ho, Inv C (Ho ++ [lp l r .busy none]) h' w ∧ St (k + 1) h' Ho
  | .ret, _, w => ∃ h' Ho, Inv C (Ho ++ [lp l r .busy none]) h' w ∧ JX .ret h' Ho
  | .exit id, _, w => ∃ h' Ho, Inv C (Ho ++ [lp l r .busy none]) h' w ∧ JX (.exit id) h' Ho
  | _, _, _ => False
theorem hd_begin {l : Nat} {r : Loop} {H' : List HE} {body : Code} {Qb : Exit → Act → World → Prop} (hpk : Pick H (lp l r .ready none) H') (next : Hd C N L (lp l r .busy none :: H') h (cw (some l) P body Qb)) : Hd C N L H h (rnd P l body Qb) := by
  refine ⟨fun a w ha hw => ?_⟩
  have hp := hw.pick hpk
  exact ⟨_, run_beginRound (r := { r with state := .ready, pending := none }) hp.objAt rfl, next.all _ _ ha (hp.putO _)⟩
/-- A return behind such a loop: its mark is taken away. -/
theorem hd_undefer {n : Nat} {ds : List Deferred} {D : Nat} {H' : List HE} {fn : Func} {R : Ending → World → Prop} {e : Exit} (he : e = .ret ∨ e = .normal) (hpk : Pick H (dfr D) H') (next : Hd C ⟨n, ds⟩ L H' h (bodyPost P fn R e)) : Hd C ⟨n, ⟨.collected D, #[]⟩ :: ds⟩ L H h (bodyPost P fn R e) := by
  refine ⟨fun a w ha hw => ?_⟩
  have hp := hw.pick hpk
  have := next.all { a with defers := ds } (w.putObj D (.deferred none)) ⟨ha.size, rfl, ha.at_⟩ (hp.putO (.deferred none)).drop1
  have e1 : a.defers = ⟨.collected D, #[]⟩ :: ds := ha.defers
  rcases he with rfl | rfl <;> (show LeavesInM Fence.wide 0 P fn a.tmps R a.defers .returning w) <;> rw [e1] <;> exact ⟨by simp, .inl ⟨D, _, rfl, run_takeDeferred hp.objAt, this⟩⟩
end
end Go.GV

end
section
/- What threads leave behind, by kinds that a walk fills in itself; over the small logic of GvA to GvAA. -/
namespace Go.GV
open Go
/-- Known values, nothing of its own. -/
def postD (L1 : En) : En → List HE → PH → Prop := fun L H _ => L = L1 ∧ H = []
/-- One new block. -/
def postA (L1 : Nat → En) (H1 : Nat → List HE) : En → List HE → PH → Prop := fun L H _ => ∃ b, L = L1 b ∧ H = H1 b
/-- Two new blocks. -/
def postB (L1 : Nat → Nat → En) (H1 : Nat → Nat → List HE) : En → List HE → PH → Prop := fun L H _ => ∃ b c, L = L1 b c ∧ H = H1 b c
/-- A shared slice, and what is known of it. -/
def postS (L1 : Option Addr → Nat → Nat → En) (Φ : PH → Option Addr → Nat → Nat → Prop) : En → List HE → PH → Prop := fun L H h => ∃ p n c, L = L1 p n c ∧ H = [] ∧ Φ h p n c
/-- A row of its own. -/
def postR (L1 : Option Addr → Nat → En) (H1 : Option Addr → Nat → List HE) : En → List HE → PH → Prop := fun L H _ => ∃ p c, L = L1 p c ∧ H = H1 p c
section
variable {P : Program} {C : Ctx} {N : Fr} {ops : Array Oper} {L0 L : En} {D : List Nat} {H : List HE} {h : PH}
theorem ts_doneA {b : Nat} {cs : List Value} {t : TypeId} {f : Nat → En} {g : Nat → List HE} (e1 : L = f b) (e2 : box b cs t :: H = g b) : TS P C N ops L0 D (postA f g) [] L (box b cs t :: H) h := ts_done ⟨b, e1, e2⟩
theorem ts_doneB {b c : Nat} {cs ds : List Value} {t u : TypeId} {f : Nat → Nat → En} {g : Nat → Nat → List HE} (e1 : L = f b c) (e2 : box b cs t :: box c ds u :: H = g b c) : TS P C N ops L0 D (postB f g) [] L (box b cs t :: box c ds u :: H) h := ts_done ⟨b, c, e1, e2⟩
theorem ts_doneR {p : Option Addr} {n c sz : Nat} {xs : List Value} {t : TypeId} {f : Option Addr → Nat → En} {g : Option Addr → Nat → List HE} (e1 : L = f p c) (e2 : row p n c t sz xs :: H = g p c) : TS P C N ops L0 D (postR f g) [] L (row p n c t sz xs :: H) h := ts_done ⟨p, c, e1, e2⟩
/-- A new row: its block is new. -/
theorem ts_doneN {b n c sz : Nat} {xs : List Value} {t : TypeId} {f : Nat → En} {g : Nat → List HE} (e1 : L = f b) (e2 : row (some ⟨b, 0, none⟩) n c t sz xs :: H = g b) : TS P C N ops L0 D (postA f g) [] L (row (some ⟨b, 0, none⟩) n c t sz xs :: H) h := ts_done ⟨b, e1, e2⟩
end
end Go.GV

end
section
/- Divisions of numbers with signs; pointers that are not nil; over the small logic of GvA to GvAB. -/
namespace Go.GV
open Go
class TArr (P : Program) (t : TypeId) (n : outParam Nat) (e : outParam TypeId) : Prop where
  eq : P.underlying t = some (.array n e)
section
variable {P : Program} {C : Ctx} {L : En} {H : List HE} {h : PH} {dst : Option Tmp} {ty : TypeId} {pos : String} {after : Array Edge} {gd : Option (Nat × Bool)}
theorem od_remT {t t' : TypeId} {x y : Operand} {k : IntKind} {a b : Int} (hx : Ev L x (.int k a)) (hy : Ev L y (.int k b)) (hb : 0 < b) :
    OP P C ⟨dst, .binOp .rem t x y t', ty, pos, after, gd⟩ L H h (.int k (a.tmod b)) :=
  od_pure fun ρ w hρ _ => by
    have e1 := hρ x (by simp [Op.operands]) _ hx
    have e2 := hρ y (by simp [Op.operands]) _ hy
    have hb' : ¬ (b = 0) := by omega
    simp [execOp, e1, e2, eqGuard, binOp, Op.intDiv, hb']
theorem od_quoT {t t' : TypeId} {x y : Operand} {k : IntKind} {a b : Int} (hx : Ev L x (.int k a)) (hy : Ev L y (.int k b)) (hb : 0 < b) (hr : inR k (a.tdiv b)) :
    OP P C ⟨dst, .binOp .quo t x y t', ty, pos, after, gd⟩ L H h (.int k (a.tdiv b)) :=
  od_pure fun ρ w hρ _ => by
    have e1 := hρ x (by simp [Op.operands]) _ hx
    have e2 := hρ y (by simp [Op.operands]) _ hy
    have hb' : ¬ (b = 0) := by omega
    simp [execOp, e1, e2, eqGuard, binOp, Op.intDiv, hb', wrap_inR hr]
theorem od_nil {x : Operand} {a : Addr} (hx : Ev L x (.pointer (some a))) : OP P C ⟨dst, .nilCheck x, ty, pos, after, gd⟩ L H h (.pointer (some a)) :=
  od_pure fun ρ w hρ _ => by
    have e1 := hρ x (by simp [Op.operands]) _ hx
    simp [execOp, e1]
theorem od_indexA {t e : TypeId} {len sz : Nat} {g : Bool} [TArr P t len e] [TI P e sz g] {x y : Operand} {k : IntKind} {b o i : Nat} {m : Int} (hx : Ev L x (.pointer (some ⟨b, o, none⟩))) (hy : Ev L y (.int k m)) (hm : m = (i : Int)) (hi : i < len) :
    OP P C ⟨dst, .indexAddr t x y, ty, pos, after, gd⟩ L H h (.pointer (some ⟨b, o + i * sz, none⟩)) :=
  od_pure fun ρ w hρ _ => by
    have e1 := hρ x (by simp [Op.operands]) _ hx
    have e2 := hρ y (by simp [Op.operands]) _ hy
    have hu := TArr.eq (P := P) (t := t)
    have hsz := run_sz (TI.sz (P := P) (t := e)) w
    subst hm
    have hc1 : (0 : Int) ≤ (i : Int) ∧ (i : Int) < (len : Int) := by omega
    simp only [execOp, e1, e2, Instr.indexAt, asIntOf, Sem.run_bind, Sem.run_pure, Result.andThen_ok, run_underlying hu, Instr.sureAddr]
    rw [if_pos hc1]
    simp only [Sem.run_bind, hsz, Result.andThen_ok, Sem.run_pure, Int.toNat_natCast, addr_add]
theorem od_buildA {s e : TypeId} {len sz : Nat} {g : Bool} {ps : List (Nat × Operand)} {qs : List (Nat × List Value)} {z cs : List Value} [TArr P s len e] [TI P e sz g] [TZero P s z] (hh : PartsS L sz ps qs) (hz : (qs.all fun q => Nat.ble (q.1 + q.2.length) z.length) = true) (hcs : Nf (fillL z qs) cs) :
    OP P C ⟨dst, .build s ps.toArray, ty, pos, after, gd⟩ L H h (.agg cs.toArray) :=
  od_pure fun ρ w hρ _ => by
    have hu := TArr.eq (P := P) (t := s)
    have hsz := run_sz (TI.sz (P := P) (t := e)) w
    obtain ⟨zv, hzr, hzc⟩ := run_zero (P := P) (t := s) w
    have hfill := fill_partsS hh (ρ := ρ) (fun p hp => hρ p.2 (by simp only [Op.operands]; simpa using ⟨p.1, hp⟩)) z (fun q hq => Nat.le_of_ble_eq_true (by simpa using (List.all_eq_true.1 hz) q hq))
    simp only [execOp, Instr.build, Sem.run_bind, hzr, Result.andThen_ok, run_underlying hu, hsz, hzc]
    have e2 : (ps.toArray.map fun (i, x) => (i, ρ x)).toList = ps.map fun p => (p.1, ρ p.2) := by simp
    rw [e2, hfill, hcs.eq]
    simp
end
end Go.GV

end
section
/- Steps of a walk: the texts that prove what each asks stand here, once. -/
namespace Go.GV
open Go
section
variable {ρ : Option Nat} {P : Program} {C : Ctx} {N : Fr} {L : En} {H H' H0 : List HE} {h h0 : PH} {ty : TypeId} {pos : String} {after : Array Edge}
variable {ops : Array Oper} {o : Oper} {rest : List Oper} {Q : Exit → Act → World → Prop} {R : Act → World → Prop} {B : List Nat}
theorem hd_storeA {T T' : TypeId} {x y : Operand} {b off n : Nat} {v : Value} {vs cs cs' : List Value} {g : Bool} [TI P T n g] (next : Hd C N L H' h (wpList P ops Q rest)) (hx : Ev L x (.pointer (some ⟨b, off, none⟩)) := by exact Ev.mk rfl (by trivial)) (hy : Ev L y v := by exact Ev.mk rfl (by trivial)) (hvs : v.cells = vs.toArray := by rfl)
    (hb : HSet H b cs T' cs' H' := by ((repeat (first | apply HSet.here | apply HSet.there)); first | done | fail)) (hn : vs.length = n := by rfl) (hle : Nat.ble (off + vs.length) cs.length = true := by rfl) (hone : vs.all (·.oneCell') = true := by rfl) (hcs : Nf (spl cs off vs) cs' := by ((repeat (first | exact Nf.nil | apply Nf.cons)); first | done | fail)) :
    Hd C N L H h (wpList P ops Q (⟨none, .store T x y, ty, pos, after, none⟩ :: rest)) := hd_store hx hy hvs hb hn hle hone hcs next
theorem hd_boxA {T : TypeId} {x : Operand} {v : Value} {cs : List Value} {d : Nat} (next : ∀ b, Hd C N ((d, [], .pointer (some ⟨b, 0, none⟩)) :: L) (box b cs T :: H) h (wpList P ops Q rest)) (hx : Ev L x v := by exact Ev.mk rfl (by trivial)) (hv : v.cells = cs.toArray := by rfl) (hN : Nat.blt d N.n = true := by rfl) :
    Hd C N L H h (wpList P ops Q (⟨some d, .box T x, ty, pos, after, none⟩ :: rest)) := hd_box hx hv hN next
theorem hd_makeA {d : Nat} {x y : Operand} {t e : TypeId} {sz bt : Nat} {z : List Value} [TEl P t e sz bt] [TZero P e z] {k k' : IntKind} {n c : Nat} {a b : Int} (next : ∀ g, Hd C N ((d, [], .slice (some ⟨g, 0, none⟩) n c) :: L) (row (some ⟨g, 0, none⟩) n c e sz (zs z n) :: H) h (wpList P ops Q rest)) (hx : Ev L x (.int k a) := by exact Ev.mk rfl (by trivial)) (hy : Ev L y (.int k' b) := by exact Ev.mk rfl (by trivial)) (ha : a = (n : Int) := by (first | (with_reducible exact natC _) | (with_reducible exact natLit _) | exact rfl | exact (Int.toNat_of_nonneg (by (first | omega | grind [Sat]))).symm)) (hb : b = (c : Int) := by (first | (with_reducible exact natC _) | (with_reducible exact natLit _) | exact rfl | exact (Int.toNat_of_nonneg (by (first | omega | grind [Sat]))).symm)) (hz : z.length = sz := by rfl) (hnc : n ≤ c := by (first | omega | grind [Sat])) (hbt : bt * c ≤ 281474976710656 := by (first | omega | grind [Sat])) (hc : c ≤ 9223372036854775807 := by (first | omega | grind [Sat])) (hN : Nat.blt d N.n = true := by rfl) :
    Hd C N L H h (wpList P ops Q (⟨some d, .makeSlice t x y, ty, pos, after, none⟩ :: rest)) := hd_make hx hy ha hb hz hnc hbt hc hN next
theorem hd_copyA {d : Nat} {x y : Operand} {t t' e : TypeId} {sz bt : Nat} [TEl P t e sz bt] {p q : Option Addr} {n c m k : Nat} {xs ys : List Value} (next : Hd C N ((d, [], .int .i64 (min m n : Nat)) :: L) (row p n c e sz (ys.take (min m n * sz) ++ xs.drop (min m n * sz)) :: H') h (wpList P ops Q rest)) (hx : Ev L x (.slice p n c) := by exact Ev.mk rfl (by trivial)) (hy : Ev L y (.slice q m k) := by exact Ev.mk rfl (by trivial)) (hpk : Pick H (row p n c e sz xs) H' := by ((repeat (first | apply Pick.here | apply Pick.there)); first | done | fail)) (hs : Src H h q m sz ys := by (first | exact Src.row (by ((repeat (first | exact HMem.here | apply HMem.there)); first | done | fail)) | exact SlS_src (by assumption) | exact SlR.srcI (by assumption) | exact SlR.srcI (SlR.mono (by assumption) (by ((repeat (first | assumption | exact PH.le_refl _ | (refine PH.le_trans ?_ (by assumption)))); first | done | fail))) | exact SlS_src (SlR.mono (by assumption) (by ((repeat (first | assumption | exact PH.le_refl _ | (refine PH.le_trans ?_ (by assumption)))); first | done | fail))) | exact Src.sl (by (first | assumption | exact Sl.nil _ _ | exact Sl.mono (by assumption) (by ((repeat (first | assumption | exact PH.le_refl _ | (refine PH.le_trans ?_ (by assumption)))); first | done | fail)))) | exact Src.zero)) (hone : ys.all (·.oneCell') = true := by (first | rfl | exact vS_one _ | exact vI_one _ _ | exact by8_one _ | simp [el8_flat, by8_one])) (hN : Nat.blt d N.n = true := by rfl) :
    Hd C N L H h (wpList P ops Q (⟨some d, .call ⟨.builtin .copy, #[x, y], #[t, t']⟩, ty, pos, after, none⟩ :: rest)) := hd_copy hx hy hpk hs hone hN next
theorem hd_litA {d : Nat} {t e : TypeId} {sz bt n : Nat} {z cs : List Value} [TEl P t e sz bt] [TZero P e z] {ps : List (Nat × Operand)} {qs : List (Nat × List Value)} (next : ∀ g, Hd C N ((d, [], .slice (some ⟨g, 0, none⟩) n n) :: L) (row (some ⟨g, 0, none⟩) n n e sz cs :: H) h (wpList P ops Q rest)) (hh : PartsS L sz ps qs := by ((repeat (first | exact PartsS.nil | (apply PartsS.cons; (focus exact (Ev.mk rfl (by trivial))); rfl; rfl))); first | done | fail)) (hz : z.length = sz := by rfl) (hq : (qs.all fun q => Nat.ble (q.1 + q.2.length) (n * sz)) = true := by rfl) (hcs : Nf (fillL (zs z n) qs) cs := by ((repeat (first | exact Nf.nil | apply Nf.cons)); first | done | fail)) (hbig : Nat.ble (n * sz) 16777216 = true := by rfl) (hN : Nat.blt d N.n = true := by rfl) (hlen : cs.length = n * sz := by rfl) :
    Hd C N L H h (wpList P ops Q (⟨some d, .buildSlice t n ps.toArray, ty, pos, after, none⟩ :: rest)) := hd_lit hh hz hq hcs hbig hN hlen next
theorem hd_appendA {d : Nat} {x y : Operand} {t t' e e' : TypeId} {sz bt : Nat} {z : List Value} [TEl P t e sz bt] [TSl P t' e'] [TZero P e z] {p q : Option Addr} {n c m k : Nat} {xs ys : List Value} (next : ∀ p' c', Hd C N ((d, [], .slice p' (n + m) c') :: L) (row p' (n + m) c' e sz (xs ++ ys) :: H') h (wpList P ops Q rest)) (hx : Ev L x (.slice p n c) := by exact Ev.mk rfl (by trivial)) (hy : Ev L y (.slice q m k) := by exact Ev.mk rfl (by trivial)) (hpk : Pick H (row p n c e sz xs) H' := by ((repeat (first | apply Pick.here | apply Pick.there)); first | done | fail)) (hs : Src H h q m sz ys := by (first | exact Src.row (by ((repeat (first | exact HMem.here | apply HMem.there)); first | done | fail)) | exact SlS_src (by assumption) | exact SlR.srcI (by assumption) | exact SlR.srcI (SlR.mono (by assumption) (by ((repeat (first | assumption | exact PH.le_refl _ | (refine PH.le_trans ?_ (by assumption)))); first | done | fail))) | exact SlS_src (SlR.mono (by assumption) (by ((repeat (first | assumption | exact PH.le_refl _ | (refine PH.le_trans ?_ (by assumption)))); first | done | fail))) | exact Src.sl (by (first | assumption | exact Sl.nil _ _ | exact Sl.mono (by assumption) (by ((repeat (first | assumption | exact PH.le_refl _ | (refine PH.le_trans ?_ (by assumption)))); first | done | fail)))) | exact Src.zero)) (hz : z.length = sz := by rfl) (hone : ys.all (·.oneCell') = true := by (first | rfl | exact vS_one _ | exact vI_one _ _ | exact by8_one _ | simp [el8_flat, by8_one])) (hb : (n + m) * bt ≤ 140737488355328 := by (first | omega | grind [Sat])) (hm : n + m ≤ 9223372036854775807 := by (first | omega | grind [Sat])) (hN : Nat.blt d N.n = true := by rfl) :
    Hd C N L H h (wpList P ops Q (⟨some d, .call ⟨.builtin .append, #[x, y], #[t, t']⟩, ty, pos, after, none⟩ :: rest)) := hd_append hx hy hpk hs hz hone hb hm hN next
theorem hd_storeRA {T : TypeId} {x y : Operand} {off m : Nat} {v : Value} {p : Option Addr} {n c sz : Nat} {e : TypeId} {xs xs' vs : List Value} {g : Bool} [TI P T m g] (next : Hd C N L (row p n c e sz xs' :: H') h (wpList P ops Q rest)) (hx : Ev L x (.pointer (some ⟨pb p, off, none⟩)) := by exact Ev.mk rfl (by trivial)) (hy : Ev L y v := by exact Ev.mk rfl (by trivial)) (hvs : v.cells = vs.toArray := by rfl) (hpk : Pick H (row p n c e sz xs) H' := by ((repeat (first | apply Pick.here | apply Pick.there)); first | done | fail)) (hn : vs.length = m := by rfl) (hle : off + vs.length ≤ xs.length := by (first | (rw [vI_len, Nat.mul_one]; (first | omega | grind [Sat])) | (first | omega | grind [Sat]))) (hpos : 0 < n := by (first | omega | grind [Sat])) (hone : vs.all (·.oneCell') = true := by rfl) (hxs : spl xs off vs = xs' := by (first | exact vI_set (by (first | omega | grind [Sat])) | rfl)) :
    Hd C N L H h (wpList P ops Q (⟨none, .store T x y, ty, pos, after, none⟩ :: rest)) := hd_storeR hx hy hvs hpk hn hle hpos hone hxs next

end
end Go.GV

end
section
/- Arrays, numbers as rows of bits, stores at a place that is not known; over the small logic of GvA to GvAD. -/
namespace Go.GV
open Go
section
variable {P : Program} {C : Ctx} {N : Fr} {L : En} {H H' : List HE} {h : PH} {dst : Option Tmp} {ty : TypeId} {pos : String} {after : Array Edge} {gd : Option (Nat × Bool)}
variable {ops : Array Oper} {rest : List Oper} {Q : Exit → Act → World → Prop}
/-- A store at a place that is not known. -/
theorem hd_storeX {T T' : TypeId} {x y : Operand} {b off n : Nat} {v : Value} {vs cs cs' : List Value} {g : Bool} [TI P T n g] (hx : Ev L x (.pointer (some ⟨b, off, none⟩))) (hy : Ev L y v) (hvs : v.cells = vs.toArray)
    (hb : HSet H b cs T' cs' H') (hn : vs.length = n) (hle : off + vs.length ≤ cs.length) (hone : vs.all (·.oneCell') = true) (hcs : spl cs off vs = cs') (next : Hd C N L H' h (wpList P ops Q rest)) :
    Hd C N L H h (wpList P ops Q (⟨none, .store T x y, ty, pos, after, none⟩ :: rest)) := by
  refine ⟨fun a w ha hw => ?_⟩
  have e1 := hx.eval ha
  have e2 := hy.eval ha
  have hsz := run_sz (TI.sz (P := P) (t := T)) w
  obtain ⟨w', hr, ht⟩ := run_storeCells (P := P) b T' off vs 0 cs w (hb.get.block hw) (by omega) hone
  rw [Nat.add_zero, hcs] at ht
  simp only [wpList]
  rw [if_pos (by simp [Region.wanted])]
  have hrun : (execOp a.eval ⟨none, .store T x y, ty, pos, after, none⟩).run P w = .ok .skip w' := by
    simp only [execOp, e1, e2, Instr.storeAt, Instr.sureAddr, storeVar, Sem.run_bind, Sem.run_pure, Result.andThen_ok, hsz, hvs]
    simp [hn, hr]
  unfold opw
  rw [hrun]
  exact next.all _ _ ha (hw.turned hb ht)
end
/-! ### Rows of bits -/
theorem bvl (n : Nat) (h : n < 4294967296) : (@OfNat.ofNat Int n (@instOfNat n) : Int) = ((BitVec.ofNat 32 n).toNat : Int) := by
  rw [BitVec.toNat_ofNat, Nat.mod_eq_of_lt h]; rfl
theorem bv_of {n : Int} (h : inR .u32 n) : n = ((BitVec.ofInt 32 n).toNat : Int) := by
  have := h.1; have := h.2
  rw [BitVec.toNat_ofInt]; omega
theorem ofInt_toNat32 (r : BitVec 32) : BitVec.ofInt 32 (r.toNat : Int) = r := by
  rw [BitVec.ofInt_natCast]; simp
theorem wrap_bv (r : BitVec 32) : IntKind.u32.wrap (r.toNat : Int) = (r.toNat : Int) := wrap_inR ⟨by omega, by have := r.isLt; omega⟩
section
variable {P : Program} {C : Ctx} {L : En} {H : List HE} {h : PH} {dst : Option Tmp} {ty : TypeId} {pos : String} {after : Array Edge} {gd : Option (Nat × Bool)} {t t' : TypeId} {x y : Operand} {a b : Int} {r s : BitVec 32}
theorem bi_xor : bi .xor .u32 (r.toNat : Int) (s.toNat : Int) = some (.int .u32 ((r ^^^ s).toNat : Int)) := by
  show some (Value.int .u32 (IntKind.u32.wrap (BitVec.ofInt 32 (r.toNat : Int) ^^^ BitVec.ofInt 32 (s.toNat : Int)).toNat)) = _
  rw [ofInt_toNat32, ofInt_toNat32, wrap_bv]
theorem bi_and : bi .and .u32 (r.toNat : Int) (s.toNat : Int) = some (.int .u32 ((r &&& s).toNat : Int)) := by
  show some (Value.int .u32 (IntKind.u32.wrap (BitVec.ofInt 32 (r.toNat : Int) &&& BitVec.ofInt 32 (s.toNat : Int)).toNat)) = _
  rw [ofInt_toNat32, ofInt_toNat32, wrap_bv]
theorem bi_or : bi .or .u32 (r.toNat : Int) (s.toNat : Int) = some (.int .u32 ((r ||| s).toNat : Int)) := by
  show some (Value.int .u32 (IntKind.u32.wrap (BitVec.ofInt 32 (r.toNat : Int) ||| BitVec.ofInt 32 (s.toNat : Int)).toNat)) = _
  rw [ofInt_toNat32, ofInt_toNat32, wrap_bv]
theorem od_xor32 (hx : Ev L x (.int .u32 a)) (hy : Ev L y (.int .u32 b)) (ha : a = (r.toNat : Int)) (hb : b = (s.toNat : Int)) : OP P C ⟨dst, .binOp .xor t x y t', ty, pos, after, gd⟩ L H h (.int .u32 ((r ^^^ s).toNat : Int)) := by
  subst ha hb; exact od_bin hx hy bi_xor
theorem od_and32 (hx : Ev L x (.int .u32 a)) (hy : Ev L y (.int .u32 b)) (ha : a = (r.toNat : Int)) (hb : b = (s.toNat : Int)) : OP P C ⟨dst, .binOp .and t x y t', ty, pos, after, gd⟩ L H h (.int .u32 ((r &&& s).toNat : Int)) := by
  subst ha hb; exact od_bin hx hy bi_and
theorem od_or32 (hx : Ev L x (.int .u32 a)) (hy : Ev L y (.int .u32 b)) (ha : a = (r.toNat : Int)) (hb : b = (s.toNat : Int)) : OP P C ⟨dst, .binOp .or t x y t', ty, pos, after, gd⟩ L H h (.int .u32 ((r ||| s).toNat : Int)) := by
  subst ha hb; exact od_bin hx hy bi_or
theorem od_shr32 {k : IntKind} {n : Nat} (hx : Ev L x (.int .u32 a)) (hy : Ev L y (.int k b)) (ha : a = (r.toNat : Int)) (hb : b = (n : Int)) (hn : n ≤ 32) : OP P C ⟨dst, .binOp .shr t x y t', ty, pos, after, gd⟩ L H h (.int .u32 ((r >>> n).toNat : Int)) := by
  subst ha
  have := od_shr (P := P) (C := C) (L := L) (H := H) (h := h) (dst := dst) (ty := ty) (pos := pos) (after := after) (gd := gd) (t := t) (t' := t') hx hy hb hn
  have e : ((r >>> n).toNat : Int) = (r.toNat : Int) / 2 ^ n := by
    rw [BitVec.toNat_ushiftRight, Nat.shiftRight_eq_div_pow]; simp
  rw [e]; exact this
theorem od_shl32 {k : IntKind} {n : Nat} (hx : Ev L x (.int .u32 a)) (hy : Ev L y (.int k b)) (ha : a = (r.toNat : Int)) (hb : b = (n : Int)) (hn : n ≤ 32) : OP P C ⟨dst, .binOp .shl t x y t', ty, pos, after, gd⟩ L H h (.int .u32 ((r <<< n).toNat : Int)) := by
  subst ha
  have := od_shl (P := P) (C := C) (L := L) (H := H) (h := h) (dst := dst) (ty := ty) (pos := pos) (after := after) (gd := gd) (t := t) (t' := t') hx hy hb hn
  have e : ((r <<< n).toNat : Int) = IntKind.u32.wrap ((r.toNat : Int) * 2 ^ n) := by
    rw [BitVec.toNat_shiftLeft, Nat.shiftLeft_eq]
    simp [IntKind.wrap, IntKind.bits, IntKind.signed]
  rw [e]; exact this
theorem od_not32 (hx : Ev L x (.int .u32 a)) (ha : a = (r.toNat : Int)) : OP P C ⟨dst, .unOp .xor t x, ty, pos, after, gd⟩ L H h (.int .u32 ((~~~ r).toNat : Int)) :=
  od_pure fun ρ w hρ _ => by
    have e1 := hρ x (by simp [Op.operands]) _ hx
    subst ha
    have e : BitVec.ofInt 32 (IntKind.u32.max) ^^^ BitVec.ofInt 32 (r.toNat : Int) = ~~~ r := by
      rw [ofInt_toNat32, show BitVec.ofInt 32 (IntKind.u32.max) = BitVec.allOnes 32 from by decide, BitVec.allOnes_xor]
    have e2 : IntKind.u32.wrap (BitVec.ofInt 32 (IntKind.u32.max) ^^^ BitVec.ofInt 32 (r.toNat : Int)).toNat = ((~~~ r).toNat : Int) := by rw [e, wrap_bv]
    simp only [execOp, e1, Op.unary, Op.intBits]
    have e3 : (if IntKind.u32.signed = true then (-1 : Int) else IntKind.u32.max) = IntKind.u32.max := rfl
    rw [e3]
    simp only [Sem.run_bind, Sem.run_pure, Result.andThen_ok]
    rw [show IntKind.u32.bits = 32 from rfl, e2]
end
end Go.GV

end
section
/- Rows that are cut back, appended to twice, and lent to calls; over the small logic of GvA to GvAE. -/
namespace Go.GV
open Go
section
variable {ρ : Option Nat} {P : Program} {C : Ctx} {N : Fr} {L : En} {H H' : List HE} {h : PH} {ty : TypeId} {pos : String} {after : Array Edge} {R : Act → World → Prop}
variable {ops : Array Oper} {rest : List Oper} {Q : Exit → Act → World → Prop}
/-! ### Lending a row to a call -/
def PH.del (h : PH) (b : Nat) : PH := fun k => if k = b then none else h k
end
end Go.GV

end
section
/- Plans that are trees of orders: where several operations are ready, each is taken, with the rest; over the small logic of GvA to GvAF. -/
namespace Go.GV
open Go
inductive PT where
  | nil
  | pre (i : Nat) (r : PT)
  | one (i : Nat) (r : PT)
  | alt2 (i : Nat) (r : PT) (j : Nat) (s : PT)
  | alt3 (i : Nat) (r : PT) (j : Nat) (s : PT) (k : Nat) (t : PT)
def ptT (T : List Row3) (B : List Nat) : PT → Nat → Nat → Bool
  | .nil, 0, m => (readyT T m).isEmpty
  | .pre i r, n + 1, m => (readyT T m).contains i && freeT T m i && B.all (fun j => waitsTT T 6 j i && !Nat.beq i j) && ptT T B r n (m ||| (1 <<< i))
  | .one i r, n + 1, m => decide (readyT T m = [i]) && ptT T B r n (m ||| (1 <<< i))
  | .alt2 i r j s, n + 1, m => decide (readyT T m = [i, j]) && ptT T B r n (m ||| (1 <<< i)) && ptT T B s n (m ||| (1 <<< j))
  | .alt3 i r j s k t, n + 1, m => decide (readyT T m = [i, j, k]) && ptT T B r n (m ||| (1 <<< i)) && ptT T B s n (m ||| (1 <<< j)) && ptT T B t n (m ||| (1 <<< k))
  | _, _, _ => false
def ptK (B : List Nat) (i : Nat) (S : World → Prop) (W : (World → Prop) → Act → World → Prop) : Act → World → Prop := fun a' w' => (i ∉ B → S w') ∧ ∃ S', (∀ w, S' w → S w) ∧ W S' a' w'
def wpPT (P : Program) (ops : Array Oper) (R : Act → World → Prop) (B : List Nat) : PT → (World → Prop) → Act → World → Prop
  | .nil, _, a, w => R a w
  | .pre i r, S, a, w => S w ∧ ∃ o v, ops[i]? = some o ∧ YieldsIf P ops S o v a ∧ wpPT P ops R B r S (a.put o.dst v) w
  | .one i r, S, a, w => wpOp P ops i (ptK B i S (wpPT P ops R B r)) a w
  | .alt2 i r j s, S, a, w => wpOp P ops i (ptK B i S (wpPT P ops R B r)) a w ∧ wpOp P ops j (ptK B j S (wpPT P ops R B s)) a w
  | .alt3 i r j s k t, S, a, w => wpOp P ops i (ptK B i S (wpPT P ops R B r)) a w ∧ wpOp P ops j (ptK B j S (wpPT P ops R B s)) a w ∧ wpOp P ops k (ptK B k S (wpPT P ops R B t)) a w
section
variable {ρ : Option Nat} {P : Program} {R : Act → World → Prop} {B : List Nat} {l : List Oper}
end
section
variable {ρ : Option Nat} {P : Program} {C : Ctx} {N : Fr} {L : En} {H H0 : List HE} {h h0 : PH} {ops : Array Oper} {o : Oper} {Q : Exit → Act → World → Prop} {R : Act → World → Prop} {B : List Nat} {S : World → Prop}
theorem hd_pt_nil (hx : Hd C N L H h R) : Hd C N L H h (wpPT P ops R B .nil S) := ⟨fun a w ha hw => hx.all a w ha hw⟩
theorem opw_ofList {i : Nat} {K : Act → World → Prop} (ho : ops[i]? = some o) (hx : Hd C N L H h (wpList P ops (Qn K) [o])) : Hd C N L H h (wpOp P ops i K) := by
  refine ⟨fun a w ha hw => ?_⟩
  have := hx.all a w ha hw
  simp only [wpOp, ho]
  simp only [wpList] at this
  split
  · rename_i hwa
    rw [if_pos hwa] at this
    exact opw_mono (fun a' w' hk => hk.2) this
  · rename_i hwa
    rw [if_neg hwa] at this
    exact this.2
theorem hd_pt_one {i : Nat} {r : PT} (ho : ops[i]? = some o) (hx : Hd C N L H h (wpList P ops (Qn (ptK B i S (wpPT P ops R B r))) [o])) : Hd C N L H h (wpPT P ops R B (.one i r) S) :=
  ⟨fun a w ha hw => (opw_ofList ho hx).all a w ha hw⟩
theorem hd_pt_go {i : Nat} {r : PT} (hmo : More H0 H) (hl : h0.le h) (hx : Hd C N L H h (wpPT P ops R B r (SS C H0 h))) : Hd C N L H h (wpList P ops (Qn (ptK B i (SS C H0 h0) (wpPT P ops R B r))) []) :=
  ⟨fun a w ha hw => ⟨rfl, fun _ => SS.more hmo hl hw, SS C H0 h, fun _ hw => hw.less .same hl, hx.all a w ha hw⟩⟩
end
end Go.GV

end
section
/- Drawn orders in which the first private block may change; over the small logic of GvA to GvAG. -/
namespace Go.GV
open Go
section
variable {ρ : Option Nat} {P : Program} {C : Ctx} {N : Fr} {L : En} {H0 : List HE} {e : HE} {h : PH} {Q : Exit → Act → World → Prop}
end
end Go.GV

end
section
/- The texts of a walk that are alike everywhere, each once, as the default of a lemma's parameter. -/
namespace Go.GV
open Go
theorem aX {A : Prop} (h : A := by (focus exact (Ev.mk rfl (by trivial)))) : A := h
theorem aE {A : Prop} (h : A := by ((repeat (first | exact Evs.nil | (apply Evs.cons; (focus exact (Ev.mk rfl (by trivial)))))); first | done | fail)) : A := h
theorem aN {A : Prop} (h : A := by ((repeat (first | exact Nf.nil | apply Nf.cons)); first | done | fail)) : A := h
theorem aP {A : Prop} (h : A := by ((repeat (first | apply Pick.here | apply Pick.there)); first | done | fail)) : A := h
theorem aS {A : Prop} (h : A := by ((repeat (first | apply Split.nil | (apply Split.cons; (focus ((repeat (first | apply Pick.here | apply Pick.there)); first | done | fail))))); first | done | fail)) : A := h
theorem aM {A : Prop} (h : A := by ((repeat (first | exact More.same | apply More.one)); first | done | fail)) : A := h
theorem aL {A : Prop} (h : A := by ((repeat (first | assumption | exact PH.le_refl _ | (refine PH.le_trans ?_ (by assumption)))); first | done | fail)) : A := h
theorem aH {A : Prop} (h : A := by ((repeat (first | exact HMem.here | apply HMem.there)); first | done | fail)) : A := h
theorem aG {A : Prop} (h : A := by ((repeat (first | exact HGet.here | apply HGet.there)); first | done | fail)) : A := h
theorem aW {A : Prop} (h : A := by ((repeat (first | apply HSet.here | apply HSet.there)); first | done | fail)) : A := h
theorem aR {A : Prop} (h : A := by ((repeat (first | exact Res.nil | (apply Res.tmp; (focus exact (Ev.mk rfl (by trivial)))) | (apply Res.one; (focus exact (Ev.mk rfl (by trivial))); (focus ((repeat (first | exact HGet.here | apply HGet.there)); first | done | fail)); rfl) | (apply Res.agg; (focus exact (Ev.mk rfl (by trivial))); (focus ((repeat (first | exact HGet.here | apply HGet.there)); first | done | fail)); (focus ((repeat (first | exact Nf.nil | apply Nf.cons)); first | done | fail)); rfl))); first | done | fail)) : A := h
theorem aU {A : Prop} (h : A := by ((repeat (first | exact Sub.nil | (apply Sub.cons; rfl; (focus (first | rfl | (congr 1; omega)))))); first | done | fail)) : A := h
theorem aPre {A : Prop} (h : A := by ((repeat (first | exact Pre.nil | apply Pre.cons)); first | done | fail)) : A := h
theorem aCI {A : Prop} (h : A := by ((repeat (first | exact CI.nil | apply CI.cons)); first | done | fail)) : A := h
/-- A step of the frame of the code. -/
theorem wkA {A B : Prop} (hb : B) (h : B → A := by first | exact fun x => hd_seq x | exact fun x => hd_then_n x | exact fun x => hd_then_r x | exact fun x => hd_then_e x | exact fun x => hd_in_n x | exact fun x => hd_in_r x | exact fun x => hd_in_e x | exact fun x => hd_in_o rfl x | exact fun x => hd_region x | exact fun x => ch_nil x | exact fun x => hd_pn_nil x | exact fun x => hd_skip x | exact fun x => hd_ret x | exact fun x => hd_exit x | exact fun x => hd_block x | exact fun x => hd_pt_nil x | exact fun x => hd_pt_one rfl x | exact fun x => hd_begin (by exact aP) x) : A := h hb
/-- The end of a thread. -/
theorem tsA {A : Prop} (h : A := by first | exact ts_done ⟨rfl, rfl⟩ | exact ts_doneA rfl rfl | exact ts_doneN rfl rfl | exact ts_doneB rfl rfl | exact ts_doneR rfl rfl) : A := h
section
variable {ρ : Option Nat} {P : Program} {C : Ctx} {N : Fr} {L : En} {H H' H0 : List HE} {h h0 : PH} {ty : TypeId} {pos : String} {after : Array Edge}
variable {ops : Array Oper} {o : Oper} {rest : List Oper} {Q : Exit → Act → World → Prop} {R : Act → World → Prop} {B : List Nat}
theorem pn_barA {r : List PI} {S : World → Prop} {i : Nat} (hx : Hd C N L H h (wpPn P ops R B r S)) (hm : i ∈ B := by decide) : Hd C N L H h (wpList P ops (Qn fun a' w' => (i ∉ B → S w') ∧ ∃ S', (∀ w, S' w → S w) ∧ wpPn P ops R B r S' a' w') []) := hd_pn_bar hm hx
theorem pn_goA {r : List PI} {i : Nat} (hx : Hd C N L H h (wpPn P ops R B r (SS C H0 h))) (hmo : More H0 H := by exact aM) (hl : h0.le h := by exact aL) : Hd C N L H h (wpList P ops (Qn fun a' w' => (i ∉ B → SS C H0 h0 w') ∧ ∃ S', (∀ w, S' w → SS C H0 h0 w) ∧ wpPn P ops R B r S' a' w') []) := hd_pn_go hmo hl hx
theorem pt_goA {i : Nat} {r : PT} (hx : Hd C N L H h (wpPT P ops R B r (SS C H0 h))) (hmo : More H0 H := by exact aM) (hl : h0.le h := by exact aL) : Hd C N L H h (wpList P ops (Qn (ptK B i (SS C H0 h0) (wpPT P ops R B r))) []) := hd_pt_go hmo hl hx
theorem ts_onA {L0 L' : En} {D T : List Nat} {Post : En → List HE → PH → Prop} {h1 : PH} {Hc HF : List HE} {Lc : En} (next : TS P C N ops L0 D Post T L' H' h) (hL : Pre L0 Lc L' := by exact aPre) (hH : Pre HF Hc H' := by exact aPre) (hl : h1.le h := by exact aL) (hD : (L'.all fun e => D.contains e.1) = true := by rfl) :
    Hd C N Lc Hc h (wpList P ops (Qn fun a w => ∃ L' H' h2, h1.le h2 ∧ EnOK a N (L' ++ L0) ∧ (L'.all fun e => D.contains e.1) = true ∧ Inv C (H' ++ HF) h2 w ∧ TS P C N ops L0 D Post T L' H' h2) []) := ts_on hL hH hl hD next
end
end Go.GV

end
