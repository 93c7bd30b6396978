/- Shifts, divisions, guards known to hold, strings of bytes, rows of the call's own read and written by index; over the small logic of GvA to GvK. -/
import Derived.Test.YtikkkfamflmgeaaGvK
import Derived.Laws.BytesArg
namespace Go.GV
open Go

class TStr (P : Program) (t : TypeId) : Prop where
  eq : P.underlying t = some .string

theorem nonneg_inR_div {k : IntKind} {a b : Int} (h : inR k a) (h0 : 0 ≤ a) (hb : 0 < b) : inR k (a / b) := by
  have h1 : a / b ≤ a := Int.ediv_le_self b h0
  have h2 : 0 ≤ a / b := Int.ediv_nonneg h0 (Int.le_of_lt hb)
  cases k <;> simp only [inR] at h ⊢ <;> omega

section
variable {ρ : Option Nat} {P : Program} {C : Ctx} {N : Fr} {L : En} {H H' : List HE} {h : PH} {dst : Option Tmp} {ty : TypeId} {pos : String} {after : Array Edge} {gd : Option (Nat × Bool)}
variable {ops : Array Oper} {o : Oper} {rest : List Oper} {Q : Exit → Act → World → Prop}

/-! ### Shifts, divisions -/
theorem od_shr {t t' : TypeId} {x y : Operand} {k k' : IntKind} {a b : Int} {n : Nat} (hx : Ev L x (.int k a)) (hy : Ev L y (.int k' b)) (hb : b = (n : Int)) (hn : n ≤ k.bits) :
    OP P C ⟨dst, .binOp .shr t x y t', ty, pos, after, gd⟩ L H h (.int k (a / 2 ^ n)) :=
  od_pure fun ρ w hρ _ => by
    have e1 := hρ x (by simp [Op.operands]) _ hx
    have e2 := hρ y (by simp [Op.operands]) _ hy
    subst hb
    have h0 : ¬ ((n : Int) < 0) := by omega
    have h1 : min n k.bits = n := Nat.min_eq_left hn
    have h2 : (0 : Int) ≤ 2 ^ n := by have := Int.pow_pos (n := 2) (m := n) (by omega); omega
    simp [execOp, e1, e2, eqGuard, binOp, Op.shift, h0, h1, Int.fdiv_eq_ediv_of_nonneg _ h2]
theorem od_shl {t t' : TypeId} {x y : Operand} {k k' : IntKind} {a b : Int} {n : Nat} (hx : Ev L x (.int k a)) (hy : Ev L y (.int k' b)) (hb : b = (n : Int)) (hn : n ≤ k.bits) :
    OP P C ⟨dst, .binOp .shl t x y t', ty, pos, after, gd⟩ L H h (.int k (k.wrap (a * 2 ^ n))) :=
  od_pure fun ρ w hρ _ => by
    have e1 := hρ x (by simp [Op.operands]) _ hx
    have e2 := hρ y (by simp [Op.operands]) _ hy
    subst hb
    have h0 : ¬ ((n : Int) < 0) := by omega
    have h1 : min n k.bits = n := Nat.min_eq_left hn
    simp [execOp, e1, e2, eqGuard, binOp, Op.shift, h0, h1]
theorem od_rem {t t' : TypeId} {x y : Operand} {k : IntKind} {a b : Int} (hx : Ev L x (.int k a)) (hy : Ev L y (.int k b)) (h0 : 0 ≤ a) (hb : 0 < b) :
    OP P C ⟨dst, .binOp .rem t x y t', ty, pos, after, gd⟩ L H h (.int k (a % b)) :=
  od_pure fun ρ w hρ _ => by
    have e1 := hρ x (by simp [Op.operands]) _ hx
    have e2 := hρ y (by simp [Op.operands]) _ hy
    have hb' : ¬ (b = 0) := by omega
    simp [execOp, e1, e2, eqGuard, binOp, Op.intDiv, hb', Int.tmod_eq_emod_of_nonneg h0]
theorem od_quo {t t' : TypeId} {x y : Operand} {k : IntKind} {a b : Int} (hx : Ev L x (.int k a)) (hy : Ev L y (.int k b)) (h0 : 0 ≤ a) (hb : 0 < b) (hr : inR k a) :
    OP P C ⟨dst, .binOp .quo t x y t', ty, pos, after, gd⟩ L H h (.int k (a / b)) :=
  od_pure fun ρ w hρ _ => by
    have e1 := hρ x (by simp [Op.operands]) _ hx
    have e2 := hρ y (by simp [Op.operands]) _ hy
    have hb' : ¬ (b = 0) := by omega
    simp [execOp, e1, e2, eqGuard, binOp, Op.intDiv, hb', Int.tdiv_eq_ediv_of_nonneg h0, wrap_inR (nonneg_inR_div hr h0 hb)]

/-! ### Guards that are known -/
theorem od_pickT {c x y : Operand} {v : Value} (hc : Ev L c (.bool true)) (hx : Ev L x v) : OP P C ⟨dst, .pick c x y, ty, pos, after, gd⟩ L H h v :=
  od_pure fun ρ w hρ _ => by
    have e1 := hρ c (by simp [Op.operands]) _ hc
    have e2 := hρ x (by simp [Op.operands]) _ hx
    simp [execOp, e1, e2, asBool]
theorem od_pickF {c x y : Operand} {v : Value} (hc : Ev L c (.bool false)) (hy : Ev L y v) : OP P C ⟨dst, .pick c x y, ty, pos, after, gd⟩ L H h v :=
  od_pure fun ρ w hρ _ => by
    have e1 := hρ c (by simp [Op.operands]) _ hc
    have e2 := hρ y (by simp [Op.operands]) _ hy
    simp [execOp, e1, e2, asBool]
/-- The guard holds: as without one. -/
theorem hd_gon {d : Option Tmp} {op : Op} {gu : Nat × Bool} {s : Nat} {want c : Bool} {g0 : List (Bool × Bool)} (hg : gslot ops (some gu) = some (s, want)) (hs : look L s = some (g0, .bool c)) (hsat : Sat ((c, want) :: g0))
    (next : Hd C N L H h (wpList P ops Q (⟨d, op, ty, pos, after, none⟩ :: rest))) : Hd C N L H h (wpList P ops Q (⟨d, op, ty, pos, after, some gu⟩ :: rest)) := by
  refine ⟨fun a w ha hw => ?_⟩
  have hn := next.all a w ha hw
  have hwa := wanted_of (o := ⟨d, op, ty, pos, after, some gu⟩) ha hg hs
  simp only [wpList] at hn ⊢
  rw [if_pos (by simp [Region.wanted])] at hn
  rw [if_pos (by rw [hwa]; exact (sat_iff _).1 hsat)]
  exact hn
/-- The guard does not hold: nothing is done. -/
theorem hd_goff {d : Tmp} {op : Op} {gu : Nat × Bool} {s : Nat} {want c : Bool} {g0 : List (Bool × Bool)} (hg : gslot ops (some gu) = some (s, want)) (hs : look L s = some (g0, .bool c)) (hsat : ¬ Sat ((c, want) :: g0)) (hN : Nat.blt d N.n = true)
    (next : Hd C N ((d, [], undef) :: L) H h (wpList P ops Q rest)) : Hd C N L H h (wpList P ops Q (⟨some d, op, ty, pos, after, some gu⟩ :: rest)) := by
  refine ⟨fun a w ha hw => ?_⟩
  have hwa := wanted_of (o := ⟨some d, op, ty, pos, after, some gu⟩) ha hg hs
  simp only [wpList]
  rw [if_neg (by rw [hwa, ← sat_iff]; exact hsat)]
  refine next.all _ _ ?_ hw
  have := ha.put (g := []) (v := undef) (d := d) (by simpa using hN)
  simpa [G, satB] using this

/-! ### Strings of bytes -/
theorem Src.more {q : Option Addr} {m sz : Nat} {ys : List Value} (hs : Src H h q m sz ys) (Hx : List HE) {h' : PH} (hl : h.le h') : Src (Hx ++ H) h' q m sz ys := by
  cases hs with
  | zero => exact .zero
  | sl hs => exact .sl (hs.mono hl)
  | row hm => exact .row (hm.more Hx)
theorem Src.wS {q : Option Addr} {m sz : Nat} {ys : List Value} (hs : Src H h q m sz ys) {w : World} (hw : SS C H h w) : SrcW w q m sz ys := by
  obtain ⟨Hx, h', hl, hi⟩ := hw
  exact (hs.more Hx hl).w hi
theorem od_b2s {s t e : TypeId} [TSl P s e] [TInt P e .u8] [TStr P t] {x : Operand} {q : Option Addr} {m d : Nat} {bs : List Int} {ys : List Value} (hx : Ev L x (.slice q m d)) (hs : Src H h q m 1 ys) (hys : ys = bs.map (Value.int .u8)) :
    OP P C ⟨dst, .convert s t x, ty, pos, after, gd⟩ L H h (.string (strOfNums bs)) :=
  od_pure fun ρ w hρ hw => by
    have e1 := hρ x (by simp [Op.operands]) _ hx
    obtain ⟨h1, h2, h3⟩ := hs.wS hw
    subst hys
    simp only [execOp, e1]
    cases q with
    | none =>
      have : bs = [] := by simpa using h2 rfl
      subst this
      have := run_convert_bytes_nil (P := P) w s e TSl.eq TInt.eq m d t TStr.eq
      simp [this, strOfNums]
      rfl
    | some a =>
      have hl : (loadCells a m).run P w = .ok (bs.map (Value.int .u8)).toArray w := by
        have := run_loadCells_list (P := P) w a (bs.map (Value.int .u8)) (h3 a rfl)
        rw [h1, Nat.mul_one] at this
        exact this
      rw [Sem.run_bind, run_convert_bytes_string w s t e _ m d TSl.eq TInt.eq TStr.eq, run_bytesToString w _ m d bs hl, foldl_push_bytes]
      simp [strOfNums, ByteArray.empty, ByteArray.emptyWithCapacity]
      rfl
theorem u8_inj {a b : Int} (ha : inR .u8 a) (hb : inR .u8 b) (e : UInt8.ofNat a.toNat = UInt8.ofNat b.toNat) : a = b := by
  simp only [inR] at ha hb
  have := congrArg UInt8.toNat e
  simp at this
  omega
theorem map_u8_inj : ∀ {xs ys : List Int}, (∀ x ∈ xs, inR .u8 x) → (∀ y ∈ ys, inR .u8 y) → (xs.map fun n => UInt8.ofNat n.toNat) = ys.map (fun n => UInt8.ofNat n.toNat) → xs = ys
  | [], [], _, _, _ => rfl
  | [], _ :: _, _, _, e => by simp at e
  | _ :: _, [], _, _, e => by simp at e
  | x :: xs, y :: ys, h1, h2, e => by
    simp only [List.map_cons, List.cons.injEq] at e
    rw [u8_inj (h1 x (by simp)) (h2 y (by simp)) e.1, map_u8_inj (fun z hz => h1 z (by simp [hz])) (fun z hz => h2 z (by simp [hz])) e.2]
theorem strOf_toList (xs : List Int) : (strOfNums xs).toList = xs.map fun n => UInt8.ofNat n.toNat := by
  rw [ByteArray.toList_eq]
  exact strOfNums_data xs
theorem od_seq {t t' : TypeId} {x y : Operand} {xs ys : List Int} (hx : Ev L x (.string (strOfNums xs))) (hy : Ev L y (.string (strOfNums ys))) (h1 : ∀ x ∈ xs, inR .u8 x) (h2 : ∀ y ∈ ys, inR .u8 y) :
    OP P C ⟨dst, .binOp .eql t x y t', ty, pos, after, gd⟩ L H h (.bool (decide (xs = ys))) :=
  od_pure fun ρ w hρ _ => by
    have e1 := hρ x (by simp [Op.operands]) _ hx
    have e2 := hρ y (by simp [Op.operands]) _ hy
    have : ((strOfNums xs).toList == (strOfNums ys).toList) = decide (xs = ys) := by
      rw [strOf_toList, strOf_toList]
      by_cases e : xs = ys
      · subst e; simp
      · rw [decide_eq_false e]
        exact beq_eq_false_iff_ne.2 fun e' => e (map_u8_inj h1 h2 e')
    simp [execOp, e1, e2, eqGuard, binOp, Op.stringOp, this]
theorem od_sne {t t' : TypeId} {x y : Operand} {xs ys : List Int} (hx : Ev L x (.string (strOfNums xs))) (hy : Ev L y (.string (strOfNums ys))) (h1 : ∀ x ∈ xs, inR .u8 x) (h2 : ∀ y ∈ ys, inR .u8 y) :
    OP P C ⟨dst, .binOp .neq t x y t', ty, pos, after, gd⟩ L H h (.bool (decide (xs ≠ ys))) :=
  od_pure fun ρ w hρ _ => by
    have e1 := hρ x (by simp [Op.operands]) _ hx
    have e2 := hρ y (by simp [Op.operands]) _ hy
    have : ((strOfNums xs).toList == (strOfNums ys).toList) = decide (xs = ys) := by
      rw [strOf_toList, strOf_toList]
      by_cases e : xs = ys
      · subst e; simp
      · rw [decide_eq_false e]
        exact beq_eq_false_iff_ne.2 fun e' => e (map_u8_inj h1 h2 e')
    simp [execOp, e1, e2, eqGuard, binOp, Op.stringOp, this]
def ltB : List Int → List Int → Bool
  | _, [] => false
  | [], _ :: _ => true
  | a :: x, b :: y => decide (a < b) || (decide (a = b) && ltB x y)
theorem ltB_eq : ∀ {xs ys : List Int}, (∀ x ∈ xs, inR .u8 x) → (∀ y ∈ ys, inR .u8 y) → Op.bytesLess (xs.map fun n => UInt8.ofNat n.toNat) (ys.map fun n => UInt8.ofNat n.toNat) = ltB xs ys
  | [], [], _, _ => rfl
  | [], _ :: _, _, _ => rfl
  | _ :: _, [], _, _ => rfl
  | x :: xs, y :: ys, h1, h2 => by
    have ih := ltB_eq (fun z hz => h1 z (List.mem_cons_of_mem _ hz)) (fun z hz => h2 z (List.mem_cons_of_mem _ hz)) (xs := xs) (ys := ys)
    have hx := h1 x (by simp)
    have hy := h2 y (by simp)
    have e1 : decide (UInt8.ofNat x.toNat < UInt8.ofNat y.toNat) = decide (x < y) := by
      simp only [inR] at hx hy
      rw [decide_eq_decide, UInt8.lt_iff_toNat_lt]
      simp
      omega
    have e2 : (UInt8.ofNat x.toNat == UInt8.ofNat y.toNat) = decide (x = y) := by
      by_cases e : x = y
      · subst e; simp
      · rw [decide_eq_false e]
        exact beq_eq_false_iff_ne.2 fun e' => e (u8_inj hx hy e')
    simp only [List.map_cons, Op.bytesLess, ltB, ih, e1, e2]
theorem od_slt {t t' : TypeId} {x y : Operand} {xs ys : List Int} (hx : Ev L x (.string (strOfNums xs))) (hy : Ev L y (.string (strOfNums ys))) (h1 : ∀ x ∈ xs, inR .u8 x) (h2 : ∀ y ∈ ys, inR .u8 y) :
    OP P C ⟨dst, .binOp .lss t x y t', ty, pos, after, gd⟩ L H h (.bool (ltB xs ys)) :=
  od_pure fun ρ w hρ _ => by
    have e1 := hρ x (by simp [Op.operands]) _ hx
    have e2 := hρ y (by simp [Op.operands]) _ hy
    have := ltB_eq h1 h2
    rw [← strOf_toList, ← strOf_toList] at this
    simp [execOp, e1, e2, eqGuard, binOp, Op.stringOp, this]
theorem od_slen {x : Operand} {t : TypeId} [TStr P t] {xs : List Int} (hx : Ev L x (.string (strOfNums xs))) : OP P C ⟨dst, .call ⟨.builtin .len, #[x], #[t]⟩, ty, pos, after, gd⟩ L H h (.int .i64 xs.length) :=
  od_pure fun ρ w hρ _ => by
    have e1 := hρ x (by simp [Op.operands, Call.operands]) _ hx
    have hu := TStr.eq (P := P) (t := t)
    simp [execOp, resolve, e1, invoke, builtin, Builtin.len_, run_underlying hu, goInt, strOfNums_size]

/-! ### Rows of the call's own, by index -/
theorem row_ptr {p : Option Addr} {n c : Nat} {e : TypeId} {sz : Nat} {xs : List Value} {l : List Blk} (hr : row p n c e sz xs l) (hn : 0 < n) : p = some ⟨pb p, 0, none⟩ := by
  obtain ⟨_, _, hr⟩ := hr
  rcases hr with ⟨_, h0, _⟩ | ⟨b, sp, h1, _⟩
  · omega
  · subst h1; rfl
theorem HMem.ptr {p : Option Addr} {n c : Nat} {e : TypeId} {sz : Nat} {xs : List Value} (hm : HMem H (row p n c e sz xs)) {w : World} (hw : SS C H h w) (hn : 0 < n) : p = some ⟨pb p, 0, none⟩ := by
  obtain ⟨Hx, h', _, l, he, _⟩ := hw
  obtain ⟨l1, hr, _⟩ := (hm.more Hx).ents he
  exact row_ptr hr hn
theorem od_indexR {t e e' : TypeId} {sz : Nat} {g : Bool} [TSl P t e] [TI P e sz g] {x y : Operand} {k : IntKind} {p : Option Addr} {n c i : Nat} {m : Int} {xs : List Value} (hx : Ev L x (.slice p n c)) (hy : Ev L y (.int k m)) (hmem : HMem H (row p n c e' sz xs)) (hm : m = (i : Int)) (hi : i < n) :
    OP P C ⟨dst, .indexAddr t x y, ty, pos, after, gd⟩ L H h (.pointer (some ⟨pb p, i * sz, none⟩)) :=
  od_pure fun ρ w hρ hw => by
    have hp := hmem.ptr hw (by omega)
    have hp' : p = some ⟨pb p, po p, none⟩ := by rw [hp]; rfl
    have := (od_index (P := P) (C := C) (L := L) (H := H) (h := h) (dst := dst) (ty := ty) (pos := pos) (after := after) (gd := gd) (t := t) hx hy hm hi hp').run ρ w hρ hw
    have h0 : po p = 0 := by rw [hp]; rfl
    rw [h0, Nat.zero_add] at this
    exact this
theorem HMem.cell {p : Option Addr} {n c : Nat} {e : TypeId} {sz : Nat} {xs : List Value} (hm : HMem H (row p n c e sz xs)) {w : World} (hw : SS C H h w) {j : Nat} {v : Value} (hv : xs[j]? = some v) : w.cell? ⟨pb p, j, none⟩ = some v := by
  have hs := (Src.row (h := h) hm).wS hw
  have hn : 0 < n := by
    rcases Nat.eq_zero_or_pos n with e0 | e0
    · subst e0
      have := hs.1
      simp at this
      subst this
      simp at hv
    · exact e0
  have hp := hm.ptr hw hn
  have := hs.2.2 _ hp j v hv
  rwa [addr_add, Nat.zero_add] at this
theorem od_load_oner {t : TypeId} {x : Operand} {off : Nat} {p : Option Addr} {n c sz : Nat} {e : TypeId} {xs : List Value} {v : Value} [TI P t 1 false] (hx : Ev L x (.pointer (some ⟨pb p, off, none⟩))) (hm : HMem H (row p n c e sz xs)) (hv : xs[off]? = some v) :
    OP P C ⟨dst, .load t x, ty, pos, after, gd⟩ L H h v :=
  od_pure fun ρ w hρ hw => by
    have e1 := hρ x (by simp [Op.operands]) _ hx
    have := run_loadAt_cells (P := P) (t := t) (b := pb p) (off := off) (w := w) (vs := [v]) (fun j u hj => by
      match j, hj with
      | 0, hj =>
        simp at hj
        subst hj
        rw [addr_add]
        exact hm.cell hw hv
      | j + 1, hj => simp at hj) rfl (.inr rfl)
    simp [execOp, e1, this]
theorem od_load_aggr {t : TypeId} {x : Operand} {off m : Nat} {p : Option Addr} {n c sz : Nat} {e : TypeId} {xs vs : List Value} [TI P t m true] (hx : Ev L x (.pointer (some ⟨pb p, off, none⟩))) (hm : HMem H (row p n c e sz xs)) (hv : (xs.drop off).take m = vs) (hn : vs.length = m) :
    OP P C ⟨dst, .load t x, ty, pos, after, gd⟩ L H h (.agg vs.toArray) :=
  od_pure fun ρ w hρ hw => by
    have e1 := hρ x (by simp [Op.operands]) _ hx
    have := run_loadAt_cells (P := P) (t := t) (b := pb p) (off := off) (w := w) (vs := vs) (fun j u hj => by
      rw [addr_add]
      refine hm.cell hw ?_
      rw [← hv, List.getElem?_take] at hj
      split at hj
      · rwa [List.getElem?_drop] at hj
      · cases hj) hn (.inl rfl)
    simp [execOp, e1, this]
theorem hd_storeR {T : TypeId} {x y : Operand} {off m : Nat} {v : Value} {p : Option Addr} {n c sz : Nat} {e : TypeId} {xs xs' vs : List Value} {g : Bool} [TI P T m g] (hx : Ev L x (.pointer (some ⟨pb p, off, none⟩))) (hy : Ev L y v) (hvs : v.cells = vs.toArray)
    (hpk : Pick H (row p n c e sz xs) H') (hn : vs.length = m) (hle : off + vs.length ≤ xs.length) (hpos : 0 < n) (hone : vs.all (·.oneCell') = true) (hxs : spl xs off vs = xs') (next : Hd C N L (row p n c e sz xs' :: H') h (wpList P ops Q rest)) :
    Hd C N L H h (wpList P ops Q (⟨none, .store T x y, ty, pos, after, none⟩ :: rest)) := by
  refine ⟨fun a w ha hw => ?_⟩
  have e1 := hx.eval ha
  have e2 := hy.eval ha
  have hsz := run_sz (TI.sz (P := P) (t := T)) w
  have hw1 := hw.pick hpk
  have hp : p ≠ none := by
    have := HMem.ptr (C := C) (h := h) (w := w) (HMem.here (e := row p n c e sz xs) (H := H')) (.of hw1) hpos
    rw [this]; simp
  obtain ⟨b, sp, rfl, h1, h2, h3, hbx⟩ := hw1.row_box hp
  have hgb := (HGet.here (b := b) (cs := xs ++ sp) (t := e) (H := H')).block hbx
  obtain ⟨w', hst, htn⟩ := run_storeCells (P := P) b e off vs 0 (xs ++ sp) w hgb (by simp; omega) hone
  have hsp : spl (xs ++ sp) off vs = xs' ++ sp := by
    rw [← hxs]
    unfold spl
    rw [List.take_append_of_le_length (by omega), List.drop_append_of_le_length (by omega)]
    simp
  rw [Nat.add_zero, hsp] at htn
  have hl' : xs'.length = xs.length := by rw [← hxs]; exact length_spl hle
  simp only [wpList]
  rw [if_pos (by simp [Region.wanted])]
  have hrun : (execOp a.eval ⟨none, .store T x y, ty, pos, after, none⟩).run P w = .ok .skip w' := by
    simp only [execOp, e1, e2, Instr.storeAt, Instr.sureAddr, storeVar, Sem.run_bind, Sem.run_pure, Result.andThen_ok, hsz, hvs, pb]
    simp [hn, hst]
  unfold opw
  rw [hrun]
  refine next.all _ _ ha (Inv.box_row (by rw [hl', h1]) h2 ?_ (hbx.turned HSet.here htn))
  rw [List.length_append, hl', ← List.length_append]; exact h3

/-! ### Handing out -/
theorem hd_pubbox {R : Act → World → Prop} {b : Nat} {cs : List Value} {t : TypeId} (hpk : Pick H (box b cs t) H') (next : ∀ h', h.le h' → Pub h' b 0 cs → Hd C N L H' h' R) : Hd C N L H h R := by
  refine ⟨fun a w ha hw => ?_⟩
  obtain ⟨hle, hi⟩ := Inv.publish1 (hw.pick hpk)
  exact (next _ hle ⟨cs.toArray, t, (0, 0), by simp [PH.add], fun j v hv => by simpa using hv⟩).all a w ha hi
theorem SpecM.turn {f : FuncId} {args : Array Value} {Hi : List HE} {A B : Value → PH → List HE → Prop} (s : SpecM P f args h Hi A) (ab : ∀ C v h' Ho w, A v h' Ho → Inv C Ho h' w → ∃ h'' Ho', B v h'' Ho' ∧ Inv C Ho' h'' w) : SpecM P f args h Hi B :=
  fun w l he hs => (s w l he hs).mono fun _ w' ⟨v, h', Ho, e, p, i⟩ => by
    obtain ⟨h'', Ho', p', i'⟩ := ab _ v h' Ho w' p i
    exact ⟨v, h'', Ho', e, p', i'⟩
end
/-- Cells of bytes. -/
def by8 (bs : List Int) : List Value := bs.map (Value.int .u8)
def el8 (bs : List Int) : List (List Value) := bs.map fun b => [.int .u8 b]
theorem el8_flat (bs : List Int) : (el8 bs).flatten = by8 bs := by
  induction bs with
  | nil => rfl
  | cons b bs ih => simp only [el8, List.map_cons, List.flatten_cons] at ih ⊢; rw [ih]; rfl
theorem by8_append (a b : List Int) : by8 (a ++ b) = by8 a ++ by8 b := List.map_append
theorem by8_one (a : List Int) : (by8 a).all (·.oneCell') = true := by
  simp [by8]; intro x _; rfl
theorem by8_len (a : List Int) : (by8 a).length = a.length := List.length_map _
end Go.GV
