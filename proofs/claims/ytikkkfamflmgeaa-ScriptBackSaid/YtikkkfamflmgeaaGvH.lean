/- Slices in shared memory, over the small logic of GvA to GvG. -/
import Derived.Test.YtikkkfamflmgeaaGvG
namespace Go.GV
open Go

/-- The cells 'cs' lie in shared memory from (b, off) on. -/
def Pub (h : PH) (b off : Nat) (cs : List Value) : Prop := ∃ arr t fr, h b = some (.cells arr t fr) ∧ ∀ j v, cs[j]? = some v → arr[off + j]? = some v
theorem Pub.mono {h h' : PH} {b off : Nat} {cs : List Value} (hp : Pub h b off cs) (hl : h.le h') : Pub h' b off cs := by
  obtain ⟨arr, t, fr, e, hc⟩ := hp
  exact ⟨arr, t, fr, hl b _ e, hc⟩
theorem Pub.drop {h : PH} {b off : Nat} {cs : List Value} (hp : Pub h b off cs) (k : Nat) : Pub h b (off + k) (cs.drop k) := by
  obtain ⟨arr, t, fr, e, hc⟩ := hp
  refine ⟨arr, t, fr, e, fun j v hv => ?_⟩
  rw [List.getElem?_drop] at hv
  rw [Nat.add_assoc]
  exact hc _ v hv
theorem Pub.take {h : PH} {b off : Nat} {cs : List Value} (hp : Pub h b off cs) (k : Nat) : Pub h b off (cs.take k) := by
  obtain ⟨arr, t, fr, e, hc⟩ := hp
  refine ⟨arr, t, fr, e, fun j v hv => ?_⟩
  rw [List.getElem?_take] at hv
  split at hv
  · exact hc _ v hv
  · cases hv
theorem Pub.cell {C : Ctx} {H : List HE} {h : PH} {w : World} {b off : Nat} {cs : List Value} (hp : Pub h b off cs) (hw : SS C H h w) {j : Nat} {v : Value} (hv : cs[j]? = some v) : w.cell? ((⟨b, off, none⟩ : Addr).add j) = some v := by
  obtain ⟨arr, t, fr, e, hc⟩ := hp
  obtain ⟨Hx, h', hl, l, _, hs, _⟩ := hw
  have hb := hs.pub b _ (hl b _ e)
  have := hc j v hv
  unfold Addr.add
  split
  · rename_i e0; subst e0; simpa [World.cell?, hb] using this
  · simpa [World.cell?, hb] using this
theorem run_loadAt_cells {P : Program} {t : TypeId} {n : Nat} {g : Bool} [TI P t n g] {w : World} {b off : Nat} {vs : List Value} (hcell : ∀ j v, vs[j]? = some v → w.cell? ((⟨b, off, none⟩ : Addr).add j) = some v) (hn : vs.length = n) (hg : g = true ∨ n = 1) :
    (Instr.loadAt t (.pointer (some ⟨b, off, none⟩))).run P w = .ok (if g then .agg vs.toArray else vs.getD 0 undef) w := by
  have hsz := run_sz (TI.sz (P := P) (t := t)) w
  have hag := run_agg (TI.ag (P := P) (t := t)) w
  simp only [Instr.loadAt, Instr.sureAddr, loadVar, Sem.run_bind, Sem.run_pure, Result.andThen_ok, hag]
  cases g with
  | true =>
    simp only [if_true, Sem.run_bind, hsz, Result.andThen_ok]
    have := run_loadCells_list (P := P) (w := w) ⟨b, off, none⟩ vs hcell
    rw [hn] at this
    simp [this]
  | false =>
    have h1 : n = 1 := by simpa using hg
    subst h1
    match vs, hn with
    | [v], _ =>
      have := hcell 0 v rfl
      have e0 : (⟨b, off, none⟩ : Addr).add 0 = ⟨b, off, none⟩ := rfl
      rw [e0] at this
      simp [load, Sem.run, this]

/-- A slice in shared memory: its elements' cells. -/
structure Sl (h : PH) (sz : Nat) (p : Option Addr) (n c : Nat) (xs : List (List Value)) : Prop where
  len : xs.length = n
  cap : n ≤ c
  top : n ≤ 9223372036854775807
  each : ∀ x ∈ xs, x.length = sz
  cells : xs ≠ [] → ∃ b off, p = some ⟨b, off, none⟩ ∧ Pub h b off xs.flatten
def pb : Option Addr → Nat
  | some a => a.block
  | none => 0
def po : Option Addr → Nat
  | some a => a.off
  | none => 0
theorem Sl.mono {h h' : PH} {sz : Nat} {p : Option Addr} {n c : Nat} {xs : List (List Value)} (hs : Sl h sz p n c xs) (hl : h.le h') : Sl h' sz p n c xs :=
  ⟨hs.len, hs.cap, hs.top, hs.each, fun hne => let ⟨b, off, e, hp⟩ := hs.cells hne; ⟨b, off, e, hp.mono hl⟩⟩
theorem Sl.nil (h : PH) (sz : Nat) : Sl h sz none 0 0 [] := ⟨rfl, Nat.le_refl _, by omega, by simp, fun e => absurd rfl e⟩
theorem Sl.ptr {h : PH} {sz : Nat} {p : Option Addr} {n c : Nat} {xs : List (List Value)} (hs : Sl h sz p n c xs) (hn : 0 < n) : p = some ⟨pb p, po p, none⟩ := by
  obtain ⟨b, off, e, _⟩ := hs.cells (by rintro rfl; have := hs.len; simp at this; omega)
  subst e; rfl
theorem flatten_at {sz : Nat} : ∀ {xs : List (List Value)} (_ : ∀ x ∈ xs, x.length = sz) {i : Nat} {x : List Value}, xs[i]? = some x → (xs.flatten.drop (i * sz)).take sz = x
  | [], _, i, x, hx => by simp at hx
  | y :: ys, he, 0, x, hx => by
    have hy := he y (by simp)
    simp at hx
    subst hx
    simp [← hy]
  | y :: ys, he, i + 1, x, hx => by
    have hy := he y (by simp)
    have ih := flatten_at (sz := sz) (xs := ys) (fun z hz => he z (by simp [hz])) (i := i) (x := x) (by simpa using hx)
    rw [List.flatten_cons, show (i + 1) * sz = y.length + i * sz by rw [hy, Nat.add_mul]; omega, ← List.drop_drop, List.drop_left]
    exact ih
theorem Sl.at {h : PH} {sz : Nat} {p : Option Addr} {n c : Nat} {xs : List (List Value)} (hs : Sl h sz p n c xs) {i : Nat} {x : List Value} (hx : xs[i]? = some x) : Pub h (pb p) (po p + i * sz) x := by
  obtain ⟨b, off, e, hp⟩ := hs.cells (by rintro rfl; simp at hx)
  subst e
  have := (hp.drop (i * sz)).take sz
  rw [flatten_at hs.each hx] at this
  exact this
theorem Sl.at_map {α : Type} {f : α → List Value} {h : PH} {sz : Nat} {p : Option Addr} {n c : Nat} {xs : List α} (hs : Sl h sz p n c (xs.map f)) {i : Nat} {x : α} (hx : xs[i]? = some x) : Pub h (pb p) (po p + i * sz) (f x) :=
  hs.at (by simp [hx])

/-- A part of a slice. -/
def subp (p : Option Addr) (c lo sz : Nat) : Option Addr := if c = lo then p else p.map (·.add (lo * sz))
theorem flatten_take {sz : Nat} : ∀ {xs : List (List Value)} (_ : ∀ x ∈ xs, x.length = sz) (k : Nat), (xs.take k).flatten = xs.flatten.take (k * sz)
  | [], _, k => by simp
  | y :: ys, he, 0 => by simp
  | y :: ys, he, k + 1 => by
    have hy := he y (by simp)
    have ih := flatten_take (sz := sz) (xs := ys) (fun z hz => he z (by simp [hz])) k
    rw [List.take_succ_cons, List.flatten_cons, List.flatten_cons, ih, List.take_append, hy, show (k + 1) * sz - sz = k * sz by rw [Nat.add_mul]; omega]
    rw [List.take_of_length_le (i := (k + 1) * sz) (l := y) (by rw [hy, Nat.add_mul]; omega)]
theorem flatten_drop {sz : Nat} : ∀ {xs : List (List Value)} (_ : ∀ x ∈ xs, x.length = sz) (k : Nat), (xs.drop k).flatten = xs.flatten.drop (k * sz)
  | [], _, k => by simp
  | y :: ys, he, 0 => by simp
  | y :: ys, he, k + 1 => by
    have hy := he y (by simp)
    have ih := flatten_drop (sz := sz) (xs := ys) (fun z hz => he z (by simp [hz])) k
    rw [List.drop_succ_cons, List.flatten_cons, ih, show (k + 1) * sz = y.length + k * sz by rw [hy, Nat.add_mul]; omega, ← List.drop_drop, List.drop_left]
theorem Sl.sub {h : PH} {sz : Nat} {p : Option Addr} {n c : Nat} {xs : List (List Value)} (hs : Sl h sz p n c xs) {lo hi : Nat} (h1 : lo ≤ hi) (h2 : hi ≤ n) : Sl h sz (subp p c lo sz) (hi - lo) (c - lo) ((xs.take hi).drop lo) := by
  have hcap := hs.cap
  have htop := hs.top
  have hlen := hs.len
  refine ⟨by simp; omega, by omega, by omega, fun x hx => hs.each x (List.mem_of_mem_take (List.mem_of_mem_drop hx)), fun hne => ?_⟩
  have hlt : lo < hi := by
    rcases Nat.lt_or_ge lo hi with h' | h'
    · exact h'
    · exact absurd (by rw [List.drop_eq_nil_iff]; simp; omega) hne
  have hne' : xs ≠ [] := by rintro rfl; simp at hne
  obtain ⟨b, off, e, hp⟩ := hs.cells hne'
  subst e
  refine ⟨b, off + lo * sz, ?_, ?_⟩
  · unfold subp
    rw [if_neg (by omega)]
    simp only [Option.map_some, Option.some.injEq]
    unfold Addr.add
    split
    · rename_i e0; rw [e0]; rfl
    · rfl
  · rw [flatten_drop (fun x hx => hs.each x (List.mem_of_mem_take hx)), flatten_take hs.each]
    exact (hp.take (hi * sz)).drop (lo * sz)

section
variable {ρ : Option Nat} {P : Program} {C : Ctx} {N : Fr} {L : En} {H : List HE} {h : PH} {dst : Option Tmp} {ty : TypeId} {pos : String} {after : Array Edge} {gd : Option (Nat × Bool)}

theorem od_load_aggp {t : TypeId} {n : Nat} {x : Operand} {b off : Nat} {cs vs : List Value} [TI P t n true] (hx : Ev L x (.pointer (some ⟨b, off, none⟩))) (hp : Pub h b off cs) (hv : Nf (cs.take n) vs) (hn : vs.length = n) :
    OP P C ⟨dst, .load t x, ty, pos, after, gd⟩ L H h (.agg vs.toArray) :=
  od_pure fun ρ w hρ hw => by
    have e1 := hρ x (by simp [Op.operands]) _ hx
    have := run_loadAt_cells (P := P) (t := t) (b := b) (off := off) (w := w) (vs := vs) (fun j v hj => by
      refine (hp.take n).cell hw ?_
      rw [hv.eq]; exact hj) hn (.inl rfl)
    simp [execOp, e1, this]
theorem od_load_onep {t : TypeId} {x : Operand} {b o k off : Nat} {cs : List Value} {v : Value} [TI P t 1 false] (hx : Ev L x (.pointer (some ⟨b, off, none⟩))) (hp : Pub h b o cs) (ho : o + k = off) (hv : cs[k]? = some v) :
    OP P C ⟨dst, .load t x, ty, pos, after, gd⟩ L H h v :=
  od_pure fun ρ w hρ hw => by
    have e1 := hρ x (by simp [Op.operands]) _ hx
    subst ho
    have := run_loadAt_cells (P := P) (t := t) (b := b) (off := o + k) (w := w) (vs := [v]) (fun j u hj => by
      match j, hj with
      | 0, hj =>
        simp at hj
        subst hj
        refine (hp.drop k).cell hw (j := 0) ?_
        rw [List.getElem?_drop]; simpa using hv
      | j + 1, hj => simp at hj) rfl (.inr rfl)
    simp [execOp, e1, this]
theorem addr_add (b off k : Nat) : (⟨b, off, none⟩ : Addr).add k = ⟨b, off + k, none⟩ := by unfold Addr.add; split <;> simp_all
theorem od_index {t e : TypeId} {sz : Nat} {g : Bool} [TSl P t e] [TI P e sz g] {x y : Operand} {k : IntKind} {p : Option Addr} {n c i : Nat} {m : Int} (hx : Ev L x (.slice p n c)) (hy : Ev L y (.int k m)) (hm : m = (i : Int)) (hi : i < n) (hp : p = some ⟨pb p, po p, none⟩) :
    OP P C ⟨dst, .indexAddr t x y, ty, pos, after, gd⟩ L H h (.pointer (some ⟨pb p, po p + i * sz, none⟩)) :=
  od_pure fun ρ w hρ hw => by
    have e1 := hρ x (by simp [Op.operands]) _ hx
    have e2 := hρ y (by simp [Op.operands]) _ hy
    have hu := TSl.eq (P := P) (t := t)
    have hsz := run_sz (TI.sz (P := P) (t := e)) w
    subst hm
    rw [hp] at e1
    have hc1 : (0 : Int) ≤ (i : Int) ∧ (i : Int) < (n : Int) := by omega
    simp only [execOp, e1, e2, Instr.indexAt, asIntOf, Sem.run_bind, Sem.run_pure, Result.andThen_ok, run_underlying hu]
    rw [if_pos hc1]
    simp only [Sem.run_bind, hsz, Result.andThen_ok, Sem.run_pure, Int.toNat_natCast, addr_add]
/-- The bounds of a part. -/
inductive Bd (L : En) : Option Operand → Nat → Nat → Prop
  | none {d : Nat} : Bd L none d d
  | some {x : Operand} {k : IntKind} {m : Int} {d i : Nat} (hx : Ev L x (.int k m)) (hm : m = (i : Int)) : Bd L (some x) d i
theorem Bd.run {x : Option Operand} {d i y : Nat} (hb : Bd L x d i) {ρ : Operand → Value} (hρ : ∀ z ∈ x.toList, ∀ u, Ev L z u → ρ z = u) (hi : i ≤ y) (cd : BoundsCode) (w : World) :
    (match x.map ρ with | Option.some v => Instr.sliceBound v y cd | Option.none => pure d : Sem Nat).run P w = .ok i w := by
  cases hb with
  | none => simp
  | some hx hm =>
    rename_i z k m
    have e := hρ z (by simp) _ hx
    subst hm
    have hc : (0 : Int) ≤ (i : Int) ∧ (i : Int) ≤ (y : Int) := by omega
    simp only [Option.map_some, e, Instr.sliceBound, asIntOf, Sem.run_bind, Sem.run_pure, Result.andThen_ok]
    rw [if_pos hc]
    simp
theorem od_slice {t e : TypeId} {sz : Nat} {g : Bool} [TSl P t e] [TI P e sz g] {x : Operand} {lo hi : Option Operand} {p : Option Addr} {n c l r : Nat} (hx : Ev L x (.slice p n c)) (hlo : Bd L lo 0 l) (hhi : Bd L hi n r) (h1 : l ≤ r) (h2 : r ≤ c) :
    OP P C ⟨dst, .slice t x lo hi none, ty, pos, after, gd⟩ L H h (.slice (subp p c l sz) (r - l) (c - l)) :=
  od_pure fun ρ w hρ hw => by
    have e1 := hρ x (by simp [Op.operands]) _ hx
    have hu := TSl.eq (P := P) (t := t)
    have hsz := run_sz (TI.sz (P := P) (t := e)) w
    have b1 : ∀ z ∈ lo.toList, ∀ u, Ev L z u → ρ z = u := fun z hz u hu => hρ z (by simp only [Op.operands]; cases lo <;> simp_all) u hu
    have b2 : ∀ z ∈ hi.toList, ∀ u, Ev L z u → ρ z = u := fun z hz u hu => hρ z (by simp only [Op.operands]; cases hi <;> simp_all) u hu
    have rlo := hlo.run (P := P) b1 h1 .sliceB w
    have rhi := hhi.run (P := P) b2 h2 .sliceAcap w
    have hb : (Instr.sliceBounds true n c (lo.map ρ) (hi.map ρ) none).run P w = .ok (l, r, c) w := by
      unfold Instr.sliceBounds
      cases hi with
      | none =>
        cases hhi
        cases lo with
        | none => cases hlo; simp
        | some z => simp only [Option.map_some] at rlo; simp [rlo]
      | some y =>
        simp only [Option.map_some] at rhi
        cases lo with
        | none => cases hlo; simp [rhi]
        | some z =>
          simp only [Option.map_some] at rlo
          simp [rhi, rlo]
    simp only [execOp, e1, Instr.sliceAt, Option.map_none]
    simp only [Instr.slice, Sem.run_bind, run_underlying hu, Result.andThen_ok, hb, hsz, Sem.run_pure, subp]
end
end Go.GV
