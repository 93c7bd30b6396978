/- Slices of the call's own: make, append, copy, literals; and how they are handed out; over the small logic of GvA to GvI. -/
import Derived.Test.YtikkkfamflmgeaaGvI
namespace Go.GV
open Go

class TEl (P : Program) (t : TypeId) (e : outParam TypeId) (sz bt : outParam Nat) : Prop where
  sl : P.underlying t = some (.slice e)
  sz : (P.info? e).map (·.size) = some sz
  bt : (P.info? e).map (·.bytes) = some bt

/-- A row of the call's own: 'n' elements, the cells 'xs', room for 'c'. -/
def row (p : Option Addr) (n c : Nat) (e : TypeId) (sz : Nat) (xs : List Value) : HE := fun l =>
  xs.length = n * sz ∧ n ≤ c ∧ ((p = none ∧ n = 0 ∧ c = 0 ∧ l = []) ∨ ∃ b sp, p = some ⟨b, 0, none⟩ ∧ (xs ++ sp).length = c * sz ∧ l = [(b, .cells (xs ++ sp).toArray e (0, 0))])

/-- Where the cells of a source lie. -/
def SrcW (w : World) (q : Option Addr) (m sz : Nat) (ys : List Value) : Prop :=
  ys.length = m * sz ∧ (q = none → ys = []) ∧ ∀ a, q = some a → ∀ j v, ys[j]? = some v → w.cell? (a.add j) = some v
theorem run_first {P : Program} {w : World} {q : Option Addr} {m d sz : Nat} {ys : List Value} (hs : SrcW w q m sz ys) : (Builtin.firstCells sz m (.slice q m d)).run P w = .ok ys.toArray w := by
  obtain ⟨hl, hn, hc⟩ := hs
  cases q with
  | none => rw [hn rfl]; simp [Builtin.firstCells]
  | some a =>
    have := run_loadCells_list (P := P) (w := w) a ys (hc a rfl)
    rw [hl] at this
    simp [Builtin.firstCells, this]
theorem next_le (need c : Nat) (hn : c < need) : Builtin.nextslicecap need c ≤ 2 * need := by
  unfold Builtin.nextslicecap
  split
  · omega
  · split
    · omega
    · unfold Builtin.growBy
      split
      · omega
      · unfold Builtin.growBy
        split
        · omega
        · unfold Builtin.growBy
          split
          · omega
          · unfold Builtin.growBy
            split
            · omega
            · unfold Builtin.growBy; omega

section
variable {ρ : Option Nat} {P : Program}
theorem run_append_room {t t' e ty : TypeId} {sz bt : Nat} [TEl P t e sz bt] (ht' : ∃ e', P.underlying t' = some (.slice e')) {w : World} {p q : Option Addr} {n c m d : Nat} {ys : List Value} (hs : SrcW w q m sz ys) (hroom : n + m ≤ c) :
    (Builtin.append_ #[t, t'] ty #[.slice p n c, .slice q m d]).run P w = (match p with | some a => (storeCells (a.add (n * sz)) ys).run P w | none => .ok () w).andThen fun _ w' => .ok (.slice p (n + m) c) w' := by
  obtain ⟨e', ht'⟩ := ht'
  have hu := TEl.sl (P := P) (t := t)
  have hsz := run_sz (TEl.sz (P := P) (t := t)) w
  have hf := run_first (P := P) (d := d) hs
  unfold Builtin.append_
  simp only [List.getElem?_toArray, List.getElem?_cons_zero, List.getElem?_cons_succ]
  simp [run_underlying hu, run_underlying ht', hsz, Builtin.lenOf, hroom, hf]
  cases p <;> simp
theorem run_append_grow {t t' e ty : TypeId} {sz bt : Nat} {z : List Value} [TEl P t e sz bt] [TZero P e z] (ht' : ∃ e', P.underlying t' = some (.slice e')) {w : World} {p q : Option Addr} {n c m d : Nat} {xs ys : List Value} (ho : SrcW w p n sz xs) (hs : SrcW w q m sz ys) (hroom : c < n + m) (hb : (n + m) * bt ≤ 140737488355328) (hm : n + m ≤ 9223372036854775807)
    (hz : z.length = sz) : ∃ (cap : Nat) (sp : List Value), n + m ≤ cap ∧ sp.length = (cap - (n + m)) * sz ∧
      (Builtin.append_ #[t, t'] ty #[.slice p n c, .slice q m d]).run P w = .ok (.slice (some ⟨w.heap.size, 0, none⟩) (n + m) cap) ({ w with drawn := w.drawn + 1 }.alloc (.cells (xs ++ ys ++ sp).toArray e (0, 0))) := by
  obtain ⟨e', ht'⟩ := ht'
  have hu := TEl.sl (P := P) (t := t)
  have hszE := TEl.sz (P := P) (t := t)
  have hbtE := TEl.bt (P := P) (t := t)
  cases hi : P.info? e with
  | none => simp [hi] at hszE
  | some i =>
    simp [hi] at hszE hbtE
    obtain ⟨zv, hzr, hzc⟩ := run_zero (P := P) (t := e) w
    have hzz : i.zero = some zv := by
      simp only [zeroValue, typeInfo, Sem.run_bind, run_program, Result.andThen_ok, hi, Sem.run_pure] at hzr
      cases hq : i.zero with
      | none => rw [hq] at hzr; simp [unsupported] at hzr
      | some v => rw [hq] at hzr; simp at hzr; rw [hzr]
    let w1 : World := { w with drawn := w.drawn + 1 }
    have c1 : ∀ a, w1.cell? a = w.cell? a := fun a => rfl
    have fo := run_first (P := P) (w := w1) (d := c) (q := p) (m := n) (sz := sz) (ys := xs) ⟨ho.1, ho.2.1, fun a ha j v hv => by rw [c1]; exact ho.2.2 a ha j v hv⟩
    have fs := run_first (P := P) (w := w1) (d := d) (q := q) (m := m) (sz := sz) (ys := ys) ⟨hs.1, hs.2.1, fun a ha j v hv => by rw [c1]; exact hs.2.2 a ha j v hv⟩
    have hnx := next_le (n + m) c hroom
    have hcap : ¬ (Builtin.nextslicecap (n + m) c * bt > 2 ^ 48) := by
      have : Builtin.nextslicecap (n + m) c * bt ≤ 2 * (n + m) * bt := Nat.mul_le_mul_right _ hnx
      have h2 : 2 * (n + m) * bt = 2 * ((n + m) * bt) := by rw [Nat.mul_assoc]
      omega
    let cap := (n + m) + w.tape w.drawn (.appendCap (n + m) c e) % (2 ^ 63 - (n + m))
    refine ⟨cap, (Builtin.zeroCells zv.cells (cap - (n + m))).toList, by omega, ?_, ?_⟩
    · simp [Builtin.zeroCells, hzc, hz]
    · have hint : ¬ (((n + m : Nat) : Int) > IntKind.i64.max) := by simp [IntKind.max, IntKind.signed, IntKind.bits]; omega
      unfold Builtin.append_
      simp only [List.getElem?_toArray, List.getElem?_cons_zero, List.getElem?_cons_succ]
      simp only [Sem.run_bind, run_underlying hu, run_underlying ht', Result.andThen_ok, sizeOf, typeInfo, run_program, hi, Sem.run_pure, Builtin.lenOf, hszE, Bool.false_eq_true, if_false, Nat.not_le.2 hroom, hint, false_and, hbtE, hcap]
      have hch : (choose (.appendCap (n + m) c e)).run P w = .ok cap w1 := by simp [choose, Sem.run, Question.forced, Question.cut, cap, w1]
      have har : (askRoom (cap * bt)).run P w1 = .ok () w1 := by
        unfold askRoom
        split
        · simp [mark, Sem.run]
        · simp
      have hz1 : (zeroValue e).run P w1 = .ok zv w1 := by simp [zeroValue, typeInfo, hi, hzz]
      rw [hch]
      simp only [Result.andThen_ok, har, fo, Bool.not_false, if_true, fs, hz1, newRow, newObj, Sem.run_bind, Sem.run_pure, Sem.run]
      have harr : (xs.toArray ++ ys.toArray ++ Builtin.zeroCells zv.cells (cap - (n + m))) = (xs ++ ys ++ (Builtin.zeroCells zv.cells (cap - (n + m))).toList).toArray := by
        apply Array.ext'
        simp
      rw [harr]
      rfl
end

/-- An entry of the list. -/
inductive HMem : List HE → HE → Prop
  | here {e : HE} {H : List HE} : HMem (e :: H) e
  | there {x e : HE} {H : List HE} (hh : HMem H e) : HMem (x :: H) e
theorem HMem.ents {H : List HE} {e : HE} (hm : HMem H e) : ∀ {l : List Blk}, Ents H l → ∃ l1, e l1 ∧ ∀ x ∈ l1, x ∈ l := by
  induction hm with
  | here => rintro l ⟨l1, l2, rfl, he, _⟩; exact ⟨l1, he, fun x hx => List.mem_append_left _ hx⟩
  | there _ ih =>
    rintro l ⟨l1, l2, rfl, _, he⟩
    obtain ⟨l3, h1, h2⟩ := ih he
    exact ⟨l3, h1, fun x hx => List.mem_append_right _ (h2 x hx)⟩
theorem HMem.more {H : List HE} {e : HE} (hm : HMem H e) : ∀ Hx : List HE, HMem (Hx ++ H) e
  | [] => hm
  | _ :: Hx => .there (hm.more Hx)
/-- Where the cells of a source lie: in shared memory, or in a row of the call's own. -/
inductive Src (H : List HE) (h : PH) : Option Addr → Nat → Nat → List Value → Prop
  | zero {q : Option Addr} {sz : Nat} : Src H h q 0 sz []
  | sl {q : Option Addr} {m c sz : Nat} {xss : List (List Value)} (hs : Sl h sz q m c xss) : Src H h q m sz xss.flatten
  | row {q : Option Addr} {m c sz : Nat} {e : TypeId} {ys : List Value} (hm : HMem H (row q m c e sz ys)) : Src H h q m sz ys
theorem cell_block {w : World} {b : Nat} {cs : List Value} {t : TypeId} {fr : Nat × Nat} (hb : w.heap[b]? = some (.cells cs.toArray t fr)) {j : Nat} {v : Value} (hv : cs[j]? = some v) : w.cell? ((⟨b, 0, none⟩ : Addr).add j) = some v := by
  rw [addr_add, Nat.zero_add]
  simp [World.cell?, hb]; simpa using hv
theorem flatten_length {sz : Nat} : ∀ {xs : List (List Value)}, (∀ x ∈ xs, x.length = sz) → xs.flatten.length = xs.length * sz
  | [], _ => by simp
  | y :: ys, he => by
    have hy := he y (by simp)
    have ih := flatten_length (sz := sz) (xs := ys) (fun z hz => he z (by simp [hz]))
    simp [hy, ih, Nat.add_mul]; omega
theorem Src.w {C : Ctx} {H : List HE} {h : PH} {q : Option Addr} {m sz : Nat} {ys : List Value} (hs : Src H h q m sz ys) {w : World} (hw : Inv C H h w) : SrcW w q m sz ys := by
  cases hs with
  | zero => exact ⟨by simp, fun _ => rfl, fun _ _ j v hv => by simp at hv⟩
  | sl hs =>
    rename_i c xss
    refine ⟨by rw [flatten_length hs.each, hs.len], fun e => ?_, fun a ha j v hv => ?_⟩
    · by_cases hne : xss = []
      · rw [hne]; rfl
      · obtain ⟨b, off, e2, _⟩ := hs.cells hne; rw [e] at e2; cases e2
    · obtain ⟨b, off, e2, hp⟩ := hs.cells (by rintro rfl; simp at hv)
      rw [ha] at e2
      cases e2
      exact hp.cell (SS.of hw) hv
  | row hm =>
    obtain ⟨l, he, hsp, _⟩ := hw
    obtain ⟨l1, ⟨hlen, _, hr⟩, hin⟩ := hm.ents he
    refine ⟨hlen, fun e => ?_, fun a ha j v hv => ?_⟩
    · rcases hr with ⟨_, hn0, _, _⟩ | ⟨b, sp, e2, _⟩
      · subst hn0; simpa using hlen
      · rw [e] at e2; cases e2
    · rcases hr with ⟨e2, _⟩ | ⟨b, sp, e2, _, hl1⟩
      · rw [ha] at e2; cases e2
      · rw [ha] at e2
        cases e2
        have hb := hsp.mem b (.cells (ys ++ sp).toArray _ (0, 0)) (hin _ (by rw [hl1]; exact List.mem_singleton.2 rfl))
        refine cell_block hb ?_
        rw [List.getElem?_append_left (List.getElem?_eq_some_iff.1 hv).1]; exact hv
theorem row_box {p : Option Addr} {n c : Nat} {e : TypeId} {sz : Nat} {xs : List Value} {l : List Blk} (hr : row p n c e sz xs l) (hp : p ≠ none) : ∃ b sp, p = some ⟨b, 0, none⟩ ∧ (xs ++ sp).length = c * sz ∧ box b (xs ++ sp) e l := by
  obtain ⟨_, _, hr⟩ := hr
  rcases hr with ⟨e1, _⟩ | ⟨b, sp, h1, h2, h3⟩
  · exact absurd e1 hp
  · exact ⟨b, sp, h1, h2, h3⟩
theorem Inv.box_row {C : Ctx} {H : List HE} {h : PH} {w : World} {b n c sz : Nat} {xs sp : List Value} {e : TypeId} (h1 : xs.length = n * sz) (h2 : n ≤ c) (h3 : (xs ++ sp).length = c * sz) (hw : Inv C (box b (xs ++ sp) e :: H) h w) : Inv C (row (some ⟨b, 0, none⟩) n c e sz xs :: H) h w := by
  obtain ⟨l, ⟨l1, l2, rfl, hb, he⟩, hs, hc⟩ := hw
  exact ⟨l1 ++ l2, ⟨l1, l2, rfl, ⟨h1, h2, .inr ⟨b, sp, rfl, h3, hb⟩⟩, he⟩, hs, hc⟩
theorem Inv.row_box {C : Ctx} {H : List HE} {h : PH} {w : World} {p : Option Addr} {n c sz : Nat} {xs : List Value} {e : TypeId} (hw : Inv C (row p n c e sz xs :: H) h w) (hp : p ≠ none) : ∃ b sp, p = some ⟨b, 0, none⟩ ∧ xs.length = n * sz ∧ n ≤ c ∧ (xs ++ sp).length = c * sz ∧ Inv C (box b (xs ++ sp) e :: H) h w := by
  obtain ⟨l, ⟨l1, l2, rfl, hr, he⟩, hs, hc⟩ := hw
  obtain ⟨b, sp, h1, h2, h3⟩ := GV.row_box hr hp
  exact ⟨b, sp, h1, hr.1, hr.2.1, h2, l1 ++ l2, ⟨l1, l2, rfl, h3, he⟩, hs, hc⟩
theorem Inv.drop2 {C : Ctx} {a e : HE} {H : List HE} {h : PH} {w : World} (hw : Inv C (a :: e :: H) h w) : Inv C (a :: H) h w :=
  (hw.pick (e := e) (.there .here)).drop1
theorem spl_mid {xs sp ys : List Value} : spl (xs ++ sp) xs.length ys = (xs ++ ys) ++ sp.drop ys.length := by
  unfold spl
  rw [List.take_left, List.drop_append, List.drop_of_length_le (by omega)]
  simp
theorem Inv.append {P : Program} {C : Ctx} {H H' : List HE} {h : PH} {w : World} {t t' e ty : TypeId} {sz bt : Nat} {z : List Value} [TEl P t e sz bt] [TZero P e z] (ht' : ∃ e', P.underlying t' = some (.slice e')) (hz : z.length = sz) {p q : Option Addr} {n c m d : Nat} {xs ys : List Value}
    (hw : Inv C H h w) (hpk : Pick H (row p n c e sz xs) H') (hs : SrcW w q m sz ys) (hone : ys.all (·.oneCell') = true) (hb : (n + m) * bt ≤ 140737488355328) (hm : n + m ≤ 9223372036854775807) :
    ∃ p' c' w', (Builtin.append_ #[t, t'] ty #[.slice p n c, .slice q m d]).run P w = .ok (.slice p' (n + m) c') w' ∧ Inv C (row p' (n + m) c' e sz (xs ++ ys) :: H') h w' := by
  have hw1 := hw.pick hpk
  by_cases hroom : n + m ≤ c
  · have hrun := run_append_room (P := P) (t := t) (t' := t') (ty := ty) (d := d) ht' (p := p) (n := n) (c := c) hs hroom
    by_cases hp : p = none
    · subst hp
      have hw2 := hw1
      obtain ⟨l, ⟨l1, l2, rfl, ⟨hlen, hnc, hr⟩, he⟩, hsp, hc⟩ := hw1
      rcases hr with ⟨_, hn0, hc0, hl1⟩ | ⟨b, sp, e2, _⟩
      · subst hn0 hc0
        have hm0 : m = 0 := by omega
        subst hm0
        have hys : ys = [] := by have := hs.1; simpa using this
        subst hys
        exact ⟨none, 0, w, by rw [hrun]; rfl, by simpa using hw2⟩
      · cases e2
    · obtain ⟨b, sp, rfl, h1, h2, h3, hbx⟩ := hw1.row_box hp
      have hlen : ys.length = m * sz := hs.1
      have hspl : sp.length = c * sz - n * sz := by simp [h1] at h3; omega
      have hle : n * sz + m * sz ≤ c * sz := by rw [← Nat.add_mul]; exact Nat.mul_le_mul_right _ hroom
      have hgb := (HGet.here (b := b) (cs := xs ++ sp) (t := e) (H := H')).block hbx
      obtain ⟨w', hst, htn⟩ := run_storeCells (P := P) b e (n * sz) ys 0 (xs ++ sp) w hgb (by rw [h3]; omega) hone
      rw [Nat.add_zero, ← h1, spl_mid] at htn
      refine ⟨some ⟨b, 0, none⟩, c, w', ?_, ?_⟩
      · rw [hrun]
        simp only [addr_add, Nat.zero_add, hst, Result.andThen_ok]
      · have := hbx.turned (HSet.here) htn
        refine Inv.box_row (by simp [h1, hlen, Nat.add_mul]) hroom ?_ this
        simp [h1, hlen]; omega
  · have hsrc : SrcW w p n sz xs := Src.w (.row (c := c) (e := e) .here) hw1
    obtain ⟨cap, sp, hc1, hsp, hrun⟩ := run_append_grow (P := P) (t := t) (t' := t') (ty := ty) (d := d) (c := c) ht' hsrc hs (by omega) hb hm hz
    refine ⟨_, cap, _, hrun, ?_⟩
    have h1 := hsrc.1
    have h2 := hs.1
    have hal := hw1.drawn.alloc (xs ++ ys ++ sp) e
    have hle : (n + m) * sz ≤ cap * sz := Nat.mul_le_mul_right _ hc1
    refine Inv.box_row (by simp [h1, h2, Nat.add_mul]) hc1 ?_ hal.drop2
    rw [Nat.sub_mul] at hsp
    simp only [List.length_append, h1, h2, hsp]
    rw [Nat.add_mul] at hle ⊢
    omega

section
variable {ρ : Option Nat} {P : Program} {C : Ctx} {N : Fr} {L : En} {H H' : List HE} {h : PH} {ty : TypeId} {pos : String} {after : Array Edge}
variable {ops : Array Oper} {rest : List Oper} {Q : Exit → Act → World → Prop}
theorem run_builtin {ρ : Operand → Value} {dst : Option Tmp} {gd : Option (Nat × Bool)} {x y : Operand} {t t' : TypeId} {w w' : World} {v u r : Value} (hx : ρ x = v) (hy : ρ y = u) (hr : (Builtin.append_ #[t, t'] ty #[v, u]).run P w = .ok r w') :
    (execOp ρ ⟨dst, .call ⟨.builtin .append, #[x, y], #[t, t']⟩, ty, pos, after, gd⟩).run P w = .ok (.value r) w' := by
  simp [execOp, resolve, hx, hy, invoke, builtin, hr]
theorem hd_append {d : Nat} {x y : Operand} {t t' e e' : TypeId} {sz bt : Nat} {z : List Value} [TEl P t e sz bt] [TSl P t' e'] [TZero P e z] {p q : Option Addr} {n c m k : Nat} {xs ys : List Value} (hx : Ev L x (.slice p n c)) (hy : Ev L y (.slice q m k)) (hpk : Pick H (row p n c e sz xs) H')
    (hs : Src H h q m sz ys) (hz : z.length = sz) (hone : ys.all (·.oneCell') = true) (hb : (n + m) * bt ≤ 140737488355328) (hm : n + m ≤ 9223372036854775807) (hN : Nat.blt d N.n = true)
    (next : ∀ p' c', Hd C N ((d, [], .slice p' (n + m) c') :: L) (row p' (n + m) c' e sz (xs ++ ys) :: H') h (wpList P ops Q rest)) :
    Hd C N L H h (wpList P ops Q (⟨some d, .call ⟨.builtin .append, #[x, y], #[t, t']⟩, ty, pos, after, none⟩ :: rest)) := by
  refine ⟨fun a w ha hw => ?_⟩
  obtain ⟨p', c', w', hrun, hi⟩ := hw.append (P := P) (t := t) (t' := t') (ty := ty) (d := k) ⟨e', TSl.eq⟩ hz hpk (hs.w hw) hone hb hm
  simp only [wpList]
  rw [if_pos (by simp [Region.wanted])]
  unfold opw
  rw [run_builtin (hx.eval ha) (hy.eval ha) hrun]
  refine (next p' c').all _ _ ?_ hi
  have := ha.put (g := []) (v := .slice p' (n + m) c') (d := d) (by simpa using hN)
  simpa [G, satB] using this
/-- A nil slice is a row of the call's own. -/
theorem hd_nilrow {R : Act → World → Prop} (e : TypeId) (sz : Nat) (next : Hd C N L (row none 0 0 e sz [] :: H) h R) : Hd C N L H h R :=
  ⟨fun a w ha ⟨l, he, hs, hc⟩ => next.all a w ha ⟨l, ⟨[], l, rfl, ⟨by simp, Nat.le_refl _, .inl ⟨rfl, rfl, rfl, rfl⟩⟩, he⟩, hs, hc⟩⟩
end
end Go.GV
