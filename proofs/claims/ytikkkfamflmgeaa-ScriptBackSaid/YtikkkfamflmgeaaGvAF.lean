/- Rows that are cut back, appended to twice, and lent to calls; over the small logic of GvA to GvAE. -/
import Derived.Test.YtikkkfamflmgeaaGvAE
namespace Go.GV
open Go
section
variable {ρ : Option Nat} {P : Program} {C : Ctx} {N : Fr} {L : En} {H H' : List HE} {h : PH} {ty : TypeId} {pos : String} {after : Array Edge} {R : Act → World → Prop}
variable {ops : Array Oper} {rest : List Oper} {Q : Exit → Act → World → Prop}
theorem Inv.shrink {w : World} {p : Option Addr} {n m c sz : Nat} {e : TypeId} {xs ys : List Value} (hx : xs.length = n * sz) (hw : Inv C (row p (n + m) c e sz (xs ++ ys) :: H) h w) : Inv C (row p n c e sz xs :: H) h w := by
  by_cases hp : p = none
  · subst hp
    obtain ⟨l, ⟨l1, l2, rfl, ⟨hlen, hnc, hr⟩, he⟩, hs, hc⟩ := hw
    rcases hr with ⟨_, hn0, hc0, hl1⟩ | ⟨b, sp, e2, _⟩
    · have hn : n = 0 := by omega
      subst hn
      refine ⟨l1 ++ l2, ⟨l1, l2, rfl, ⟨hx, by omega, .inl ⟨rfl, rfl, hc0, hl1⟩⟩, he⟩, hs, hc⟩
    · cases e2
  · obtain ⟨b, sp, rfl, h1, h2, h3, hbx⟩ := hw.row_box hp
    rw [List.append_assoc] at hbx h3
    exact Inv.box_row hx (by omega) h3 hbx
theorem hd_shrink {p : Option Addr} {n m c sz : Nat} {e : TypeId} {xs ys : List Value} (hpk : Pick H (row p (n + m) c e sz (xs ++ ys)) H') (hx : xs.length = n * sz) (next : Hd C N L (row p n c e sz xs :: H') h R) : Hd C N L H h R :=
  ⟨fun a w ha hw => next.all a w ha ((hw.pick hpk).shrink hx)⟩
theorem Inv.appendC {w : World} {t t' e : TypeId} {sz bt : Nat} {z : List Value} [TEl P t e sz bt] [TZero P e z] (ht' : ∃ e', P.underlying t' = some (.slice e')) (hz : z.length = sz) {p q : Option Addr} {n c m d : Nat} {xs ys : List Value}
    (hw : Inv C H h w) (hpk : Pick H (row p n c e sz xs) H') (hs : SrcW w q m sz ys) (hone : ys.all (·.oneCell') = true) (hb : (n + m) * bt ≤ 140737488355328) (hm : n + m ≤ 9223372036854775807) :
    (n + m ≤ c → ∃ w', (Builtin.append_ #[t, t'] ty #[.slice p n c, .slice q m d]).run P w = .ok (.slice p (n + m) c) w' ∧ Inv C (row p (n + m) c e sz (xs ++ ys) :: H') h w') ∧
    (c < n + m → ∃ p' c' w', (Builtin.append_ #[t, t'] ty #[.slice p n c, .slice q m d]).run P w = .ok (.slice p' (n + m) c') w' ∧ Inv C (row p' (n + m) c' e sz (xs ++ ys) :: row p n c e sz xs :: H') h w') := by
  have hw1 := hw.pick hpk
  constructor
  · intro hroom
    have hrun := run_append_room (P := P) (t := t) (t' := t') (ty := ty) (d := d) ht' (p := p) (n := n) (c := c) hs hroom
    by_cases hp : p = none
    · subst hp
      have hw2 := hw1
      obtain ⟨l, ⟨l1, l2, rfl, ⟨hlen, hnc, hr⟩, he⟩, hsp, hc⟩ := hw1
      rcases hr with ⟨_, hn0, hc0, hl1⟩ | ⟨b, sp, e2, _⟩
      · subst hn0 hc0
        have hm0 : m = 0 := by omega
        subst hm0
        have hys : ys = [] := by have := hs.1; simpa using this
        subst hys
        exact ⟨w, by rw [hrun]; rfl, by simpa using hw2⟩
      · cases e2
    · obtain ⟨b, sp, rfl, h1, h2, h3, hbx⟩ := hw1.row_box hp
      have hlen : ys.length = m * sz := hs.1
      have hspl : sp.length = c * sz - n * sz := by simp [h1] at h3; omega
      have hle : n * sz + m * sz ≤ c * sz := by rw [← Nat.add_mul]; exact Nat.mul_le_mul_right _ hroom
      have hgb := (HGet.here (b := b) (cs := xs ++ sp) (t := e) (H := H')).block hbx
      obtain ⟨w', hst, htn⟩ := run_storeCells (P := P) b e (n * sz) ys 0 (xs ++ sp) w hgb (by rw [h3]; omega) hone
      rw [Nat.add_zero, ← h1, spl_mid] at htn
      refine ⟨w', ?_, ?_⟩
      · rw [hrun]
        simp only [addr_add, Nat.zero_add, hst, Result.andThen_ok]
      · have := hbx.turned (HSet.here) htn
        refine Inv.box_row (by simp [h1, hlen, Nat.add_mul]) hroom ?_ this
        simp [h1, hlen]; omega
  · intro hroom
    have hsrc : SrcW w p n sz xs := Src.w (.row (c := c) (e := e) .here) hw1
    obtain ⟨cap, sp, hc1, hsp, hrun⟩ := run_append_grow (P := P) (t := t) (t' := t') (ty := ty) (d := d) (c := c) ht' hsrc hs hroom hb hm hz
    refine ⟨_, cap, _, hrun, ?_⟩
    have h1 := hsrc.1
    have h2 := hs.1
    have hal := hw1.drawn.alloc (xs ++ ys ++ sp) e
    have hle : (n + m) * sz ≤ cap * sz := Nat.mul_le_mul_right _ hc1
    refine Inv.box_row (by simp [h1, h2, Nat.add_mul]) hc1 ?_ hal
    rw [Nat.sub_mul] at hsp
    simp only [List.length_append, h1, h2, hsp]
    rw [Nat.add_mul] at hle ⊢
    omega
/-- 'append', and what became of the row ahead. -/
theorem hd_appendC {d : Nat} {x y : Operand} {t t' e e' : TypeId} {sz bt : Nat} {z : List Value} [TEl P t e sz bt] [TSl P t' e'] [TZero P e z] {p q : Option Addr} {n c m k : Nat} {xs ys : List Value} (hx : Ev L x (.slice p n c)) (hy : Ev L y (.slice q m k)) (hpk : Pick H (row p n c e sz xs) H')
    (hs : Src H h q m sz ys) (hz : z.length = sz) (hone : ys.all (·.oneCell') = true) (hb : (n + m) * bt ≤ 140737488355328) (hm : n + m ≤ 9223372036854775807) (hN : Nat.blt d N.n = true)
    (next1 : n + m ≤ c → Hd C N ((d, [], .slice p (n + m) c) :: L) (row p (n + m) c e sz (xs ++ ys) :: H') h (wpList P ops Q rest))
    (next2 : c < n + m → ∀ p' c', Hd C N ((d, [], .slice p' (n + m) c') :: L) (row p' (n + m) c' e sz (xs ++ ys) :: row p n c e sz xs :: H') h (wpList P ops Q rest)) :
    Hd C N L H h (wpList P ops Q (⟨some d, .call ⟨.builtin .append, #[x, y], #[t, t']⟩, ty, pos, after, none⟩ :: rest)) := by
  refine ⟨fun a w ha hw => ?_⟩
  obtain ⟨h1, h2⟩ := hw.appendC (P := P) (t := t) (t' := t') (ty := ty) (d := k) ⟨e', TSl.eq⟩ hz hpk (hs.w hw) hone hb hm
  simp only [wpList]
  rw [if_pos (by simp [Region.wanted])]
  unfold opw
  by_cases hr : n + m ≤ c
  · obtain ⟨w', hrun, hi⟩ := h1 hr
    rw [run_builtin (hx.eval ha) (hy.eval ha) hrun]
    refine (next1 hr).all _ _ ?_ hi
    have := ha.put (g := []) (v := .slice p (n + m) c) (d := d) (by simpa using hN)
    simpa [G, satB] using this
  · obtain ⟨p', c', w', hrun, hi⟩ := h2 (by omega)
    rw [run_builtin (hx.eval ha) (hy.eval ha) hrun]
    refine (next2 (by omega) p' c').all _ _ ?_ hi
    have := ha.put (g := []) (v := .slice p' (n + m) c') (d := d) (by simpa using hN)
    simpa [G, satB] using this
/-! ### Lending a row to a call -/
def PH.del (h : PH) (b : Nat) : PH := fun k => if k = b then none else h k
theorem Inv.unpub {w : World} {b : Nat} {ob : Obj} (hat : h b = some ob) (hC : C.h0 b = none) (hfr : C.w0.heap.size ≤ b ∨ b ∈ C.bs) (hw : Inv C H h w) : Inv C ((fun l => l = [(b, ob)]) :: H) (h.del b) w := by
  obtain ⟨l, he, hs, hc⟩ := hw
  have hnot : ∀ o', (b, o') ∉ l := fun o' hm => by
    have := hs.sep b o' hm
    rw [hat] at this; cases this
  have hdel : ∀ k o', (h.del b) k = some o' → h k = some o' ∧ k ≠ b := fun k o' e => by
    unfold PH.del at e
    split at e
    · cases e
    · rename_i hk; exact ⟨e, hk⟩
  refine ⟨(b, ob) :: l, ⟨[(b, ob)], l, rfl, rfl, he⟩, ⟨?_, ?_, fun k o' e => hs.pub k o' (hdel k o' e).1, ?_⟩, ⟨hc.os, hc.tape, hc.output, hc.size, hc.old, fun k o' e => ?_, fun k o' e e0 => hc.fresh k o' (hdel k o' e).1 e0, ?_⟩⟩
  · simp only [List.map_cons, List.nodup_cons]
    refine ⟨fun hm => ?_, hs.nodup⟩
    obtain ⟨⟨k, o'⟩, hm2, e⟩ := List.mem_map.1 hm
    simp at e; subst e
    exact hnot o' hm2
  · intro k o' hm
    rcases List.mem_cons.1 hm with e | hm
    · cases e; exact hs.pub b ob hat
    · exact hs.mem k o' hm
  · intro k o' hm
    rcases List.mem_cons.1 hm with e | hm
    · cases e; simp [PH.del]
    · have := hs.sep k o' hm
      unfold PH.del
      split
      · rfl
      · exact this
  · have := hc.le k o' e
    unfold PH.del
    split
    · rename_i hk; subst hk; rw [hC] at e; cases e
    · exact this
  · intro k o' hm
    rcases List.mem_cons.1 hm with e | hm
    · cases e; exact hfr
    · exact hc.own k o' hm
/-- A call that reads a row of the caller's own; what it yields does not tell of memory. -/
theorem hd_callL {α : Type} {r : Rp α} {p : Option Addr} {n c : Nat} {e : TypeId} {ys : List Value} (css : List (List Value)) (xs : List α) {Post : Value → List HE → Prop} {x : Operand} {as_ : List Operand} {at_ : Array TypeId} {f : FuncId} {cs vs as : List Value} {d : Nat}
    (hpk : Pick H (row p n c e r.sz ys) H') (hys : ys = css.flatten) (hok : All2 (r.ok h) css xs) (hlen : xs.length = n) (htop : n ≤ 9223372036854775807)
    (hx : Ev L x (.func (.func f) #[] cs.toArray)) (hf : TFn P f) (hxs : Evs L as_ vs) (has : Nf (vs ++ cs) as) (hN : Nat.blt d N.n = true)
    (hs : ∀ h', h.le h' → SlR r h' p n c xs → SpecM P f as.toArray h' [] (fun v _ Ho => Post v Ho))
    (next : ∀ v h' Ho, h.le h' → Post v Ho → Hd C N ((d, [], v) :: L) (Ho ++ (row p n c e r.sz ys :: H')) h' (wpList P ops Q rest)) :
    Hd C N L H h (wpList P ops Q (⟨some d, .call ⟨.value x, as_.toArray, at_⟩, ty, pos, after, none⟩ :: rest)) := by
  refine ⟨fun a w ha hw => ?_⟩
  have hw1 := hw.pick hpk
  have h0 := hw.le0
  rw [hys] at hw1
  have heach : ∀ x ∈ css, x.length = r.sz := fun x hx => by
    obtain ⟨i, hi, rfl⟩ := List.getElem_of_mem hx
    obtain ⟨b, hb⟩ : ∃ b, xs[i]? = some b := ⟨_, List.getElem?_eq_getElem (by rw [← hok.length]; exact hi)⟩
    obtain ⟨a, ha, hr⟩ := hok.get hb
    rw [List.getElem?_eq_getElem hi] at ha
    simp at ha
    rw [ha]; exact r.len hr
  by_cases hp : p = none
  · subst hp
    have hw2 := hw1
    obtain ⟨l, ⟨l1, l2, rfl, ⟨h1, hnc, hr⟩, he⟩, hsp, hc⟩ := hw2
    rcases hr with ⟨_, hn0, hc0, hl1⟩ | ⟨b, sp, e2, _⟩
    · subst hn0 hc0 hl1
      have hcs : css = [] := by rw [← List.length_eq_zero_iff, hok.length, hlen]
      subst hcs
      have hsl : SlR r h none 0 0 xs := ⟨[], Sl.nil h _, hok⟩
      refine (hd_callM (P := P) (C := C) (N := N) (L := L) (H := H') (h := h) (Hi := []) (Hf := H') hx hf hxs has hN (fun _ hh => hh) (hs h (PH.le_refl _) hsl) (fun v h' Ho hle hp => ⟨fun a' w' ha' hw' => ?_⟩)).all a w ha hw1.drop1
      refine (next v h' Ho hle hp).all a' w' ha' ?_
      rw [hys]
      refine Inv.perm List.perm_middle.symm ?_
      obtain ⟨l', he', hs', hc'⟩ := hw'
      exact ⟨l', ⟨[], l', rfl, ⟨h1, hnc, .inl ⟨rfl, rfl, rfl, rfl⟩⟩, he'⟩, hs', hc'⟩
    · cases e2
  · obtain ⟨b, sp, rfl, h1, h2, h3, hbx⟩ := hw1.row_box hp
    have hbn : h b = none ∧ (C.w0.heap.size ≤ b ∨ b ∈ C.bs) := by
      obtain ⟨l, ⟨l1, l2, rfl, e9, he⟩, hsp, hc⟩ := hbx
      have e' : l1 = [(b, _)] := e9
      subst e'
      exact ⟨hsp.sep b _ (List.mem_cons_self ..), hc.own b _ (List.mem_cons_self ..)⟩
    have hC : C.h0 b = none := by
      cases e : C.h0 b with
      | none => rfl
      | some o' => have := h0 b o' e; rw [hbn.1] at this; cases this
    obtain ⟨hle, hi⟩ := Inv.publish1 hbx
    have hsl : Sl (h.add b (.cells (css.flatten ++ sp).toArray e (0, 0))) r.sz (some ⟨b, 0, none⟩) n c css := by
      refine ⟨by rw [hok.length, hlen], h2, htop, heach, fun _ => ⟨b, 0, rfl, _, _, _, by simp [PH.add]; exact ⟨rfl, rfl, rfl⟩, fun j u hu => ?_⟩⟩
      simp only [Nat.zero_add, List.getElem?_toArray]
      rw [List.getElem?_append_left (List.getElem?_eq_some_iff.1 hu).1]; exact hu
    refine (hd_callM (P := P) (C := C) (N := N) (L := L) (H := H') (h := h.add b (.cells (css.flatten ++ sp).toArray e (0, 0))) (Hi := []) (Hf := H') hx hf hxs has hN (fun _ hh => hh) (hs _ hle ⟨css, hsl, hok.mono fun _ _ => r.mono hle⟩) (fun v h' Ho hle2 hp => ⟨fun a' w' ha' hw' => ?_⟩)).all a w ha hi
    have hat : h' b = some (.cells (css.flatten ++ sp).toArray e (0, 0)) := hle2 b _ (by simp [PH.add])
    have hlt : h.le (h'.del b) := fun k o' ek => by
      have := hle2 k o' (hle k o' ek)
      unfold PH.del
      split
      · rename_i hk; subst hk; rw [hbn.1] at ek; cases ek
      · exact this
    refine (next v (h'.del b) Ho hlt hp).all a' w' ha' ?_
    rw [hys]
    refine Inv.perm List.perm_middle.symm ?_
    exact (Inv.unpub hat hC hbn.2 hw').box_row h1 h2 h3
end
end Go.GV
