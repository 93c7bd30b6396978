/- make, copy, slice literals, handing rows out, rows read and written by index, strings of bytes, shifts and divisions; over the small logic of GvA to GvJ. -/
import Derived.Test.YtikkkfamflmgeaaGvJ
import Derived.Laws.MakeOwn
namespace Go.GV
open Go

/-- k zero elements. -/
def zs (z : List Value) (k : Nat) : List Value := (List.replicate k z).flatten
theorem zs_length (z : List Value) (k : Nat) : (zs z k).length = k * z.length := by simp [zs]
theorem zs_add (z : List Value) (a b : Nat) : zs z (a + b) = zs z a ++ zs z b := by simp [zs, ← List.replicate_append_replicate]
theorem zs_get (z : List Value) : ∀ (c k : Nat), k < c * z.length → (zs z c)[k]? = z[k % z.length]?
  | 0, k, hk => by omega
  | c + 1, k, hk => by
    have e : zs z (c + 1) = z ++ zs z c := by simp [zs, List.replicate_succ]
    rw [e]
    by_cases hlt : k < z.length
    · rw [List.getElem?_append_left hlt, Nat.mod_eq_of_lt hlt]
    · rw [List.getElem?_append_right (by omega), zs_get z c (k - z.length) (by rw [Nat.add_mul] at hk; omega)]
      congr 1
      exact (Nat.mod_eq_sub_mod (by omega)).symm
theorem made_zs (z : List Value) (c : Nat) : madeCells z.toArray (c * z.length) = (zs z c).toArray := by
  apply Array.ext
  · simp [size_madeCells, zs_length]
  · intro k h1 h2
    have hk : k < c * z.length := by simpa [size_madeCells] using h1
    have hz : 0 < z.length := by
      rcases Nat.eq_zero_or_pos z.length with e | e
      · rw [e] at hk; omega
      · exact e
    have hg := zs_get z c k hk
    have hmod : k % z.length < z.length := Nat.mod_lt _ hz
    rw [List.getElem?_eq_getElem hmod, List.getElem?_eq_getElem (by simpa using h2)] at hg
    simp only [Option.some.injEq] at hg
    simp only [List.getElem_toArray]
    rw [hg]
    simp [madeCells, hmod]

section
variable {ρ : Option Nat} {P : Program} {C : Ctx} {N : Fr} {L : En} {H H' : List HE} {h : PH} {dst : Option Tmp} {ty : TypeId} {pos : String} {after : Array Edge} {gd : Option (Nat × Bool)}
variable {ops : Array Oper} {rest : List Oper} {Q : Exit → Act → World → Prop}

theorem hd_make {d : Nat} {x y : Operand} {t e : TypeId} {sz bt : Nat} {z : List Value} [TEl P t e sz bt] [TZero P e z] {k k' : IntKind} {n c : Nat} {a b : Int} (hx : Ev L x (.int k a)) (hy : Ev L y (.int k' b)) (ha : a = (n : Int)) (hb : b = (c : Int)) (hz : z.length = sz) (hnc : n ≤ c)
    (hbt : bt * c ≤ 281474976710656) (hc : c ≤ 9223372036854775807) (hN : Nat.blt d N.n = true)
    (next : ∀ g, Hd C N ((d, [], .slice (some ⟨g, 0, none⟩) n c) :: L) (row (some ⟨g, 0, none⟩) n c e sz (zs z n) :: H) h (wpList P ops Q rest)) :
    Hd C N L H h (wpList P ops Q (⟨some d, .makeSlice t x y, ty, pos, after, none⟩ :: rest)) := by
  refine ⟨fun ac w hac hw => ?_⟩
  have e1 := hx.eval hac
  have e2 := hy.eval hac
  have hszE := TEl.sz (P := P) (t := t)
  have hbtE := TEl.bt (P := P) (t := t)
  cases hi : P.info? e with
  | none => simp [hi] at hszE
  | some i =>
    simp [hi] at hszE hbtE
    obtain ⟨zv, hzr, hzc⟩ := run_zero (P := P) (t := e) w
    have hzz : i.zero = some zv := by
      simp only [zeroValue, typeInfo, Sem.run_bind, run_program, Result.andThen_ok, hi, Sem.run_pure] at hzr
      cases hq : i.zero with
      | none => rw [hq] at hzr; simp [unsupported] at hzr
      | some v => rw [hq] at hzr; simp at hzr; rw [hzr]
    have hbt' : (i.bytes : Int) * b ≤ 281474976710656 := by
      rw [hbtE, hb]
      have : ((bt * c : Nat) : Int) ≤ 281474976710656 := by omega
      rwa [Int.natCast_mul] at this
    have hrun := run_make (P := P) w t e i zv (TEl.sl (P := P) (t := t)) hi hzz k k' a b (by omega) (by omega) hbt' (by omega)
    have hcells : madeCells zv.cells (b.toNat * i.size) = (zs z c).toArray := by
      rw [hzc, hb, Int.toNat_natCast, hszE, ← hz, made_zs]
    rw [hcells, ha, hb, Int.toNat_natCast, Int.toNat_natCast] at hrun
    simp only [wpList]
    rw [if_pos (by simp [Region.wanted])]
    have hex : (execOp ac.eval ⟨some d, .makeSlice t x y, ty, pos, after, none⟩).run P w = .ok (.value (.slice (some ⟨w.heap.size, 0, none⟩) n c)) (w.alloc (.cells (zs z c).toArray e (0, 0))) := by
      simp only [execOp, e1, e2, ha, hb, Sem.run_bind, hrun, Result.andThen_ok, Sem.run_pure]
    unfold opw
    rw [hex]
    have hz1 : zs z c = zs z n ++ zs z (c - n) := by rw [← zs_add]; congr 1; omega
    refine (next w.heap.size).all _ _ ?_ ?_
    · have := hac.put (g := []) (v := .slice (some ⟨w.heap.size, 0, none⟩) n c) (d := d) (by simpa using hN)
      simpa [G, satB] using this
    · have hal := hw.alloc (zs z c) e
      rw [hz1] at hal ⊢
      refine Inv.box_row (by rw [zs_length, hz]) hnc ?_ hal
      rw [← hz1, zs_length, hz]

/-- 'copy' into a row of the call's own. -/
theorem hd_copy {d : Nat} {x y : Operand} {t t' e : TypeId} {sz bt : Nat} [TEl P t e sz bt] {p q : Option Addr} {n c m k : Nat} {xs ys : List Value} (hx : Ev L x (.slice p n c)) (hy : Ev L y (.slice q m k)) (hpk : Pick H (row p n c e sz xs) H') (hs : Src H h q m sz ys) (hone : ys.all (·.oneCell') = true) (hN : Nat.blt d N.n = true)
    (next : Hd C N ((d, [], .int .i64 (min m n : Nat)) :: L) (row p n c e sz (ys.take (min m n * sz) ++ xs.drop (min m n * sz)) :: H') h (wpList P ops Q rest)) :
    Hd C N L H h (wpList P ops Q (⟨some d, .call ⟨.builtin .copy, #[x, y], #[t, t']⟩, ty, pos, after, none⟩ :: rest)) := by
  refine ⟨fun a w ha hw => ?_⟩
  have e1 := hx.eval ha
  have e2 := hy.eval ha
  have hsw := hs.w hw
  have hw1 := hw.pick hpk
  have hu := TEl.sl (P := P) (t := t)
  have hsz := run_sz (TEl.sz (P := P) (t := t)) w
  have hf : (Builtin.firstCells sz (min m n) (.slice q m k)).run P w = .ok (ys.take (min m n * sz)).toArray w := by
    cases q with
    | none => rw [hsw.2.1 rfl]; simp [Builtin.firstCells]
    | some ad =>
      have hl : (ys.take (min m n * sz)).length = min m n * sz := by
        rw [List.length_take, hsw.1]
        exact Nat.min_eq_left (Nat.mul_le_mul_right _ (Nat.min_le_left _ _))
      have := run_loadCells_list (P := P) (w := w) ad (ys.take (min m n * sz)) (fun j v hv => hsw.2.2 ad rfl j v (by
        rw [List.getElem?_take] at hv
        split at hv
        · exact hv
        · cases hv))
      rw [hl] at this
      simp [Builtin.firstCells, this]
  simp only [wpList]
  rw [if_pos (by simp [Region.wanted])]
  have hput : EnOK (a.put (some d) (.int .i64 (min m n : Nat))) N ((d, [], .int .i64 (min m n : Nat)) :: L) := by
    have := ha.put (g := []) (v := .int .i64 (min m n : Nat)) (d := d) (by simpa using hN)
    simpa [G, satB] using this
  by_cases hp : p = none
  · subst hp
    have hw2 := hw1
    obtain ⟨l, ⟨l1, l2, rfl, ⟨hlen, hnc, hr⟩, he⟩, hsp, hc⟩ := hw1
    rcases hr with ⟨_, hn0, hc0, hl1⟩ | ⟨b, sp, ee, _⟩
    · subst hn0 hc0
      have hex : (execOp a.eval ⟨some d, .call ⟨.builtin .copy, #[x, y], #[t, t']⟩, ty, pos, after, none⟩).run P w = .ok (.value (.int .i64 (min m 0 : Nat))) w := by
        simp at hf
        simp [execOp, resolve, e1, e2, invoke, builtin, Builtin.copy_, run_underlying hu, hsz, Builtin.lenOf, hf, goInt]
      unfold opw
      rw [hex]
      refine next.all _ _ hput ?_
      simpa using hw2
    · cases ee
  · obtain ⟨b, sp, rfl, h1, h2, h3, hbx⟩ := hw1.row_box hp
    have hgb := (HGet.here (b := b) (cs := xs ++ sp) (t := e) (H := H')).block hbx
    have hl : (ys.take (min m n * sz)).length = min m n * sz := by
      rw [List.length_take, hsw.1]
      exact Nat.min_eq_left (Nat.mul_le_mul_right _ (Nat.min_le_left _ _))
    have hle : min m n * sz ≤ n * sz := Nat.mul_le_mul_right _ (Nat.min_le_right _ _)
    obtain ⟨w', hst, htn⟩ := run_storeCells (P := P) b e 0 (ys.take (min m n * sz)) 0 (xs ++ sp) w hgb (by simp only [List.length_append, h1, hl]; omega) (by
      rw [List.all_eq_true] at hone ⊢
      exact fun v hv => hone v (List.mem_of_mem_take hv))
    have hspl : spl (xs ++ sp) 0 (ys.take (min m n * sz)) = (ys.take (min m n * sz) ++ xs.drop (min m n * sz)) ++ sp := by
      unfold spl
      rw [hl, Nat.zero_add, List.drop_append_of_le_length (by omega)]
      simp
    rw [Nat.add_zero, hspl] at htn
    have hex : (execOp a.eval ⟨some d, .call ⟨.builtin .copy, #[x, y], #[t, t']⟩, ty, pos, after, none⟩).run P w = .ok (.value (.int .i64 (min m n : Nat))) w' := by
      have e3 : Nat.min m n = min m n := rfl
      simp [execOp, resolve, e1, e2, invoke, builtin, Builtin.copy_, run_underlying hu, hsz, Builtin.lenOf, e3, hf, hst, goInt]
    unfold opw
    rw [hex]
    refine next.all _ _ hput ?_
    refine Inv.box_row ?_ h2 ?_ (hbx.turned HSet.here htn)
    · simp only [List.length_append, hl, List.length_drop, h1]; omega
    · simp only [List.length_append, hl, List.length_drop, h1] at h3 ⊢; omega

/-! ### Literals -/
inductive PartsS (L : En) (sz : Nat) : List (Nat × Operand) → List (Nat × List Value) → Prop
  | nil : PartsS L sz [] []
  | cons {i : Nat} {x : Operand} {v : Value} {vs : List Value} {ps : List (Nat × Operand)} {qs : List (Nat × List Value)} (hx : Ev L x v) (hvs : v.cells = vs.toArray) (hn : vs.length = sz) (hh : PartsS L sz ps qs) : PartsS L sz ((i, x) :: ps) ((i * sz, vs) :: qs)
theorem fill_partsS {sz : Nat} {ps : List (Nat × Operand)} {qs : List (Nat × List Value)} (hh : PartsS L sz ps qs) {ρ : Operand → Value} (hρ : ∀ p ∈ ps, ∀ u, Ev L p.2 u → ρ p.2 = u) :
    ∀ z : List Value, (∀ q ∈ qs, q.1 + q.2.length ≤ z.length) → Instr.fill (fun i => some (i * sz, sz)) z.toArray (ps.map fun p => (p.1, ρ p.2)) = some (fillL z qs).toArray := by
  induction hh with
  | nil => intro z _; rfl
  | @cons i x v vs ps qs hx hvs hn _ ih =>
    intro z hz
    have e := hρ (i, x) (by simp) v hx
    simp only at e
    have hz0 := hz (i * sz, vs) (by simp)
    simp only at hz0
    simp only [List.map_cons, Instr.fill, e, hvs]
    rw [if_neg (by simp; omega)]
    have hfold := foldl_spl (i * sz) vs 0 z (by omega)
    rw [Nat.add_zero] at hfold
    have : (vs.toArray.zipIdx.foldl (fun cs x => cs.setIfInBounds (i * sz + x.2) x.1) z.toArray) = (spl z (i * sz) vs).toArray := by
      rw [← Array.foldl_toList, Array.toList_zipIdx]; simpa using hfold
    rw [this]
    refine ih (fun p hp => hρ p (by simp [hp])) _ (fun q hq => ?_)
    rw [length_spl hz0]
    exact hz q (by simp [hq])
theorem hd_lit {d : Nat} {t e : TypeId} {sz bt n : Nat} {z cs : List Value} [TEl P t e sz bt] [TZero P e z] {ps : List (Nat × Operand)} {qs : List (Nat × List Value)} (hh : PartsS L sz ps qs) (hz : z.length = sz) (hq : (qs.all fun q => Nat.ble (q.1 + q.2.length) (n * sz)) = true) (hcs : Nf (fillL (zs z n) qs) cs) (hbig : Nat.ble (n * sz) 16777216 = true)
    (hN : Nat.blt d N.n = true) (hlen : cs.length = n * sz) (next : ∀ g, Hd C N ((d, [], .slice (some ⟨g, 0, none⟩) n n) :: L) (row (some ⟨g, 0, none⟩) n n e sz cs :: H) h (wpList P ops Q rest)) :
    Hd C N L H h (wpList P ops Q (⟨some d, .buildSlice t n ps.toArray, ty, pos, after, none⟩ :: rest)) := by
  refine ⟨fun a w ha hw => ?_⟩
  have hu := TEl.sl (P := P) (t := t)
  have hsz := run_sz (TEl.sz (P := P) (t := t)) w
  obtain ⟨zv, hzr, hzc⟩ := run_zero (P := P) (t := e) w
  have hq' : ∀ q ∈ qs, q.1 + q.2.length ≤ (zs z n).length := fun q hqm => by
    rw [zs_length, hz]
    exact Nat.le_of_ble_eq_true (by simpa using (List.all_eq_true.1 hq) q hqm)
  have hfill := fill_partsS hh (ρ := a.eval) (fun p _ u hu => hu.eval ha) (zs z n) hq'
  have e2 : (ps.toArray.map fun (i, x) => (i, a.eval x)).toList = ps.map fun p => (p.1, a.eval p.2) := by simp
  have hb : ¬ (n * sz > 2 ^ 24) := by have := Nat.le_of_ble_eq_true hbig; omega
  have hmade := made_zs z n
  have hex : (execOp a.eval ⟨some d, .buildSlice t n ps.toArray, ty, pos, after, none⟩).run P w = .ok (.value (.slice (some ⟨w.heap.size, 0, none⟩) n n)) (w.alloc (.cells cs.toArray e (0, 0))) := by
    simp only [execOp, Instr.buildSlice, Sem.run_bind, run_underlying hu, Result.andThen_ok, hsz, hb, if_false]
    by_cases h0 : n * sz = 0
    · have hz0 : (zs z n) = [] := by
        have := zs_length z n
        rw [hz, h0] at this
        simpa using this
      rw [hz0] at hfill hcs
      simp only [h0, if_true, Sem.run_bind, Sem.run_pure, Result.andThen_ok]
      have hr0 : ∀ f : Nat → Value, (Array.range 0).map f = #[] := fun f => by apply Array.eq_empty_of_size_eq_zero; simp
      rw [hr0, e2]
      have : Instr.fill (fun i => some (i * sz, sz)) #[] (ps.map fun p => (p.1, a.eval p.2)) = some (fillL [] qs).toArray := hfill
      rw [this, hcs.eq]
      simp [newRow]
    · simp only [h0, if_false, Sem.run_bind, hzr, Result.andThen_ok, Sem.run_pure, hzc]
      have hm2 : (Array.range (n * sz)).map (z.toArray[· % z.toArray.size]!) = (zs z n).toArray := by
        rw [← hmade, hz]; rfl
      rw [hm2, e2, hfill, hcs.eq]
      simp [newRow]
  simp only [wpList]
  rw [if_pos (by simp [Region.wanted])]
  unfold opw
  rw [hex]
  refine (next w.heap.size).all _ _ ?_ ?_
  · have := ha.put (g := []) (v := .slice (some ⟨w.heap.size, 0, none⟩) n n) (d := d) (by simpa using hN)
    simpa [G, satB] using this
  · have hal := hw.alloc cs e
    have : Inv C (box w.heap.size (cs ++ []) e :: H) h (w.alloc (.cells cs.toArray e (0, 0))) := by simpa using hal
    exact Inv.box_row hlen (Nat.le_refl _) (by simpa using hlen) this

/-! ### Handing a row out: it is written no more -/
def PH.add (h : PH) (b : Nat) (o : Obj) : PH := fun k => if k = b then some o else h k
theorem Inv.publish1 {w : World} {b : Nat} {o : Obj} (hw : Inv C ((fun l => l = [(b, o)]) :: H) h w) : h.le (h.add b o) ∧ Inv C H (h.add b o) w := by
  obtain ⟨l, ⟨l1, l2, rfl, e, he⟩, hs, hc⟩ := hw
  have e' : l1 = [(b, o)] := e
  subst e'
  have hn := hs.sep b o (by simp)
  have hnd := hs.nodup
  simp only [List.cons_append, List.nil_append, List.map_cons, List.nodup_cons] at hnd
  have hle : h.le (h.add b o) := fun k o' e9 => by
    unfold PH.add
    split
    · rename_i ek; subst ek; rw [hn] at e9; cases e9
    · exact e9
  refine ⟨hle, l2, he, ⟨hnd.2, fun k o' hm => hs.mem k o' (by simp [hm]), fun k o' e8 => ?_, fun k o' hm => ?_⟩, ⟨hc.os, hc.tape, hc.output, hc.size, hc.old, PH.le_trans hc.le hle, fun k o' e8 e0 => ?_, fun k o' hm => hc.own k o' (by simp [hm])⟩⟩
  · by_cases ek : k = b
    · subst ek; simp only [PH.add, if_true, Option.some.injEq] at e8; rw [← e8]; exact hs.mem k o (by simp)
    · simp only [PH.add, if_neg ek] at e8; exact hs.pub k o' e8
  · unfold PH.add
    split
    · rename_i ek; subst ek; exact absurd (List.mem_map.2 ⟨(k, o'), hm, rfl⟩) hnd.1
    · exact hs.sep k o' (by simp [hm])
  · by_cases ek : k = b
    · subst ek; exact hc.own k o (by simp)
    · simp only [PH.add, if_neg ek] at e8; exact hc.fresh k o' e8 e0
theorem Inv.publish {w : World} {p : Option Addr} {n c sz : Nat} {e : TypeId} {xss : List (List Value)} (hw : Inv C (row p n c e sz xss.flatten :: H) h w) (hlen : xss.length = n) (heach : ∀ x ∈ xss, x.length = sz) (htop : n ≤ 9223372036854775807) :
    ∃ h', h.le h' ∧ Sl h' sz p n c xss ∧ Inv C H h' w := by
  by_cases hp : p = none
  · subst hp
    have hw2 := hw
    obtain ⟨l, ⟨l1, l2, rfl, ⟨_, hnc, hr⟩, he⟩, hs, hc⟩ := hw2
    rcases hr with ⟨_, hn0, hc0, _⟩ | ⟨b, sp, e2, _⟩
    · subst hn0 hc0
      have : xss = [] := by simpa using hlen
      subst this
      exact ⟨h, PH.le_refl _, Sl.nil h sz, hw.drop1⟩
    · cases e2
  · obtain ⟨b, sp, rfl, h1, h2, h3, hbx⟩ := hw.row_box hp
    obtain ⟨hle, hi⟩ := Inv.publish1 hbx
    refine ⟨_, hle, ⟨hlen, h2, htop, heach, fun _ => ⟨b, 0, rfl, _, _, _, by simp [PH.add]; exact ⟨rfl, rfl, rfl⟩, fun j v hv => ?_⟩⟩, hi⟩
    simp only [Nat.zero_add, List.getElem?_toArray]
    rw [List.getElem?_append_left (List.getElem?_eq_some_iff.1 hv).1]; exact hv
theorem hd_publish {R : Act → World → Prop} {p : Option Addr} {n c sz : Nat} {e : TypeId} {xs : List Value} (xss : List (List Value)) (hpk : Pick H (row p n c e sz xs) H') (hxs : xs = xss.flatten) (hlen : xss.length = n) (heach : ∀ x ∈ xss, x.length = sz) (htop : n ≤ 9223372036854775807)
    (next : ∀ h', h.le h' → Sl h' sz p n c xss → Hd C N L H' h' R) : Hd C N L H h R := by
  refine ⟨fun a w ha hw => ?_⟩
  subst hxs
  obtain ⟨h', hle, hsl, hi⟩ := (hw.pick hpk).publish hlen heach htop
  exact (next h' hle hsl).all a w ha hi
end
end Go.GV
