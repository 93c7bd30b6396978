/- Stores, struct values, builtins, loops, over the small logic of GvA to GvC. -/
import Derived.Test.YtikkkfamflmgeaaGvC
namespace Go.GV
open Go

def spl (cs : List Value) (o : Nat) (vs : List Value) : List Value := cs.take o ++ (vs ++ cs.drop (o + vs.length))

/-- The world with one block turned. -/
structure Turned (w w' : World) (b : Nat) (o : Obj) : Prop where
  os : w'.os = w.os
  tape : w'.tape = w.tape
  output : w'.output = w.output
  size : w'.heap.size = w.heap.size
  at_ : w'.heap[b]? = some o
  other : ∀ k, k ≠ b → w'.heap[k]? = w.heap[k]?

theorem run_storeCells {P : Program} (b : Nat) (t : TypeId) (off : Nat) : ∀ (vs : List Value) (i : Nat) (cs : List Value) (w : World), w.heap[b]? = some (.cells cs.toArray t (0, 0)) → off + i + vs.length ≤ cs.length → vs.all (·.oneCell') = true →
    ∃ w', (storeCells ⟨b, off, none⟩ vs i).run P w = .ok () w' ∧ Turned w w' b (.cells (spl cs (off + i) vs).toArray t (0, 0))
  | [], i, cs, w, hb, _, _ => ⟨w, by simp [storeCells], ⟨rfl, rfl, rfl, rfl, by simpa [spl] using hb, fun _ _ => rfl⟩⟩
  | v :: vs, i, cs, w, hb, hl, ho => by
    simp only [List.length_cons] at hl
    have hv : v.oneCell' = true := by simp at ho; exact ho.1
    have hvs : vs.all (·.oneCell') = true := by simp at ho; simpa using ho.2
    have hadd : (⟨b, off, none⟩ : Addr).add i = ⟨b, off + i, none⟩ := by unfold Addr.add; split <;> simp_all
    have hcell : w.cell? ⟨b, off + i, none⟩ = some (cs[off + i]'(by omega)) := by simp [World.cell?, hb]
    have hfr : w.frozen? ⟨b, off + i, none⟩ = false := by simp [World.frozen?, hb]
    have hst : (store ((⟨b, off, none⟩ : Addr).add i) v).run P w = .ok () (w.setCell ⟨b, off + i, none⟩ v) := by
      rw [hadd, run_store P w _ v .plain hv]
      simp [hcell, hfr]
    have hb1 : (w.setCell ⟨b, off + i, none⟩ v).heap[b]? = some (.cells (cs.set (off + i) v).toArray t (0, 0)) := by
      simp [World.setCell, Array.getElem?_modify, hb]
    obtain ⟨w', hr, ht⟩ := run_storeCells (P := P) b t off vs (i + 1) (cs.set (off + i) v) (w.setCell ⟨b, off + i, none⟩ v) hb1 (by simp; omega) hvs
    have hat := ht.at_
    refine ⟨w', ?_, ⟨ht.os, ht.tape, ht.output, by rw [ht.size]; simp [World.setCell], ?_, fun k hk => ?_⟩⟩
    · simp only [storeCells, Sem.run_bind, hst, Result.andThen_ok, hr]
    · rw [hat]
      congr 3
      unfold spl
      have e2 : List.drop (off + (i + 1) + vs.length) (cs.set (off + i) v) = List.drop (off + i + (v :: vs).length) cs := by
        rw [List.drop_set_of_lt (by omega)]
        congr 1
        simp; omega
      rw [e2, show off + (i + 1) = (off + i) + 1 by omega, List.take_succ_eq_append_getElem (by simp; omega)]
      simp [List.take_set_of_le]
    · rw [ht.other k hk]
      exact RowKit.Below.heap_setCell w _ v k hk

inductive HSet : List HE → Nat → List Value → TypeId → List Value → List HE → Prop
  | here {H : List HE} {b : Nat} {cs cs' : List Value} {t : TypeId} : HSet (box b cs t :: H) b cs t cs' (box b cs' t :: H)
  | there {e : HE} {H H' : List HE} {b : Nat} {cs cs' : List Value} {t : TypeId} (hh : HSet H b cs t cs' H') : HSet (e :: H) b cs t cs' (e :: H')
theorem HSet.get {H H' : List HE} {b : Nat} {cs cs' : List Value} {t : TypeId} (hh : HSet H b cs t cs' H') : HGet H b cs t := by
  induction hh with
  | here => exact .here
  | there _ ih => exact .there ih
theorem HSet.ents {H H' : List HE} {b : Nat} {cs cs' : List Value} {t : TypeId} (hh : HSet H b cs t cs' H') : ∀ {l : List Blk}, Ents H l →
    ∃ l', Ents H' l' ∧ l'.map (·.1) = l.map (·.1) ∧ (b, Obj.cells cs'.toArray t (0, 0)) ∈ l' ∧ ∀ k o, (k, o) ∈ l' → (k, o) ∈ l ∨ (k = b ∧ o = .cells cs'.toArray t (0, 0)) := by
  induction hh with
  | here =>
    rintro l ⟨l1, l2, rfl, e, he⟩
    rw [show l1 = _ from e]
    exact ⟨_ :: l2, ⟨[_], l2, rfl, rfl, he⟩, by simp, by simp, fun k o hm => by
      rcases List.mem_cons.1 hm with e | hm
      · simp at e; exact .inr e
      · exact .inl (by simp [hm])⟩
  | there _ ih =>
    rintro l ⟨l1, l2, rfl, e, he⟩
    obtain ⟨l', h1, h2, h3, h4⟩ := ih he
    refine ⟨l1 ++ l', ⟨l1, l', rfl, e, h1⟩, by simp [h2], List.mem_append_right _ h3, fun k o hm => ?_⟩
    rcases List.mem_append.1 hm with hm | hm
    · exact .inl (List.mem_append_left _ hm)
    · rcases h4 k o hm with h | h
      · exact .inl (List.mem_append_right _ h)
      · exact .inr h
theorem nodup_fst {l : List Blk} (hn : (l.map (·.1)).Nodup) {b : Nat} {o o' : Obj} (h1 : (b, o) ∈ l) (h2 : (b, o') ∈ l) : o = o' := by
  induction l with
  | nil => cases h1
  | cons x r ih =>
    simp only [List.map_cons, List.nodup_cons] at hn
    rcases List.mem_cons.1 h1 with e1 | m1 <;> rcases List.mem_cons.1 h2 with e2 | m2
    · rw [← e1] at e2; simp at e2; exact e2.symm
    · exact absurd (List.mem_map.2 ⟨(b, o'), m2, by rw [← e1]⟩) hn.1
    · exact absurd (List.mem_map.2 ⟨(b, o), m1, by rw [← e2]⟩) hn.1
    · exact ih hn.2 m1 m2
theorem Inv.turned {C : Ctx} {H H' : List HE} {h : PH} {w w' : World} {b : Nat} {cs cs' : List Value} {t : TypeId} (hw : Inv C H h w) (hh : HSet H b cs t cs' H') (ht : Turned w w' b (.cells cs'.toArray t (0, 0))) : Inv C H' h w' := by
  obtain ⟨l, he, hs, hc⟩ := hw
  obtain ⟨l', he', hm, hb, hold⟩ := hh.ents he
  have hbl : ∃ o, (b, o) ∈ l := by
    have : b ∈ l'.map (·.1) := List.mem_map.2 ⟨_, hb, rfl⟩
    rw [hm] at this
    obtain ⟨⟨b', o⟩, h1, rfl⟩ := List.mem_map.1 this
    exact ⟨o, h1⟩
  obtain ⟨ob, hbo⟩ := hbl
  have hnd : (l'.map (·.1)).Nodup := by rw [hm]; exact hs.nodup
  refine ⟨l', he', ⟨hnd, fun k o hk => ?_, fun k o e => ?_, fun k o hk => ?_⟩, ⟨ht.os.trans hc.os, ht.tape.trans hc.tape, ht.output.trans hc.output, by rw [ht.size]; exact hc.size, fun k hk hkb => ?_, hc.le, hc.fresh, fun k o hk => ?_⟩⟩
  · by_cases e : k = b
    · subst e
      rw [nodup_fst hnd hk hb]
      exact ht.at_
    · rw [ht.other k e]
      rcases hold k o hk with h1 | h1
      · exact hs.mem k o h1
      · exact absurd h1.1 e
  · have hne : k ≠ b := by rintro rfl; rw [hs.sep k ob hbo] at e; cases e
    rw [ht.other k hne]
    exact hs.pub k o e
  · rcases hold k o hk with h1 | h1
    · exact hs.sep k o h1
    · rw [h1.1]; exact hs.sep b ob hbo
  · have hne : k ≠ b := by
      rintro rfl
      rcases hc.own k ob hbo with h1 | h1
      · omega
      · exact hkb h1
    rw [ht.other k hne]
    exact hc.old k hk hkb
  · rcases hold k o hk with h1 | h1
    · exact hc.own k o h1
    · rw [h1.1]; exact hc.own b ob hbo

section
variable {ρ : Option Nat} {P : Program} {C : Ctx} {N : Fr} {L : En} {H : List HE} {h : PH} {dst : Option Tmp} {ty : TypeId} {pos : String} {after : Array Edge} {gd : Option (Nat × Bool)}
variable {ops : Array Oper} {o : Oper} {rest : List Oper} {Q : Exit → Act → World → Prop}

theorem hd_store {T T' : TypeId} {x y : Operand} {b off n : Nat} {v : Value} {vs cs cs' : List Value} {H' : List HE} {g : Bool} [TI P T n g] (hx : Ev L x (.pointer (some ⟨b, off, none⟩))) (hy : Ev L y v) (hvs : v.cells = vs.toArray)
    (hb : HSet H b cs T' cs' H') (hn : vs.length = n) (hle : Nat.ble (off + vs.length) cs.length = true) (hone : vs.all (·.oneCell') = true) (hcs : Nf (spl cs off vs) cs') (next : Hd C N L H' h (wpList P ops Q rest)) :
    Hd C N L H h (wpList P ops Q (⟨none, .store T x y, ty, pos, after, none⟩ :: rest)) := by
  refine ⟨fun a w ha hw => ?_⟩
  have e1 := hx.eval ha
  have e2 := hy.eval ha
  have hsz := run_sz (TI.sz (P := P) (t := T)) w
  obtain ⟨w', hr, ht⟩ := run_storeCells (P := P) b T' off vs 0 cs w (hb.get.block hw) (Nat.le_of_ble_eq_true hle) hone
  rw [Nat.add_zero, hcs.eq] at ht
  simp only [wpList]
  rw [if_pos (by simp [Region.wanted])]
  have hrun : (execOp a.eval ⟨none, .store T x y, ty, pos, after, none⟩).run P w = .ok .skip w' := by
    simp only [execOp, e1, e2, Instr.storeAt, Instr.sureAddr, storeVar, Sem.run_bind, Sem.run_pure, Result.andThen_ok, hsz, hvs]
    simp [hn, hr]
  unfold opw
  rw [hrun]
  exact next.all _ _ ha (hw.turned hb ht)

/-! ### Struct values -/
/-- A struct's cells out of zeros and parts: each part at its offset. -/
def fillL : List Value → List (Nat × List Value) → List Value
  | z, [] => z
  | z, (o, vs) :: r => fillL (spl z o vs) r
/-- The parts of a struct literal: field numbers and operands, told by offsets and cells. -/
inductive Parts (P : Program) (L : En) (s : TypeId) : List (Nat × Operand) → List (Nat × List Value) → Prop
  | nil : Parts P L s [] []
  | cons {f off n : Nat} {ft : TypeId} {g : Bool} {x : Operand} {v : Value} {vs : List Value} {ps : List (Nat × Operand)} {qs : List (Nat × List Value)} [TFd P s f off ft] [TI P ft n g] (hx : Ev L x v) (hvs : v.cells = vs.toArray) (hn : vs.length = n)
      (hh : Parts P L s ps qs) : Parts P L s ((f, x) :: ps) ((off, vs) :: qs)
theorem foldl_spl (off : Nat) : ∀ (vs : List Value) (j : Nat) (z : List Value), off + j + vs.length ≤ z.length →
    ((vs.zipIdx j).foldl (fun (cs : Array Value) (p : Value × Nat) => cs.setIfInBounds (off + p.2) p.1) z.toArray) = (spl z (off + j) vs).toArray
  | [], j, z, _ => by simp [spl]
  | v :: vs, j, z, hl => by
    simp only [List.length_cons] at hl
    simp only [List.zipIdx_cons, List.foldl_cons, List.setIfInBounds_toArray]
    rw [foldl_spl off vs (j + 1) (z.set (off + j) v) (by simp; omega)]
    congr 1
    unfold spl
    have e2 : List.drop (off + (j + 1) + vs.length) (z.set (off + j) v) = List.drop (off + j + (v :: vs).length) z := by
      rw [List.drop_set_of_lt (by omega)]
      congr 1
      simp; omega
    rw [e2, show off + (j + 1) = (off + j) + 1 by omega, List.take_succ_eq_append_getElem (by simp; omega)]
    simp [List.take_set_of_le]
theorem length_spl {z : List Value} {o : Nat} {vs : List Value} (hl : o + vs.length ≤ z.length) : (spl z o vs).length = z.length := by
  simp [spl]; omega
theorem fill_parts {s : TypeId} {fs : Array Field} (hs : P.underlying s = some (.struct fs)) {ps : List (Nat × Operand)} {qs : List (Nat × List Value)} (hh : Parts P L s ps qs) {ρ : Operand → Value} (hρ : ∀ p ∈ ps, ∀ u, Ev L p.2 u → ρ p.2 = u) (places : Array (Nat × Nat))
    (hpl : ∀ (f : Nat) (fd : Field), fs[f]? = some fd → ∃ n, (P.info? fd.type).map (·.size) = some n ∧ places[f]? = some (fd.offset, n)) :
    ∀ z : List Value, (∀ q ∈ qs, q.1 + q.2.length ≤ z.length) → Instr.fill (places[·]?) z.toArray (ps.map fun p => (p.1, ρ p.2)) = some (fillL z qs).toArray := by
  induction hh with
  | nil => intro z _; rfl
  | @cons f off n ft g x v vs ps qs hfd hti hx hvs hn _ ih =>
    intro z hz
    have e := hρ (f, x) (by simp) v hx
    simp only at e
    have hq := TFd.eq (P := P) (s := s) (f := f)
    rw [hs] at hq
    simp only [Option.map_eq_some_iff, Prod.mk.injEq] at hq
    obtain ⟨fd, hfd', rfl, rfl⟩ := hq
    obtain ⟨m, hm1, hm2⟩ := hpl f fd hfd'
    have : m = n := by have := TI.sz (P := P) (t := fd.type) (size := n); rw [hm1] at this; simpa using this
    subst this
    have hz0 := hz (fd.offset, vs) (by simp)
    simp only at hz0
    simp only [List.map_cons, Instr.fill, hm2, e, hvs]
    rw [if_neg (by simp; omega)]
    have hfold := foldl_spl fd.offset vs 0 z (by omega)
    rw [Nat.add_zero] at hfold
    have : (vs.toArray.zipIdx.foldl (fun cs x => cs.setIfInBounds (fd.offset + x.2) x.1) z.toArray) = (spl z fd.offset vs).toArray := by
      rw [← Array.foldl_toList, Array.toList_zipIdx]; simpa using hfold
    rw [this]
    refine ih (fun p hp => hρ p (by simp [hp])) _ (fun q hq => ?_)
    rw [length_spl hz0]
    exact hz q (by simp [hq])
class TStruct (P : Program) (s : TypeId) : Prop where
  eq : (match P.underlying s with | some (.struct fs) => fs.all (fun f => (P.info? f.type).isSome) | _ => false) = true
theorem mapM_places (fs : List Field) (hall : ∀ f ∈ fs, (P.info? f.type).isSome = true) (w : World) : (fs.mapM (fun f => do pure (f.offset, ← sizeOf f.type) : Field → Sem (Nat × Nat))).run P w = .ok (fs.map fun f => (f.offset, P.cellsOf f.type)) w := by
  induction fs with
  | nil => simp
  | cons f fs ih =>
    obtain ⟨i, hi⟩ := Option.isSome_iff_exists.1 (hall f (by simp))
    have hsz : (sizeOf f.type).run P w = .ok (P.cellsOf f.type) w := by simp [sizeOf, typeInfo, hi, Program.cellsOf]
    have ih' := ih fun g hg => hall g (by simp [hg])
    rw [List.mapM_cons]
    simp only [Sem.run_bind, hsz, Sem.run_pure, Result.andThen_ok, List.map_cons]
    rw [ih']
    rfl
theorem od_build {s : TypeId} {ps : List (Nat × Operand)} {qs : List (Nat × List Value)} {z cs : List Value} [TStruct P s] [TZero P s z] (hh : Parts P L s ps qs) (hz : (qs.all fun q => Nat.ble (q.1 + q.2.length) z.length) = true) (hcs : Nf (fillL z qs) cs) :
    OP P C ⟨dst, .build s ps.toArray, ty, pos, after, gd⟩ L H h (.agg cs.toArray) :=
  od_pure fun ρ w hρ _ => by
    have hst := TStruct.eq (P := P) (s := s)
    cases hu : P.underlying s with
    | none => simp [hu] at hst
    | some d =>
      rw [hu] at hst
      cases d with
      | struct fs =>
        simp only [Array.all_eq_true_iff_forall_mem] at hst
        obtain ⟨zv, hzr, hzc⟩ := run_zero (P := P) (t := s) w
        have hpl := mapM_places (P := P) fs.toList (fun f hf => hst f (by simpa using hf)) w
        have hfill := fill_parts (P := P) hu hh (ρ := ρ) (fun p hp => hρ p.2 (by simp only [Op.operands]; simpa using ⟨p.1, hp⟩)) (fs.map fun f => (f.offset, P.cellsOf f.type)) (fun f fd hfd => by
          have hm : fd ∈ fs := Array.mem_of_getElem? hfd
          obtain ⟨i, hi⟩ := Option.isSome_iff_exists.1 (hst fd hm)
          exact ⟨i.size, by simp [hi], by simp [hfd, Program.cellsOf, hi]⟩) z (fun q hq => Nat.le_of_ble_eq_true (by simpa using (List.all_eq_true.1 hz) q hq))
        have hplA : (fs.mapM (fun f => do pure (f.offset, ← sizeOf f.type) : Field → Sem (Nat × Nat))).run P w = .ok (fs.map fun f => (f.offset, P.cellsOf f.type)) w := by
          have e1 : fs = fs.toList.toArray := by simp
          rw [e1, List.mapM_toArray]
          rw [Sem.run_map, hpl]
          simp only [Result.andThen_ok]
          rw [← Array.toList_map, Array.toArray_toList, Array.toArray_toList]
        simp only [execOp, Instr.build, Sem.run_bind, hzr, Result.andThen_ok, run_underlying hu, hplA, hzc]
        have e2 : (ps.toArray.map fun (i, x) => (i, ρ x)).toList = ps.map fun p => (p.1, ρ p.2) := by simp
        rw [e2, hfill, hcs.eq]
        simp
      | _ => simp at hst
end
end Go.GV
