/- Maps whose keys are what was given: counts. -/
import Derived.Test.YtogepedlalfpjaaMdOp
namespace Go.GV
open Go
section
variable {P : Program} {C : Ctx} {L : En} {H : List HE} {h : PH} {ty : TypeId} {pos : String} {after : Array Edge} {dst : Option Tmp} {gd : Option (Nat × Bool)} {K : List (Option IntKind)} {g : Bool} {m : KVs} {w : World} {b : Nat}
theorem HMem.mpS_at {kc : List Value} {s : Nat} (hm : HMem H (mpS b K g m kc s)) (hw : SS C H h w) : ∃ es clock, MOk K es clock ∧ m = kvs es ∧ w.heap[b]? = some (.map (es.map (toE g)).toArray clock) := by
  obtain ⟨Hx, h', hl, l, he, hs, hc⟩ := hw
  obtain ⟨l1, ⟨es, clock, h1, h2, _, rfl⟩, hsub⟩ := (hm.more Hx).ents he
  exact ⟨es, clock, h1, h2, hs.mem _ _ (hsub _ (by simp))⟩
/-- A look at a map, an entry of which is held. -/
theorem od_lookupS {t kt et : TypeId} {zv : Value} {s : Nat} [TMap P t kt et] [TKy P kt K g] [TZv P et zv] {x y : Operand} {kc kc' : List Value} {kv : Value} (hx : Ev L x (.map (some b))) (hy : Ev L y kv) (hm : HMem H (mpS b K g m kc' s)) (hk : KV g kv kc) (hc : Cells K kc) :
    OP P C ⟨dst, .lookup t x y false, ty, pos, after, gd⟩ L H h ((lookM kc m).getD zv) :=
  od_pure fun ρ w hρ hw => by
    have e1 := hρ x (by simp [Op.operands]) _ hx
    have e2 := hρ y (by simp [Op.operands]) _ hy
    obtain ⟨es, clock, h1, rfl, hb⟩ := hm.mpS_at hw
    simp only [execOp, e1, e2, hk.eq]
    have := run_lookup (P := P) (t := t) hc h1 hb false
    simp only [this, Sem.run_bind, Result.andThen_ok, Sem.run_pure]
    simp
theorem hd_treeX {ρ : Option Nat} {N : Fr} {H0 : List HE} {e0 : HE} {Q : Exit → Act → World → Prop} {id : Nat} {l : List Oper} (T : List Row3) (B : List Nat) (pt : PT) (hm : P.follows .mixedOrders = true) (hs : Region.noSelect l.toArray = true) (hT : tableOf l = T) (hp : ptT T B pt l.length 0 = true)
    (hx : Hd C N L (e0 :: H0) h (wpPT P l.toArray (Q .normal) B pt (SS C H0 h))) : Hd C N L (e0 :: H0) h (cw ρ P (Code.region id l.toArray true) Q) := by
  refine ⟨fun a w ha hw => ?_⟩
  refine cw_mono (Q := Qn (Q .normal)) (wpIn_region_any hm ?_) (fun e a w ⟨e1, e2⟩ => by subst e1; exact e2)
  subst hT
  have := any_of_X (ρ := ρ) _ _ _ _ (pt_sound (P := P) (R := Q .normal) (B := B) hs pt l.length (SS C H0 h) (Array.replicate l.length false) 0 a { w with drawn := w.drawn + 1 } (Same.zero _) (fun j i _ hl => by rw [getD_repl] at hl; cases hl) hp (hx.all a _ ha hw.drawn))
  simpa using this
end
end Go.GV
namespace Go.Proofs.Ytogepedlalfpjaa
open Go Go.GV
attribute [local irreducible] cw Go.GV.SpecM Go.GV.wpList Exit.then Exit.inBlock Go.GV.bodyPost wpPl wpPm wpPn TS rnd rPost YieldsB wpPT ptK
set_option linter.unusedVariables false
set_option linter.unusedSimpArgs false
/-- Every key is of something given. -/
def KeyG (m : KVs) : Prop := ∀ e ∈ m, ∃ g : GD, e.1 = csG g
theorem keyG_put (g : GD) (v : Value) : ∀ (m : KVs), KeyG m → KeyG (putM (csG g) v m)
  | [], _ => fun e he => by simp [putM] at he; subst he; exact ⟨g, rfl⟩
  | x :: m, h => by
    unfold putM
    split
    · intro e he
      rcases List.mem_cons.1 he with rfl | he
      · exact h x (by simp)
      · exact h e (by simp [he])
    · intro e he
      rcases List.mem_cons.1 he with rfl | he
      · exact h e (by simp)
      · exact keyG_put g v m (fun e he => h e (by simp [he])) e he
theorem look_put (g x : GD) (v : Value) : ∀ (m : KVs), KeyG m → lookM (csG x) (putM (csG g) v m) = if g = x then some v else lookM (csG x) m
  | [], _ => by
    simp only [putM, lookM, gd_eq]
    by_cases h : x = g
    · subst h; simp
    · have h2 : ¬ g = x := fun e => h e.symm
      simp [h, h2]
  | (yk, yv) :: m, h => by
    obtain ⟨z, hz⟩ := h (yk, yv) (by simp)
    simp only at hz
    subst hz
    have ih := look_put g x v m (fun e he => h e (by simp [he]))
    unfold putM
    rw [gd_eq]
    by_cases e1 : g = z
    · subst e1
      simp only [decide_true, if_true, lookM, gd_eq]
      by_cases e2 : x = g
      · subst e2; simp
      · have h2 : ¬ g = x := fun e => e2 e.symm
        simp [e2, h2]
    · rw [decide_eq_false e1]
      simp only [Bool.false_eq_true, if_false, lookM, gd_eq]
      by_cases e2 : x = z
      · subst e2; simp [e1]
      · rw [decide_eq_false e2]; simpa using ih
theorem len_put (g : GD) (v : Value) : ∀ (m : KVs), KeyG m → (putM (csG g) v m).length = if (lookM (csG g) m).isSome then m.length else m.length + 1
  | [], _ => by simp [putM, lookM]
  | (yk, yv) :: m, h => by
    obtain ⟨z, hz⟩ := h (yk, yv) (by simp)
    simp only at hz
    subst hz
    have ih := len_put g v m (fun e he => h e (by simp [he]))
    unfold putM
    rw [gd_eq]
    by_cases e1 : g = z
    · subst e1
      simp [lookM, gd_eq]
    · rw [decide_eq_false e1]
      simp only [Bool.false_eq_true, if_false, lookM, gd_eq, decide_eq_false e1, List.length_cons, ih]
      split <;> rfl
/-- How often each was met. -/
structure CntM (k : IntKind) (m : KVs) (f : GD → Int) : Prop where
  key : KeyG m
  look : ∀ x, ((lookM (csG x) m).getD (.int k 0)) = .int k (f x)
theorem CntM.nil (k : IntKind) : CntM k [] fun _ => 0 := ⟨(fun e he => by cases he), (fun x => rfl)⟩
theorem CntM.put {k : IntKind} {m : KVs} {f : GD → Int} (hm : CntM k m f) (g : GD) (v : Int) : CntM k (putM (csG g) (.int k v) m) fun x => if g = x then v else f x :=
  ⟨keyG_put g _ m hm.key, fun x => by
    rw [look_put g x _ m hm.key]
    by_cases h : g = x
    · simp [h]
    · simp only [h, if_false]; exact hm.look x⟩
/-- The entry's own zero, and then its number. -/
theorem CntM.put2 {k : IntKind} {m : KVs} {f : GD → Int} (hm : CntM k m f) (g : GD) (v : Int) : CntM k (putM (csG g) (.int k v) (putM (csG g) ((lookM (csG g) m).getD (.int k 0)) m)) fun x => if g = x then v else f x := by
  rw [hm.look g]
  have := (hm.put g (f g)).put g v
  refine ⟨this.key, fun x => ?_⟩
  rw [this.look x]
  by_cases h : g = x <;> simp [h]
/-- Of unlike ones each is met once. -/
def once (l : List GD) : GD → Int := fun x => if x ∈ l then 1 else 0
theorem once_nil (l : List GD) : CntM .i64 [] (once (l.take 0)) := ⟨(fun e he => by cases he), (fun x => by simp [once, lookM])⟩
theorem once_step {l : List GD} (hn : l.Nodup) {i : Nat} {g : GD} (hg : l[i]? = some g) : once (l.take i) g = 0 ∧ ∀ x, (if g = x then (1 : Int) else once (l.take i) x) = once (l.take (i + 1)) x := by
  have h1 : l.take (i + 1) = l.take i ++ [g] := take_step hg
  have h2 : g ∉ l.take i := by
    have h3 : (l.take (i + 1)).Nodup := (List.take_sublist _ _).nodup hn
    rw [h1, List.nodup_append] at h3
    exact fun hc => h3.2.2 g hc g (by simp) rfl
  refine ⟨by simp [once, h2], fun x => ?_⟩
  simp only [once, h1, List.mem_append, List.mem_singleton]
  by_cases h : g = x
  · subst h; simp
  · have h' : x ≠ g := fun e => h e.symm
    simp [h, h']
abbrev KG : List (Option IntKind) := [some .u8, some .u16, some .u8, some .u16, some .u32]
theorem KG_cells (g : GD) : Cells KG (csG g) := .int (.int (.int (.int (.int .nil))))
section
variable {P : Program} {C : Ctx} {N : Fr} {L : En} {H H' : List HE} {h : PH} {ty : TypeId} {pos : String} {after : Array Edge} {dst : Option Tmp} {gd : Option (Nat × Bool)} {m : KVs} {b : Nat} {k : IntKind} {f : GD → Int} {ops : Array Oper} {Q : Exit → Act → World → Prop} {rest : List Oper}
theorem od_cnt {t kt et : TypeId} [TMap P t kt et] [TKy P kt KG true] [TZv P et (.int k 0)] {x y : Operand} {g : GD} (hx : Ev L x (.map (some b))) (hy : Ev L y (.agg #[.int .u8 g.node, .int .u16 g.inc, .int .u8 g.id.1, .int .u16 g.id.2.1, .int .u32 g.id.2.2])) (hm : HMem H (mp b KG true m)) (hc : CntM k m f) :
    OP P C ⟨dst, .lookup t x y false, ty, pos, after, gd⟩ L H h (.int k (f g)) := by
  have := od_lookup1 (P := P) (C := C) (L := L) (H := H) (h := h) (dst := dst) (t := t) (ty := ty) (pos := pos) (after := after) (gd := gd) (kc := csG g) hx hy hm KV.agg (KG_cells g)
  rwa [hc.look] at this
theorem od_cntS {t kt et : TypeId} {s : Nat} [TMap P t kt et] [TKy P kt KG true] [TZv P et (.int k 0)] {x y : Operand} {g : GD} (hx : Ev L x (.map (some b))) (hy : Ev L y (.agg #[.int .u8 g.node, .int .u16 g.inc, .int .u8 g.id.1, .int .u16 g.id.2.1, .int .u32 g.id.2.2])) (hc : CntM k m f) (hm : HMem H (mpS b KG true (putM (csG g) ((lookM (csG g) m).getD (.int k 0)) m) (csG g) s)) :
    OP P C ⟨dst, .lookup t x y false, ty, pos, after, gd⟩ L H h (.int k (f g)) := by
  have := od_lookupS (P := P) (C := C) (L := L) (H := H) (h := h) (dst := dst) (t := t) (ty := ty) (pos := pos) (after := after) (gd := gd) (kc := csG g) (zv := .int k 0) hx hy hm KV.agg (KG_cells g)
  rw [look_put g g _ m hc.key, if_pos rfl, hc.look] at this
  exact this
theorem hd_cntE {t kt et : TypeId} {d : Nat} [TMap P t kt et] [TKy P kt KG true] [TZv P et (.int k 0)] {x y : Operand} {g : GD} (hx : Ev L x (.map (some b))) (hy : Ev L y (.agg #[.int .u8 g.node, .int .u16 g.inc, .int .u8 g.id.1, .int .u16 g.id.2.1, .int .u32 g.id.2.2])) (hpk : Pick H (mp b KG true m) H') (hc : CntM k m f) (hN : Nat.blt d N.n = true)
    (next : ∀ s : Nat, Hd C N ((d, [], .tuple #[.int k (f g), .int .i64 s]) :: L) (mpS b KG true (putM (csG g) ((lookM (csG g) m).getD (.int k 0)) m) (csG g) s :: H') h (GV.wpList P ops Q rest)) :
    Hd C N L H h (GV.wpList P ops Q (⟨some d, .mapEntry t x y, ty, pos, after, none⟩ :: rest)) := by
  refine hd_mapEntry (kc := csG g) (zv := .int k 0) hx hy hpk KV.agg (KG_cells g) hN (fun s => ?_)
  have := next s
  rw [← hc.look g] at this
  exact this
end
end Go.Proofs.Ytogepedlalfpjaa
