/- Contracts, calls, private boxes, returns, over the small logic of GvA and GvB. -/
import Derived.Test.YtikkkfamflmgeaaGvB
namespace Go.GV
open Go

/-- What a call of 'f' does: 'Hi' are the private blocks that are handed to it, 'Ho' those that it leaves. -/
def PostR (C : Ctx) (Post : Value → PH → List HE → Prop) : Ending → World → Prop := fun e w' => ∃ v h' Ho, e = .returned v ∧ Post v h' Ho ∧ Inv C Ho h' w'
def SpecM (P : Program) (f : FuncId) (args : Array Value) (h : PH) (Hi : List HE) (Post : Value → PH → List HE → Prop) : Prop :=
  ∀ w l, Ents Hi l → Sep w h l → Calls P f args w (PostR ⟨w, h, l.map (·.1)⟩ Post)
def Spec (P : Program) (f : FuncId) (args : Array Value) (h : PH) (Post : Value → PH → Prop) : Prop := SpecM P f args h [] fun v h' Ho => Post v h' ∧ Ho = []
/-- A call that yields one value, whatever the memory. -/
def Det (P : Program) (f : FuncId) (args : Array Value) (h : PH) (v : Value) : Prop := Spec P f args h fun v' _ => v' = v

theorem SpecM.mono {P : Program} {f : FuncId} {args : Array Value} {h : PH} {Hi : List HE} {A B : Value → PH → List HE → Prop} (s : SpecM P f args h Hi A) (ab : ∀ v h' Ho, A v h' Ho → B v h' Ho) : SpecM P f args h Hi B :=
  fun w l he hs => (s w l he hs).mono fun _ _ ⟨v, h', Ho, e, p, i⟩ => ⟨v, h', Ho, e, ab _ _ _ p, i⟩
theorem Spec.mono {P : Program} {f : FuncId} {args : Array Value} {h : PH} {A B : Value → PH → Prop} (s : Spec P f args h A) (ab : ∀ v h', A v h' → B v h') : Spec P f args h B :=
  SpecM.mono s fun _ _ _ ⟨p, e⟩ => ⟨ab _ _ p, e⟩

theorem ents_append : ∀ {H H' : List HE} {l : List Blk}, Ents (H ++ H') l ↔ ∃ a b, l = a ++ b ∧ Ents H a ∧ Ents H' b
  | [], H', l => by
    simp only [List.nil_append, Ents]
    exact ⟨fun e => ⟨[], l, rfl, rfl, e⟩, fun ⟨a, b, e1, e2, e3⟩ => by subst e2; simp at e1; rw [e1]; exact e3⟩
  | e :: H, H', l => by
    simp only [List.cons_append, Ents]
    constructor
    · rintro ⟨l1, l2, rfl, he, h2⟩
      obtain ⟨a, b, rfl, ha, hb⟩ := ents_append.1 h2
      exact ⟨l1 ++ a, b, by simp, ⟨l1, a, rfl, he, ha⟩, hb⟩
    · rintro ⟨a, b, rfl, ⟨l1, l2, rfl, he, h2⟩, hb⟩
      exact ⟨l1, l2 ++ b, by simp, he, ents_append.2 ⟨l2, b, rfl, h2, hb⟩⟩

/-- Behind a call. -/
theorem Inv.call {C : Ctx} {Hi Hf Ho : List HE} {h h' : PH} {w w' : World} {li lf : List Blk} (_hi : Ents Hi li) (hf : Ents Hf lf) (hs : Sep w h (li ++ lf)) (hc : Since C w h (li ++ lf))
    (hn : Inv ⟨w, h, li.map (·.1)⟩ Ho h' w') : Inv C (Ho ++ Hf) h' w' := by
  obtain ⟨lo, heo, hso, hco⟩ := hn
  have blt : ∀ b o, (b, o) ∈ lf → b < w.heap.size := fun b o hm => (Array.getElem?_eq_some_iff.1 (hs.mem b o (List.mem_append_right _ hm))).1
  have bni : ∀ b o, (b, o) ∈ lf → b ∉ li.map (·.1) := by
    intro b o hm hi
    have := hs.nodup
    rw [List.map_append, List.nodup_append] at this
    exact this.2.2 b hi b (List.mem_map.2 ⟨(b, o), hm, rfl⟩) rfl
  have keep : ∀ b o, (b, o) ∈ lf → w'.heap[b]? = some o := fun b o hm => by
    rw [hco.old b (blt b o hm) (bni b o hm)]
    exact hs.mem b o (List.mem_append_right _ hm)
  refine ⟨lo ++ lf, ents_append.2 ⟨lo, lf, rfl, heo, hf⟩, ⟨?_, ?_, hso.pub, ?_⟩, ⟨hco.os.trans hc.os, hco.tape.trans hc.tape, hco.output.trans hc.output, Nat.le_trans hc.size hco.size, ?_, PH.le_trans hc.le hco.le, ?_, ?_⟩⟩
  · rw [List.map_append, List.nodup_append]
    refine ⟨hso.nodup, ?_, ?_⟩
    · have := hs.nodup
      rw [List.map_append, List.nodup_append] at this
      exact this.2.1
    · intro b hb b' hb' e
      subst e
      obtain ⟨⟨b1, o1⟩, hm1, rfl⟩ := List.mem_map.1 hb
      obtain ⟨⟨b2, o2⟩, hm2, e2⟩ := List.mem_map.1 hb'
      simp at e2
      subst e2
      rcases hco.own _ _ hm1 with h1 | h1
      · have := blt _ _ hm2; simp only at h1; omega
      · exact bni _ _ hm2 h1
  · intro b o hm
    rcases List.mem_append.1 hm with hm | hm
    · exact hso.mem b o hm
    · exact keep b o hm
  · intro b o hm
    rcases List.mem_append.1 hm with hm | hm
    · exact hso.sep b o hm
    · cases e : h' b with
      | none => rfl
      | some o' =>
        have hn := hs.sep b o (List.mem_append_right _ hm)
        rcases hco.fresh b o' e hn with h1 | h1
        · have := blt _ _ hm; simp only at h1; omega
        · exact absurd h1 (bni _ _ hm)
  · intro k hk hkb
    have hk1 : k < w.heap.size := Nat.lt_of_lt_of_le hk hc.size
    have hk2 : k ∉ li.map (·.1) := by
      intro hm
      obtain ⟨⟨b1, o1⟩, hm1, rfl⟩ := List.mem_map.1 hm
      rcases hc.own b1 o1 (List.mem_append_left _ hm1) with h1 | h1
      · omega
      · exact hkb h1
    rw [hco.old k hk1 hk2, hc.old k hk hkb]
  · intro b o hb h0
    cases e : h b with
    | some o' =>
      exact hc.fresh b o' e h0
    | none =>
      rcases hco.fresh b o hb e with h1 | h1
      · have := hc.size; simp only at h1; left; omega
      · obtain ⟨⟨b1, o1⟩, hm1, rfl⟩ := List.mem_map.1 h1
        exact hc.own b1 o1 (List.mem_append_left _ hm1)
  · intro b o hm
    rcases List.mem_append.1 hm with hm | hm
    · rcases hco.own b o hm with h1 | h1
      · have := hc.size; simp only at h1; left; omega
      · obtain ⟨⟨b1, o1⟩, hm1, rfl⟩ := List.mem_map.1 h1
        exact hc.own b1 o1 (List.mem_append_left _ hm1)
    · exact hc.own b o (List.mem_append_right _ hm)

/-- Know less of shared memory. -/
theorem Inv.less {C : Ctx} {H : List HE} {h h' : PH} {w : World} (hw : Inv C H h' w) (hl : h.le h') (h0 : C.h0.le h) : Inv C H h w := by
  obtain ⟨l, he, hs, hc⟩ := hw
  refine ⟨l, he, ⟨hs.nodup, hs.mem, fun b o e => hs.pub b o (hl b o e), fun b o hm => ?_⟩, ⟨hc.os, hc.tape, hc.output, hc.size, hc.old, h0, fun b o e => hc.fresh b o (hl b o e), hc.own⟩⟩
  cases e : h b with
  | none => rfl
  | some o' => have := hs.sep b o hm; rw [hl b o' e] at this; cases this
theorem Inv.le0 {C : Ctx} {H : List HE} {h : PH} {w : World} (hw : Inv C H h w) : C.h0.le h := let ⟨_, _, _, hc⟩ := hw; hc.le
/-- Let go of private blocks. -/
theorem Inv.drop1 {C : Ctx} {e : HE} {H : List HE} {h : PH} {w : World} (hw : Inv C (e :: H) h w) : Inv C H h w := by
  obtain ⟨l, ⟨l1, l2, rfl, _, he⟩, hs, hc⟩ := hw
  refine ⟨l2, he, ⟨?_, fun b o hm => hs.mem b o (List.mem_append_right _ hm), hs.pub, fun b o hm => hs.sep b o (List.mem_append_right _ hm)⟩, ⟨hc.os, hc.tape, hc.output, hc.size, hc.old, hc.le, hc.fresh, fun b o hm => hc.own b o (List.mem_append_right _ hm)⟩⟩
  have := hs.nodup
  rw [List.map_append, List.nodup_append] at this
  exact this.2.1
theorem Inv.drop {C : Ctx} {h : PH} {w : World} : ∀ {H : List HE}, Inv C H h w → Inv C [] h w
  | [], hw => hw
  | _ :: _, hw => Inv.drop hw.drop1

/-- Take one entry to the front. -/
inductive Pick : List HE → HE → List HE → Prop
  | here {e : HE} {H : List HE} : Pick (e :: H) e H
  | there {x e : HE} {H H' : List HE} (hh : Pick H e H') : Pick (x :: H) e (x :: H')
theorem Pick.ents {H H' : List HE} {e : HE} (hp : Pick H e H') : ∀ {l : List Blk}, Ents H l → ∃ l', Ents (e :: H') l' ∧ l.Perm l' := by
  induction hp with
  | here => exact fun he => ⟨_, he, .refl _⟩
  | there hh ih =>
    rintro l ⟨l1, l2, rfl, hx, he⟩
    obtain ⟨l', ⟨m1, m2, rfl, he1, he2⟩, hp⟩ := ih he
    refine ⟨m1 ++ (l1 ++ m2), ⟨m1, _, rfl, he1, l1, m2, rfl, hx, he2⟩, ?_⟩
    refine (List.Perm.append_left l1 hp).trans ?_
    rw [← List.append_assoc, ← List.append_assoc]
    exact List.Perm.append_right m2 List.perm_append_comm
theorem Sep.perm {w : World} {h : PH} {l l' : List Blk} (hs : Sep w h l) (hp : l.Perm l') : Sep w h l' :=
  ⟨(hp.map _).nodup_iff.1 hs.nodup, fun b o hm => hs.mem b o (hp.mem_iff.2 hm), hs.pub, fun b o hm => hs.sep b o (hp.mem_iff.2 hm)⟩
theorem Since.perm {C : Ctx} {w : World} {h : PH} {l l' : List Blk} (hc : Since C w h l) (hp : l.Perm l') : Since C w h l' :=
  ⟨hc.os, hc.tape, hc.output, hc.size, hc.old, hc.le, hc.fresh, fun b o hm => hc.own b o (hp.mem_iff.2 hm)⟩
theorem Inv.pick {C : Ctx} {H H' : List HE} {e : HE} {h : PH} {w : World} (hw : Inv C H h w) (hp : Pick H e H') : Inv C (e :: H') h w := by
  obtain ⟨l, he, hs, hc⟩ := hw
  obtain ⟨l', he', hpm⟩ := hp.ents he
  exact ⟨l', he', hs.perm hpm, hc.perm hpm⟩

section
variable {ρ : Option Nat} {P : Program} {C : Ctx} {N : Fr} {L : En} {H : List HE} {h : PH} {dst : Option Tmp} {ty : TypeId} {pos : String} {after : Array Edge} {gd : Option (Nat × Bool)}
variable {ops : Array Oper} {o : Oper} {rest : List Oper} {Q : Exit → Act → World → Prop}

/-! ### Entering, returning -/
def enArgs : Nat → List Value → En
  | _, [] => []
  | i, v :: r => (i, [], v) :: enArgs (i + 1) r
theorem look_enArgs : ∀ (vs : List Value) (i s : Nat) (g : List (Bool × Bool)) (v : Value), look (enArgs i vs) s = some (g, v) → g = [] ∧ i ≤ s ∧ vs[s - i]? = some v
  | [], i, s, g, v => by simp [enArgs, look]
  | u :: r, i, s, g, v => by
    intro e
    rw [enArgs, look_put] at e
    by_cases hi : i = s
    · subst hi; simp at e; simp [e]
    · rw [if_neg hi] at e
      obtain ⟨h1, h2, h3⟩ := look_enArgs r (i + 1) s g v e
      refine ⟨h1, by omega, ?_⟩
      rw [show s - i = (s - (i + 1)) + 1 by omega]
      simpa using h3
theorem spec_enter {f : FuncId} {fn : Func} {c : Code} {args : List Value} {Hi : List HE} {Post : Value → PH → List HE → Prop} (hf : P.funcs[f]? = some fn) (hb : fn.body = some c) {n : Nat} (hN : fn.ntmps = n) (hle : Nat.ble args.length n = true)
    (hx : ∀ w l, Hd ⟨w, h, l⟩ ⟨n, []⟩ (enArgs 0 args) Hi h (cw none P c (bodyPost P fn (PostR ⟨w, h, l⟩ Post)))) : SpecM P f args.toArray h Hi Post := by
  intro w l he hs
  refine calls_of_cw hf hb ((hx w (l.map (·.1))).all _ _ ⟨?_, rfl, ?_⟩ ⟨l, he, hs, ⟨rfl, rfl, rfl, Nat.le_refl _, fun _ _ _ => rfl, PH.le_refl _, fun b o e1 e2 => ?_, fun b o hm => .inr (List.mem_map.2 ⟨(b, o), hm, rfl⟩)⟩⟩)
  · have := Nat.le_of_ble_eq_true hle
    simp [hN]; omega
  · intro s g v e
    obtain ⟨rfl, _, h3⟩ := look_enArgs args 0 s g v e
    simp only [Nat.sub_zero] at h3
    have hl : s < args.length := (List.getElem?_eq_some_iff.1 h3).1
    rw [Array.getElem?_append_left (by simpa using hl)]
    simpa [G, satB] using h3
  · simp only at e2
    rw [e1] at e2; cases e2

theorem hd_ret1 {fn : Func} {n : Nat} {Post : Value → PH → List HE → Prop} {t : Tmp} {v : Value} {e : Exit} (he : e = .ret ∨ e = .normal) (hr : fn.results = #[.tmp t]) (hv : Ev L (.tmp t) v) (hp : Post v h []) : Hd C ⟨n, []⟩ L H h (bodyPost P fn (PostR C Post) e) := by
  refine ⟨fun a w ha hw => ?_⟩
  have : a.tmps.getD t undef = v := hv.eval ha
  exact body_ret he ha.defers (v := v) (by simp [results, hr, ← this]) ⟨v, h, [], rfl, hp, hw.drop⟩
theorem hd_ret2 {fn : Func} {n : Nat} {Post : Value → PH → List HE → Prop} {t u : Tmp} {v x : Value} {e : Exit} (he : e = .ret ∨ e = .normal) (hr : fn.results = #[.tmp t, .tmp u]) (hv : Ev L (.tmp t) v) (hx : Ev L (.tmp u) x)
    (hp : Post (.tuple #[v, x]) h []) : Hd C ⟨n, []⟩ L H h (bodyPost P fn (PostR C Post) e) := by
  refine ⟨fun a w ha hw => ?_⟩
  have e1 : a.tmps.getD t undef = v := hv.eval ha
  have e2 : a.tmps.getD u undef = x := hx.eval ha
  exact body_ret he ha.defers (v := .tuple #[v, x]) (by simp [results, hr, ← e1, ← e2]) ⟨_, h, [], rfl, hp, hw.drop⟩

/-- Results, told one by one: a slot, or a private variable. -/
inductive Res (P : Program) (L : En) (H : List HE) : List ResultVar → List Value → Prop
  | nil : Res P L H [] []
  | tmp {t : Tmp} {v : Value} {rs : List ResultVar} {vs : List Value} (hv : Ev L (.tmp t) v) (hh : Res P L H rs vs) : Res P L H (.tmp t :: rs) (v :: vs)
  | one {t : Tmp} {ty : TypeId} {b off : Nat} {cs : List Value} {t' : TypeId} {v : Value} {rs : List ResultVar} {vs : List Value} [TI P ty 1 false] (hx : Ev L (.tmp t) (.pointer (some ⟨b, off, none⟩))) (hb : HGet H b cs t')
      (hv : cs[off]? = some v) (hh : Res P L H rs vs) : Res P L H (.cell t ty :: rs) (v :: vs)
  | agg {t : Tmp} {ty : TypeId} {n b off : Nat} {cs xs : List Value} {t' : TypeId} {rs : List ResultVar} {vs : List Value} [TI P ty n true] (hx : Ev L (.tmp t) (.pointer (some ⟨b, off, none⟩))) (hb : HGet H b cs t')
      (hv : Nf ((cs.drop off).take n) xs) (hn : xs.length = n) (hh : Res P L H rs vs) : Res P L H (.cell t ty :: rs) (.agg xs.toArray :: vs)

def ofVs : List Value → Value
  | [v] => v
  | vs => .tuple vs.toArray
theorem run_loadVar_of {t : TypeId} {p : Addr} {v : Value} {w : World} (e : (Instr.loadAt t (.pointer (some p))).run P w = .ok v w) : (loadVar t p).run P w = .ok v w := by
  simpa only [Instr.loadAt, Instr.sureAddr, Sem.run_bind, Sem.run_pure, Result.andThen_ok] using e
def resV (tmps : Array Value) : ResultVar → Sem Value
  | .tmp t => pure (tmps.getD t undef)
  | .cell a t => do loadVar t (← asAddr (tmps.getD a undef))
theorem results_eq (fn : Func) (tmps : Array Value) : results fn tmps = (do let vs ← fn.results.mapM (resV tmps); pure (if hh : vs.size = 1 then vs[0] else .tuple vs)) := by
  rfl
theorem Res.run {rs : List ResultVar} {vs : List Value} (hh : Res P L H rs vs) {a : Act} {w : World} (ha : EnOK a N L) (hw : Inv C H h w) : (rs.mapM (resV a.tmps)).run P w = .ok vs w := by
  induction hh with
  | nil => simp
  | tmp hv _ ih =>
    have e : a.tmps.getD _ undef = _ := hv.eval ha
    simp only [List.mapM_cons, resV, e]
    simp [ih]
  | one hx hb hv _ ih =>
    rename_i t ty b off cs t' v rs vs hti hh
    have e : a.tmps.getD _ undef = _ := hx.eval ha
    have hvs : (cs.drop off).take 1 = [v] := by
      have : off < cs.length := (List.getElem?_eq_some_iff.1 hv).1
      rw [List.drop_eq_getElem_cons this]
      simp [(List.getElem?_eq_some_iff.1 hv).2]
    have := run_loadVar_of (run_loadAt (P := P) (t := ty) (off := off) (hb.block hw) hvs rfl (.inr rfl))
    simp only [List.mapM_cons, resV, e, asAddr]
    simp [ih, this]
  | agg hx hb hv hn _ ih =>
    rename_i t ty n b off cs xs t' rs vs hti hh
    have e : a.tmps.getD _ undef = _ := hx.eval ha
    have := run_loadVar_of (run_loadAt (P := P) (t := ty) (off := off) (hb.block hw) hv.eq hn (.inl rfl))
    simp only [List.mapM_cons, resV, e, asAddr]
    simp [ih, this]
theorem hd_res {fn : Func} {n : Nat} {Post : Value → PH → List HE → Prop} {rs : List ResultVar} {vs : List Value} {e : Exit} (he : e = .ret ∨ e = .normal) (hr : fn.results = rs.toArray) (hv : Res P L H rs vs)
    (hp : ∀ w, Inv C H h w → ∃ h' Ho, Post (ofVs vs) h' Ho ∧ Inv C Ho h' w) : Hd C ⟨n, []⟩ L H h (bodyPost P fn (PostR C Post) e) := by
  refine ⟨fun a w ha hw => ?_⟩
  obtain ⟨h', Ho, hpost, hinv⟩ := hp w hw
  have hrun := hv.run ha hw
  have : (results fn a.tmps).run P w = .ok (ofVs vs) w := by
    rw [results_eq, hr, List.mapM_toArray]
    match vs, hrun with
    | [], hrun => simp [ofVs, hrun]
    | [v], hrun => simp [ofVs, hrun]
    | v :: v' :: r, hrun => simp [ofVs, hrun]
  exact body_ret he ha.defers this ⟨_, h', Ho, rfl, hpost, hinv⟩
theorem hd_res0 {fn : Func} {n : Nat} {Post : Value → PH → Prop} {rs : List ResultVar} {vs : List Value} {e : Exit} (he : e = .ret ∨ e = .normal) (hr : fn.results = rs.toArray) (hv : Res P L H rs vs)
    (hp : Post (ofVs vs) h) : Hd C ⟨n, []⟩ L H h (bodyPost P fn (PostR C fun v h' Ho => Post v h' ∧ Ho = []) e) :=
  hd_res he hr hv fun _ hw => ⟨h, [], ⟨hp, rfl⟩, hw.drop⟩

/-! ### Calls -/
class TFn (P : Program) (f : FuncId) : Prop where
  eq : (P.funcs[f]?).map (fun fn => (fn.name == "runtime.NumGoroutine", fn.body.isNone)) = some (false, false)
theorem run_callFunc {f : FuncId} [TFn P f] (args : Array Value) (w : World) : (callFunc f args).run P w = .ok (.enter f args) w := by
  have hf := TFn.eq (P := P) (f := f)
  cases hq : P.funcs[f]? with
  | none => simp [hq] at hf
  | some fn =>
    simp [hq] at hf
    obtain ⟨h1, h2⟩ := hf
    have h2' : fn.body.isNone = false := by simpa using h2
    simp only [callFunc, Sem.run_bind, run_program, Result.andThen_ok, hq]
    rw [if_neg (by simpa using h1), if_neg (by simp [h2'])]
    rfl
theorem run_call {ρ : Operand → Value} {x : Operand} {xs : List Operand} {at_ : Array TypeId} {f : FuncId} [TFn P f] {fs cs vs : List Value} (hx : ρ x = .func (.func f) fs.toArray cs.toArray) (hxs : xs.map ρ = vs) (w : World) :
    (execOp ρ ⟨dst, .call ⟨.value x, xs.toArray, at_⟩, ty, pos, after, gd⟩).run P w = .ok (.enter f (fs ++ vs ++ cs).toArray) w := by
  simp only [execOp, resolve, hx, Deferred.ofValue, Sem.run_bind, Sem.run_pure, Result.andThen_ok, invoke]
  rw [show (xs.toArray.map ρ) = vs.toArray by rw [← hxs]; simp]
  rw [run_callFunc]
  simp
theorem od_call {x : Operand} {xs : List Operand} {at_ : Array TypeId} {f : FuncId} {cs vs as : List Value} {v : Value} (hx : Ev L x (.func (.func f) #[] cs.toArray)) (hf : TFn P f) (hxs : Evs L xs vs) (has : Nf (vs ++ cs) as)
    (hd : Det P f as.toArray h v) : OD P C ⟨dst, .call ⟨.value x, xs.toArray, at_⟩, ty, pos, after, gd⟩ L H h v := by
  refine ⟨fun a ha w hw => ?_⟩
  have e1 := ha x (by simp [Op.operands, Call.operands]) _ hx
  have e2 := hxs.map (ρ := a.eval) (fun y hy => ha y (by simp [Op.operands, Call.operands, hy]))
  have := run_call (P := P) (dst := dst) (ty := ty) (pos := pos) (after := after) (gd := gd) (at_ := at_) (fs := []) e1 e2 w
  unfold Oper.quietAt
  rw [this]
  refine ⟨rfl, ?_⟩
  simp only [List.nil_append]
  rw [has.eq]
  obtain ⟨l, he, hs, hc⟩ := hw
  refine (hd w [] rfl ⟨by simp, by simp, hs.pub, by simp⟩).mono ?_
  rintro e w' ⟨v', h', Ho, rfl, ⟨rfl, rfl⟩, hi⟩
  refine ⟨rfl, ?_⟩
  have hn := Inv.call (Hi := []) (li := []) rfl he hs hc hi
  exact hn.less (Inv.le0 hi) hc.le
/-- A call in the order of the text, with private blocks handed over. -/
theorem hd_callM {x : Operand} {xs : List Operand} {at_ : Array TypeId} {f : FuncId} {cs vs as : List Value} {d : Nat} {Hi Hf : List HE} {Post : Value → PH → List HE → Prop} (hx : Ev L x (.func (.func f) #[] cs.toArray)) (hf : TFn P f) (hxs : Evs L xs vs)
    (has : Nf (vs ++ cs) as) (hN : Nat.blt d N.n = true) (hH : ∀ w, Inv C H h w → Inv C (Hi ++ Hf) h w) (hs : SpecM P f as.toArray h Hi Post)
    (next : ∀ v h' Ho, h.le h' → Post v h' Ho → Hd C N ((d, [], v) :: L) (Ho ++ Hf) h' (wpList P ops Q rest)) :
    Hd C N L H h (wpList P ops Q (⟨some d, .call ⟨.value x, xs.toArray, at_⟩, ty, pos, after, none⟩ :: rest)) := by
  refine ⟨fun a w ha hw => ?_⟩
  have e1 := hx.eval ha
  have e2 := hxs.map (ρ := a.eval) (fun y _ u hu => hu.eval ha)
  have hrun := run_call (P := P) (dst := some d) (ty := ty) (pos := pos) (after := after) (gd := none) (at_ := at_) (fs := []) e1 e2 w
  simp only [wpList]
  rw [if_pos (by simp [Region.wanted])]
  unfold opw
  rw [hrun]
  simp only [up, List.nil_append]
  rw [has.eq]
  obtain ⟨l, he, hsp, hc⟩ := hH w hw
  obtain ⟨li, lf, rfl, hei, hef⟩ := ents_append.1 he
  have hsi : Sep w h li := by
    have hnd := hsp.nodup
    rw [List.map_append, List.nodup_append] at hnd
    exact ⟨hnd.1, fun b o hm => hsp.mem b o (List.mem_append_left _ hm), hsp.pub, fun b o hm => hsp.sep b o (List.mem_append_left _ hm)⟩
  refine (hs w li hei hsi).mono ?_
  rintro e w' ⟨v, h', Ho, rfl, hp, hi⟩
  have hn := Inv.call hei hef hsp hc hi
  refine ⟨v, rfl, ?_⟩
  refine (next v h' Ho (Inv.le0 hi) hp).all _ _ ?_ hn
  have := ha.put (g := []) (v := v) (d := d) (by simpa using hN)
  simpa [G, satB] using this
theorem hd_call {x : Operand} {xs : List Operand} {at_ : Array TypeId} {f : FuncId} {cs vs as : List Value} {d : Nat} {Post : Value → PH → Prop} (hx : Ev L x (.func (.func f) #[] cs.toArray)) (hf : TFn P f) (hxs : Evs L xs vs)
    (has : Nf (vs ++ cs) as) (hN : Nat.blt d N.n = true) (hs : Spec P f as.toArray h Post)
    (next : ∀ v h', h.le h' → Post v h' → Hd C N ((d, [], v) :: L) H h' (wpList P ops Q rest)) :
    Hd C N L H h (wpList P ops Q (⟨some d, .call ⟨.value x, xs.toArray, at_⟩, ty, pos, after, none⟩ :: rest)) :=
  hd_callM (Hi := []) (Hf := H) hx hf hxs has hN (fun _ hw => hw) hs fun v h' Ho hl ⟨hp, e⟩ => by subst e; exact next v h' hl hp

/-! ### New boxes -/
theorem Inv.alloc {w : World} (hw : Inv C H h w) (cs : List Value) (t : TypeId) : Inv C (box w.heap.size cs t :: H) h (w.alloc (.cells cs.toArray t (0, 0))) := by
  obtain ⟨l, he, hs, hc⟩ := hw
  have blt : ∀ b o, (b, o) ∈ l → b < w.heap.size := fun b o hm => (Array.getElem?_eq_some_iff.1 (hs.mem b o hm)).1
  have plt : ∀ b o, h b = some o → b < w.heap.size := fun b o e => (Array.getElem?_eq_some_iff.1 (hs.pub b o e)).1
  have old : ∀ k, k < w.heap.size → (w.alloc (.cells cs.toArray t (0, 0))).heap[k]? = w.heap[k]? := fun k hk => RowKit.Below.heap_alloc w _ k hk
  have hnew : (w.alloc (.cells cs.toArray t (0, 0))).heap[w.heap.size]? = some (.cells cs.toArray t (0, 0)) := by
    show (w.heap.push _)[w.heap.size]? = _
    simp
  have hsz : (w.alloc (.cells cs.toArray t (0, 0))).heap.size = w.heap.size + 1 := by
    show (w.heap.push _).size = _
    simp
  refine ⟨(w.heap.size, .cells cs.toArray t (0, 0)) :: l, ⟨[_], l, rfl, rfl, he⟩, ⟨?_, ?_, ?_, ?_⟩, ⟨hc.os, hc.tape, hc.output, by rw [hsz]; have := hc.size; omega, ?_, hc.le, hc.fresh, ?_⟩⟩
  · simp only [List.map_cons, List.nodup_cons]
    refine ⟨fun hm => ?_, hs.nodup⟩
    obtain ⟨⟨b, o⟩, hm, e⟩ := List.mem_map.1 hm
    have := blt b o hm
    simp at e; omega
  · intro b o hm
    rcases List.mem_cons.1 hm with e | hm
    · simp at e; rw [e.1, e.2]; exact hnew
    · rw [old b (blt b o hm)]; exact hs.mem b o hm
  · intro b o e; rw [old b (plt b o e)]; exact hs.pub b o e
  · intro b o hm
    rcases List.mem_cons.1 hm with e | hm
    · simp at e
      cases e2 : h b with
      | none => rfl
      | some o' => have := plt b o' e2; omega
    · exact hs.sep b o hm
  · intro k hk hb; rw [old k (by have := hc.size; omega)]; exact hc.old k hk hb
  · intro b o hm
    rcases List.mem_cons.1 hm with e | hm
    · simp at e; left; rw [e.1]; exact hc.size
    · exact hc.own b o hm
theorem hd_box {T : TypeId} {x : Operand} {v : Value} {cs : List Value} {d : Nat} (hx : Ev L x v) (hv : v.cells = cs.toArray) (hN : Nat.blt d N.n = true)
    (next : ∀ b, Hd C N ((d, [], .pointer (some ⟨b, 0, none⟩)) :: L) (box b cs T :: H) h (wpList P ops Q rest)) :
    Hd C N L H h (wpList P ops Q (⟨some d, .box T x, ty, pos, after, none⟩ :: rest)) := by
  refine ⟨fun a w ha hw => ?_⟩
  have e1 := hx.eval ha
  simp only [wpList]
  rw [if_pos (by simp [Region.wanted])]
  have hrun : (execOp a.eval ⟨some d, .box T x, ty, pos, after, none⟩).run P w = .ok (.value (.pointer (some ⟨w.heap.size, 0, none⟩))) (w.alloc (.cells cs.toArray T (0, 0))) := by
    simp [execOp, e1, Instr.box, newVar, newRow, hv]
  unfold opw
  rw [hrun]
  refine (next w.heap.size).all _ _ ?_ (hw.alloc cs T)
  have := ha.put (g := []) (v := .pointer (some ⟨w.heap.size, 0, none⟩)) (d := d) (by simpa using hN)
  simpa [G, satB] using this
theorem run_zero {t : TypeId} {cs : List Value} [TZero P t cs] (w : World) : ∃ z, (zeroValue t).run P w = .ok z w ∧ z.cells = cs.toArray := by
  rcases TZero.eq (P := P) (t := t) with e | ⟨v, rfl, e, hv⟩
  · cases hi : P.info? t with
    | none => simp [hi] at e
    | some i => simp [hi] at e; exact ⟨.agg cs.toArray, by simp [zeroValue, typeInfo, hi, e], rfl⟩
  · cases hi : P.info? t with
    | none => simp [hi] at e
    | some i => simp [hi] at e; exact ⟨v, by simp [zeroValue, typeInfo, hi, e], hv⟩
theorem hd_alloc {T : TypeId} {cs : List Value} {d : Nat} [TZero P T cs] (hN : Nat.blt d N.n = true)
    (next : ∀ b, Hd C N ((d, [], .pointer (some ⟨b, 0, none⟩)) :: L) (box b cs T :: H) h (wpList P ops Q rest)) :
    Hd C N L H h (wpList P ops Q (⟨some d, .alloc T, ty, pos, after, none⟩ :: rest)) := by
  refine ⟨fun a w ha hw => ?_⟩
  simp only [wpList]
  rw [if_pos (by simp [Region.wanted])]
  obtain ⟨z, hz, hzc⟩ := run_zero (P := P) (t := T) w
  have hrun : (execOp a.eval ⟨some d, .alloc T, ty, pos, after, none⟩).run P w = .ok (.value (.pointer (some ⟨w.heap.size, 0, none⟩))) (w.alloc (.cells cs.toArray T (0, 0))) := by
    simp [execOp, Instr.alloc, hz, newVar, newRow, hzc]
  unfold opw
  rw [hrun]
  refine (next w.heap.size).all _ _ ?_ (hw.alloc cs T)
  have := ha.put (g := []) (v := .pointer (some ⟨w.heap.size, 0, none⟩)) (d := d) (by simpa using hN)
  simpa [G, satB] using this
end
end Go.GV
