/- Ranges over a function: the iterator's contract, the caller's rule, in the small logic. -/
import Derived.Test.YtikkkfamflmgeaaGvZ
namespace Go.GV
open Go

/-! ### Blocks of the machine's own -/
def obj (b : Nat) (o : Obj) : HE := fun l => l = [(b, o)]
def dfr (D : Nat) : HE := obj D (.deferred (some []))
def lp (l : Nat) (r : Loop) (s : LoopState) (p : Option Code) : HE := obj l (.loop { r with state := s, pending := p })
theorem put_turned {w : World} {b : Nat} {o o' : Obj} (hb : w.heap[b]? = some o) : Turned w (w.putObj b o') b o' := by
  have hlt := (Array.getElem?_eq_some_iff.1 hb).1
  exact ⟨rfl, rfl, rfl, by simp [World.putObj], World.putObj_heap_same hlt, fun k hk => World.putObj_heap_other hk⟩
section
variable {C : Ctx} {H : List HE} {h : PH} {w : World}
theorem Inv.objAt {b : Nat} {o : Obj} (hw : Inv C (obj b o :: H) h w) : w.heap[b]? = some o := by
  obtain ⟨l, ⟨l1, l2, rfl, e1, _⟩, hs, _⟩ := hw
  rw [show l1 = _ from e1] at hs
  exact hs.mem b o (by simp)
theorem Inv.putO {b : Nat} {o : Obj} (o' : Obj) (hw : Inv C (obj b o :: H) h w) : Inv C (obj b o' :: H) h (w.putObj b o') := Inv.turn1 hw (put_turned hw.objAt)
theorem Inv.last {x : HE} (hw : Inv C (H ++ [x]) h w) : Inv C (x :: H) h w := Inv.perm List.perm_append_comm hw
theorem Inv.first {x : HE} (hw : Inv C (x :: H) h w) : Inv C (H ++ [x]) h w := Inv.perm (List.perm_append_comm (l₁ := [x])) hw
theorem Inv.allocO (hw : Inv C H h w) (o : Obj) : Inv C (obj w.heap.size o :: H) h (w.alloc o) := by
  obtain ⟨l, he, hs, hc⟩ := hw
  have blt : ∀ b o, (b, o) ∈ l → b < w.heap.size := fun b o hm => (Array.getElem?_eq_some_iff.1 (hs.mem b o hm)).1
  have plt : ∀ b o, h b = some o → b < w.heap.size := fun b o e => (Array.getElem?_eq_some_iff.1 (hs.pub b o e)).1
  have old : ∀ k, k < w.heap.size → (w.alloc o).heap[k]? = w.heap[k]? := fun k hk => RowKit.Below.heap_alloc w _ k hk
  have hnew : (w.alloc o).heap[w.heap.size]? = some o := by
    show (w.heap.push _)[w.heap.size]? = _
    simp
  have hsz : (w.alloc o).heap.size = w.heap.size + 1 := by
    show (w.heap.push _).size = _
    simp
  refine ⟨(w.heap.size, o) :: l, ⟨[_], l, rfl, rfl, he⟩, ⟨?_, ?_, ?_, ?_⟩, ⟨hc.os, hc.tape, hc.output, by rw [hsz]; have := hc.size; omega, ?_, hc.le, hc.fresh, ?_⟩⟩
  · simp only [List.map_cons, List.nodup_cons]
    refine ⟨fun hm => ?_, hs.nodup⟩
    obtain ⟨⟨b, o⟩, hm, e⟩ := List.mem_map.1 hm
    have := blt b o hm
    simp at e; omega
  · intro b o' hm
    rcases List.mem_cons.1 hm with e | hm
    · simp at e; rw [e.1, e.2]; exact hnew
    · rw [old b (blt b o' hm)]; exact hs.mem b o' hm
  · intro b o' e; rw [old b (plt b o' e)]; exact hs.pub b o' e
  · intro b o' hm
    rcases List.mem_cons.1 hm with e | hm
    · simp at e
      cases e2 : h b with
      | none => rfl
      | some o' => have := plt b o' e2; omega
    · exact hs.sep b o' hm
  · intro k hk hb; rw [old k (by have := hc.size; omega)]; exact hc.old k hk hb
  · intro b o' hm
    rcases List.mem_cons.1 hm with e | hm
    · simp at e; left; rw [e.1]; exact hc.size
    · exact hc.own b o' hm
end

/-! ### The call of yield -/
def YieldsB (P : Program) (l : Nat) (args : Array Value) (h : PH) (Hi : List HE) (Post : Value → PH → List HE → Prop) : Prop :=
  ∀ w bl, Ents Hi bl → Sep w h bl → YieldAt Fence.wide 0 P l args w (PostR ⟨w, h, bl.map (·.1)⟩ Post)
section
variable {ρ : Option Nat} {P : Program} {C : Ctx} {N : Fr} {L : En} {H : List HE} {h : PH} {dst : Option Tmp} {ty : TypeId} {pos : String} {after : Array Edge} {gd : Option (Nat × Bool)}
variable {ops : Array Oper} {o : Oper} {rest : List Oper} {Q : Exit → Act → World → Prop}
theorem hd_yield {x : Operand} {xs : List Operand} {at_ : Array TypeId} {l : Nat} {vs : List Value} {d : Nat} {Hi Hf : List HE} {Post : Value → PH → List HE → Prop} (hx : Ev L x (.func (.yield l) #[] #[])) (hxs : Evs L xs vs)
    (hN : Nat.blt d N.n = true) (hH : ∀ w, Inv C H h w → Inv C (Hi ++ Hf) h w) (hs : YieldsB P l vs.toArray h Hi Post)
    (next : ∀ v h' Ho, h.le h' → Post v h' Ho → Hd C N ((d, [], v) :: L) (Ho ++ Hf) h' (wpList P ops Q rest)) :
    Hd C N L H h (wpList P ops Q (⟨some d, .call ⟨.value x, xs.toArray, at_⟩, ty, pos, after, none⟩ :: rest)) := by
  refine ⟨fun a w ha hw => ?_⟩
  have e1 := hx.eval ha
  have e2 := hxs.map (ρ := a.eval) (fun y _ u hu => hu.eval ha)
  obtain ⟨bl, he, hsp, hc⟩ := hH w hw
  obtain ⟨li, lf, rfl, hei, hef⟩ := ents_append.1 he
  have hsi : Sep w h li := by
    have hnd := hsp.nodup
    rw [List.map_append, List.nodup_append] at hnd
    exact ⟨hnd.1, fun b o hm => hsp.mem b o (List.mem_append_left _ hm), hsp.pub, fun b o hm => hsp.sep b o (List.mem_append_left _ hm)⟩
  obtain ⟨fn, tmps, assign, body, hy, hr⟩ := hs w li hei hsi
  have hrun : (execOp a.eval ⟨some d, .call ⟨.value x, xs.toArray, at_⟩, ty, pos, after, none⟩).run P w = .ok (.round l fn tmps assign body) w := by
    rw [← hy]
    simp [execOp, resolve, e1, e2, invoke, Deferred.ofValue]
  simp only [wpList]
  rw [if_pos (by simp [Region.wanted])]
  unfold opw
  rw [hrun]
  simp only [up]
  refine hr.mono ?_
  rintro e w' ⟨v, h', Ho, rfl, hp, hi⟩
  have hn := Inv.call hei hef hsp hc hi
  refine ⟨v, rfl, ?_⟩
  refine (next v h' Ho (Inv.le0 hi) hp).all _ _ ?_ hn
  have := ha.put (g := []) (v := v) (d := d) (by simpa using hN)
  simpa [G, satB] using this

/-! ### The iterator's contract: it calls yield with values as 'V' says, 'm' times, unless it is told to stop. -/
def IterOf (P : Program) (gf : FuncId) (lb : List Value) (h : PH) (V : Nat → List Value → PH → Prop) (m : Nat) : Prop :=
  ∀ (l : Nat) (St : Nat → PH → List HE → Prop) (JX : PH → List HE → Prop) (H0 : List HE), St 0 h H0 →
    (∀ k hk Hk vs, k < m → h.le hk → St k hk Hk → V k vs hk → YieldsB P l vs.toArray hk Hk (fun v h' Ho => (v = .bool true ∧ St (k + 1) h' Ho) ∨ (v = .bool false ∧ JX h' Ho))) →
    SpecM P gf (.func (.yield l) #[] #[] :: lb).toArray h H0 (fun _ h' Ho => St m h' Ho ∨ JX h' Ho)

/-! ### The caller's rule -/
/-- The slots of a round: the loop's parameters over the others. -/
def enPs : List Nat → List Value → En → En
  | p :: ps, v :: vs, L => enPs ps vs ((p, [], v) :: L)
  | _, _, L => L
theorem enPs_ok {n : Nat} : ∀ (ps : List Nat) (vs : List Value) (L : En) (tmps : Array Value), (ps.all fun p => Nat.blt p n) = true → EnOK ⟨tmps, []⟩ ⟨n, []⟩ L → EnOK ⟨(ps.zip vs).foldl (fun t p => t.setIfInBounds p.1 p.2) tmps, []⟩ ⟨n, []⟩ (enPs ps vs L)
  | [], _, _, _, _, hh => by simpa [enPs] using hh
  | _ :: _, [], _, _, _, hh => by simpa [enPs] using hh
  | p :: ps, v :: vs, L, tmps, hp, hh => by
    simp only [List.all_cons, Bool.and_eq_true] at hp
    simp only [List.zip_cons_cons, List.foldl_cons, enPs]
    refine enPs_ok ps vs _ _ hp.2 ?_
    have := hh.put (d := p) (g := []) (v := v) (by simpa using hp.1)
    simpa [Act.put, G, satB] using this
/-- A round begins. -/
def rnd (P : Program) (l : Nat) (body : Code) (Qb : Exit → Act → World → Prop) : Act → World → Prop := fun a w => ∃ w2, (Instr.beginRound l).run P w = .ok () w2 ∧ cw (some l) P body Qb a w2
/-- How a round may end. -/
def rPost (C : Ctx) (St : Nat → PH → List HE → Prop) (JX : Code → PH → List HE → Prop) (k l : Nat) (r : Loop) : Exit → Act → World → Prop
  | .normal, _, w => ∃ h' Ho, Inv C (Ho ++ [lp l r .busy none]) h' w ∧ St (k + 1) h' Ho
  | .ret, _, w => ∃ h' Ho, Inv C (Ho ++ [lp l r .busy none]) h' w ∧ JX .ret h' Ho
  | .exit id, _, w => ∃ h' Ho, Inv C (Ho ++ [lp l r .busy none]) h' w ∧ JX (.exit id) h' Ho
  | _, _, _ => False
theorem hd_begin {l : Nat} {r : Loop} {H' : List HE} {body : Code} {Qb : Exit → Act → World → Prop} (hpk : Pick H (lp l r .ready none) H') (next : Hd C N L (lp l r .busy none :: H') h (cw (some l) P body Qb)) : Hd C N L H h (rnd P l body Qb) := by
  refine ⟨fun a w ha hw => ?_⟩
  have hp := hw.pick hpk
  exact ⟨_, run_beginRound (r := { r with state := .ready, pending := none }) hp.objAt rfl, next.all _ _ ha (hp.putO _)⟩
theorem hd_next {St : Nat → PH → List HE → Prop} {JX : Code → PH → List HE → Prop} {k l : Nat} {r : Loop} (Ho : List HE) (hH : ∀ w, Inv C H h w → Inv C (Ho ++ [lp l r .busy none]) h w) (hs : St (k + 1) h Ho) : Hd C N L H h (rPost C St JX k l r .normal) :=
  ⟨fun _ w _ hw => ⟨h, Ho, hH w hw, hs⟩⟩
theorem hd_out_r {St : Nat → PH → List HE → Prop} {JX : Code → PH → List HE → Prop} {k l : Nat} {r : Loop} (Ho : List HE) (hH : ∀ w, Inv C H h w → Inv C (Ho ++ [lp l r .busy none]) h w) (hs : JX .ret h Ho) : Hd C N L H h (rPost C St JX k l r .ret) :=
  ⟨fun _ w _ hw => ⟨h, Ho, hH w hw, hs⟩⟩
theorem hd_out_e {St : Nat → PH → List HE → Prop} {JX : Code → PH → List HE → Prop} {k l id : Nat} {r : Loop} (Ho : List HE) (hH : ∀ w, Inv C H h w → Inv C (Ho ++ [lp l r .busy none]) h w) (hs : JX (.exit id) h Ho) : Hd C N L H h (rPost C St JX k l r (.exit id)) :=
  ⟨fun _ w _ hw => ⟨h, Ho, hH w hw, hs⟩⟩

theorem hd_rangeFunc {n : Nat} {ds : List Deferred} {g : Operand} {ps : List Tmp} {assign body : Code} {gf : FuncId} {lb : List Value} (St : Nat → PH → List HE → Prop) (JX : Code → PH → List HE → Prop) {V : Nat → List Value → PH → Prop} {m : Nat}
    (hg : Ev L g (.func (.func gf) #[] lb.toArray)) (hf : TFn P gf) (hlt : (ps.all fun p => Nat.blt p n) = true) (hit : IterOf P gf lb h V m) (hps : ∀ k vs h', V k vs h' → vs.length = ps.length) (h0 : St 0 h H)
    (hbody : ∀ C' l r k hk Hk vs, k < m → h.le hk → St k hk Hk → V k vs hk → Hd C' ⟨n, []⟩ (enPs ps vs L) (Hk ++ [lp l r .ready none]) hk (cw (some l) P assign (Exit.then (rnd P l body (rPost C' St JX k l r)) (fun _ _ _ => False))))
    (next : ∀ D h' H', h.le h' → St m h' H' → Hd C ⟨n, ⟨.collected D, #[]⟩ :: ds⟩ L (H' ++ [dfr D]) h' (Q .normal))
    (stop : ∀ D c h' H', h.le h' → JX c h' H' → Hd C ⟨n, ⟨.collected D, #[]⟩ :: ds⟩ L (H' ++ [dfr D]) h' (cw none P c Q)) :
    Hd C ⟨n, ds⟩ L H h (cw none P (Code.rangeFunc g ps.toArray assign body) Q) := by
  refine ⟨fun a w ha hw => ?_⟩
  have hev := hg.eval ha
  show (Code.rangeFunc g ps.toArray assign body).wpIn Fence.wide 0 P Q a w
  refine wpIn_rangeFunc ?_
  intro fn _
  obtain ⟨rec, hrec⟩ : ∃ rec : Loop, rec = { state := .ready, pending := none, fn, tmps := a.tmps, params := ps.toArray, assign, body, defers := w.heap.size } := ⟨_, rfl⟩
  have hinv1 : Inv C (obj (w.heap.size + 1) (.loop rec) :: dfr w.heap.size :: H) h ((w.alloc (.deferred (some []))).alloc (.loop rec)) := by
    have := (hw.allocO (.deferred (some []))).allocO (.loop rec)
    rwa [World.size_alloc] at this
  have hrl : lp (w.heap.size + 1) rec .ready none = obj (w.heap.size + 1) (.loop rec) := by rw [hrec]; rfl
  have hinv2 : Inv C ((H ++ [lp (w.heap.size + 1) rec .ready none]) ++ [dfr w.heap.size]) h ((w.alloc (.deferred (some []))).alloc (.loop rec)) := by
    rw [hrl]
    refine Inv.perm ?_ hinv1
    have e : H ++ [obj (w.heap.size + 1) (.loop rec)] ++ [dfr w.heap.size] = H ++ [obj (w.heap.size + 1) (.loop rec), dfr w.heap.size] := by simp
    rw [e]
    exact (List.perm_append_comm (l₁ := [obj (w.heap.size + 1) (.loop rec), dfr w.heap.size]))
  refine ⟨w.heap.size + 1, [{ target := .collected w.heap.size, args := #[] }], (w.alloc (.deferred (some []))).alloc (.loop rec), { target := .fn (.func gf) lb.toArray, args := #[.func (.yield (w.heap.size + 1)) #[] #[]] }, (w.alloc (.deferred (some []))).alloc (.loop rec), gf,
    (.func (.yield (w.heap.size + 1)) #[] #[] :: lb).toArray, (w.alloc (.deferred (some []))).alloc (.loop rec), ?_, ?_, fun _ _ => trivial, ?_, fun hh => by simp [Fence.wide] at hh, ?_⟩
  · rw [hrec]; exact run_enterLoop_outer _ _ _ _ _
  · simp only [resolve, hev]
    simp [go_sem]
  · have := run_callFunc (P := P) (f := gf) (.func (.yield (w.heap.size + 1)) #[] #[] :: lb).toArray ((w.alloc (.deferred (some []))).alloc (.loop rec))
    simpa [invoke] using this
  · refine (callsIn_wide (n := 0 - 1)).2 ?_
    obtain ⟨bl, he, hsp, hc⟩ := hinv2
    obtain ⟨li, lf, rfl, hei, hef⟩ := ents_append.1 he
    have hsi : Sep ((w.alloc (.deferred (some []))).alloc (.loop rec)) h li := by
      have hnd := hsp.nodup
      rw [List.map_append, List.nodup_append] at hnd
      exact ⟨hnd.1, fun b o hm => hsp.mem b o (List.mem_append_left _ hm), hsp.pub, fun b o hm => hsp.sep b o (List.mem_append_left _ hm)⟩
    have hspec := hit (w.heap.size + 1) (fun k hk Hk' => ∃ Hk, Hk' = Hk ++ [lp (w.heap.size + 1) rec .ready none] ∧ St k hk Hk) (fun h' Ho' => ∃ c Ho, Ho' = Ho ++ [lp (w.heap.size + 1) rec .done (some c)] ∧ JX c h' Ho) (H ++ [lp (w.heap.size + 1) rec .ready none]) ⟨H, rfl, h0⟩ (by
      rintro k hk Hk' vs hkm hle ⟨Hk, rfl, hst⟩ hv W bl2 he2 hs2
      have hW : Inv ⟨W, hk, bl2.map (·.1)⟩ (Hk ++ [lp (w.heap.size + 1) rec .ready none]) hk W :=
        ⟨bl2, he2, hs2, ⟨rfl, rfl, rfl, Nat.le_refl _, fun _ _ _ => rfl, PH.le_refl _, fun b o e1 e2 => (by simp only at e2; rw [e1] at e2; cases e2), fun b o hm => .inr (List.mem_map.2 ⟨(b, o), hm, rfl⟩)⟩⟩
      have hl := hW.last.objAt
      have hl2 : W.heap[w.heap.size + 1]? = some (.loop rec) := by rw [hl, hrec]
      have hlen := hps k vs hk hv
      refine ⟨_, _, _, _, run_yield hl2 (by rw [hrec]; simp [hlen]), roundIn_of_wpIn trivial ?_⟩
      have hen : EnOK ⟨(ps.zip vs).foldl (fun t p => t.setIfInBounds p.1 p.2) a.tmps, []⟩ ⟨n, []⟩ (enPs ps vs L) := enPs_ok ps vs L a.tmps hlt ⟨ha.size, rfl, ha.at_⟩
      have key := (hbody ⟨W, hk, bl2.map (·.1)⟩ (w.heap.size + 1) rec k hk Hk vs hkm hle hst hv).all _ W hen hW
      have et : (rec.params.zip vs.toArray).foldl (fun tmps (x : Tmp × Value) => tmps.setIfInBounds x.1 x.2) rec.tmps = (ps.zip vs).foldl (fun t p => t.setIfInBounds p.1 p.2) a.tmps := by
        rw [hrec]; simp
      have ea : rec.assign = assign := by rw [hrec]
      have eb : rec.body = body := by rw [hrec]
      rw [ea, eb]
      have key2 : assign.wpIn (Fence.wide.inRound (w.heap.size + 1)) 0 P (Exit.then (rnd P (w.heap.size + 1) body (rPost ⟨W, hk, bl2.map (·.1)⟩ St JX k (w.heap.size + 1) rec)) (fun _ _ _ => False)) { tmps := (rec.params.zip vs.toArray).foldl (fun tmps (x : Tmp × Value) => tmps.setIfInBounds x.1 x.2) rec.tmps, defers := [] } W := by
        rw [et]; exact key
      refine wpIn_mono key2 ?_
      intro e a1 w1 hq
      cases e with
      | normal =>
        obtain ⟨w2, hb, hcw⟩ := hq
        refine ⟨w2, hb, wpIn_mono hcw ?_⟩
        intro e2 a2 w3 hq2
        cases e2 with
        | normal =>
          obtain ⟨h', Ho, hi, hs3⟩ := hq2
          refine ⟨_, _, run_endRound none hi.last.objAt, .bool true, h', _, rfl, .inl ⟨rfl, Ho, rfl, hs3⟩, (hi.last.putO _).first⟩
        | ret =>
          obtain ⟨h', Ho, hi, hs3⟩ := hq2
          refine ⟨_, _, run_endRound (some .ret) hi.last.objAt, .bool false, h', _, rfl, .inr ⟨rfl, .ret, Ho, rfl, hs3⟩, (hi.last.putO _).first⟩
        | exit id =>
          obtain ⟨h', Ho, hi, hs3⟩ := hq2
          refine ⟨_, _, run_endRound (some (.exit id)) hi.last.objAt, .bool false, h', _, rfl, .inr ⟨rfl, .exit id, Ho, rfl, hs3⟩, (hi.last.putO _).first⟩
        | goto _ => exact hq2.elim
        | panic _ => exact hq2.elim
        | outgrown => exact hq2.elim
      | _ => exact hq.elim)
    refine (hspec _ li hei hsi).mono ?_
    rintro e w3 ⟨v, h', Ho', rfl, hp, hi⟩
    have hn := Inv.call hei hef hsp hc hi
    have hle' := Inv.le0 hi
    have hen : ∀ D, EnOK { a with defers := [{ target := .collected D, args := #[] }] ++ a.defers } ⟨n, ⟨.collected D, #[]⟩ :: ds⟩ L := fun D => ⟨ha.size, by simp [ha.defers], ha.at_⟩
    rcases hp with ⟨Hm, rfl, hst⟩ | ⟨c, Ho, rfl, hj⟩
    · have hn2 : Inv C (lp (w.heap.size + 1) rec .ready none :: (Hm ++ [dfr w.heap.size])) h' w3 := by
        refine Inv.perm ?_ hn
        rw [List.append_assoc]
        exact List.perm_middle
      refine ⟨none, _, run_endLoop hn2.objAt (by simp), ?_⟩
      exact (next w.heap.size h' Hm hle' hst).all _ _ (hen _) (hn2.putO _).drop1
    · have hn2 : Inv C (lp (w.heap.size + 1) rec .done (some c) :: (Ho ++ [dfr w.heap.size])) h' w3 := by
        refine Inv.perm ?_ hn
        rw [List.append_assoc]
        exact List.perm_middle
      refine ⟨some c, _, run_endLoop hn2.objAt (by simp), ?_⟩
      exact (stop w.heap.size c h' Ho hle' hj).all _ _ (hen _) (hn2.putO _).drop1

/-- A return behind such a loop: its mark is taken away. -/
theorem hd_undefer {n : Nat} {ds : List Deferred} {D : Nat} {H' : List HE} {fn : Func} {R : Ending → World → Prop} {e : Exit} (he : e = .ret ∨ e = .normal) (hpk : Pick H (dfr D) H') (next : Hd C ⟨n, ds⟩ L H' h (bodyPost P fn R e)) : Hd C ⟨n, ⟨.collected D, #[]⟩ :: ds⟩ L H h (bodyPost P fn R e) := by
  refine ⟨fun a w ha hw => ?_⟩
  have hp := hw.pick hpk
  have := next.all { a with defers := ds } (w.putObj D (.deferred none)) ⟨ha.size, rfl, ha.at_⟩ (hp.putO (.deferred none)).drop1
  have e1 : a.defers = ⟨.collected D, #[]⟩ :: ds := ha.defers
  rcases he with rfl | rfl <;> (show LeavesInM Fence.wide 0 P fn a.tmps R a.defers .returning w) <;> rw [e1] <;> exact ⟨by simp, .inl ⟨D, _, rfl, run_takeDeferred hp.objAt, this⟩⟩
end
end Go.GV
