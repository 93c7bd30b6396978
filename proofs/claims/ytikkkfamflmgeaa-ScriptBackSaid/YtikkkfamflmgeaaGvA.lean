/- A small logic over the kit's weakest preconditions: states are told by a list of known slots, a list of private blocks and a map of shared (never written) blocks; operations in regions are told by one value each. -/
import Derived.Test.YtikkkfamflmgeaaGv0
namespace Go.GV
open Go

/-! ### Public memory, private blocks -/
abbrev PH := Nat → Option Obj
def PH.le (h h' : PH) : Prop := ∀ b o, h b = some o → h' b = some o
theorem PH.le_refl (h : PH) : h.le h := fun _ _ x => x
theorem PH.le_trans {a b c : PH} (x : a.le b) (y : b.le c) : a.le c := fun k o e => y k o (x k o e)
abbrev Blk := Nat × Obj
abbrev HE := List Blk → Prop
def Ents : List HE → List Blk → Prop
  | [], l => l = []
  | e :: H, l => ∃ l1 l2, l = l1 ++ l2 ∧ e l1 ∧ Ents H l2
def box (b : Nat) (cs : List Value) (t : TypeId) : HE := fun l => l = [(b, .cells cs.toArray t (0, 0))]

structure Sep (w : World) (h : PH) (l : List Blk) : Prop where
  nodup : (l.map (·.1)).Nodup
  mem : ∀ b o, (b, o) ∈ l → w.heap[b]? = some o
  pub : ∀ b o, h b = some o → w.heap[b]? = some o
  sep : ∀ b o, (b, o) ∈ l → h b = none

structure Ctx where
  w0 : World
  h0 : PH
  bs : List Nat

/-- What became of the world since the call began. -/
structure Since (C : Ctx) (w : World) (h : PH) (l : List Blk) : Prop where
  os : w.os = C.w0.os
  tape : w.tape = C.w0.tape
  output : w.output = C.w0.output
  size : C.w0.heap.size ≤ w.heap.size
  old : ∀ k, k < C.w0.heap.size → k ∉ C.bs → w.heap[k]? = C.w0.heap[k]?
  le : C.h0.le h
  fresh : ∀ b o, h b = some o → C.h0 b = none → C.w0.heap.size ≤ b ∨ b ∈ C.bs
  own : ∀ b o, (b, o) ∈ l → C.w0.heap.size ≤ b ∨ b ∈ C.bs

def Inv (C : Ctx) (H : List HE) (h : PH) (w : World) : Prop := ∃ l, Ents H l ∧ Sep w h l ∧ Since C w h l

/-! ### Slots -/
def satB : List (Bool × Bool) → Bool
  | [] => true
  | (c, w) :: r => (c == w) && satB r
def Sat : List (Bool × Bool) → Prop
  | [] => True
  | (c, w) :: r => c = w ∧ Sat r
theorem sat_iff : ∀ g, Sat g ↔ satB g = true
  | [] => by simp [Sat, satB]
  | (c, w) :: r => by simp [Sat, satB, sat_iff r]
def G (g : List (Bool × Bool)) (v : Value) : Value := bif satB g then v else undef
theorem G_sat {g : List (Bool × Bool)} {v : Value} (h : Sat g) : G g v = v := by simp [G, (sat_iff g).1 h]
theorem G_not {g : List (Bool × Bool)} {v : Value} (h : ¬ Sat g) : G g v = undef := by
  have : satB g = false := by cases e : satB g with
    | false => rfl
    | true => exact absurd ((sat_iff g).2 e) h
  simp [G, this]
abbrev En := List (Nat × List (Bool × Bool) × Value)
def look : En → Nat → Option (List (Bool × Bool) × Value)
  | [], _ => none
  | (k, gv) :: r, s => bif Nat.beq k s then some gv else look r s
structure EnOK (a : Act) (N : Fr) (L : En) : Prop where
  size : a.tmps.size = N.n
  defers : a.defers = N.ds
  at_ : ∀ s g v, look L s = some (g, v) → a.tmps[s]? = some (G g v)
def evo (L : En) : Operand → Option (List (Bool × Bool) × Value)
  | .tmp t => look L t
  | .const v => some ([], v)
  | .global g => some ([], .pointer (some ⟨g, 0, none⟩))
  | .func f => some ([], .func (.func f) #[] #[])
def Ev (L : En) (x : Operand) (v : Value) : Prop := ∃ g, evo L x = some (g, v) ∧ Sat g
theorem Ev.of {L : En} {x : Operand} {v : Value} (h : evo L x = some ([], v)) : Ev L x v := ⟨[], h, trivial⟩
theorem Ev.mk {L : En} {x : Operand} {v : Value} {g : List (Bool × Bool)} (h : evo L x = some (g, v)) (hs : Sat g) : Ev L x v := ⟨g, h, hs⟩
theorem Ev.eval {a : Act} {N : Fr} {L : En} {x : Operand} {v : Value} (ha : EnOK a N L) (h : Ev L x v) : a.eval x = v := by
  obtain ⟨g, hg, hs⟩ := h
  cases x with
  | tmp t =>
    have := ha.at_ t g v hg
    rw [G_sat hs] at this
    simp [Act.eval, this]
  | const u => simp [evo] at hg; simp [Act.eval, hg]
  | global k => simp [evo] at hg; simp [Act.eval, hg]
  | func f => simp [evo] at hg; simp [Act.eval, hg]

/-! ### Judgements: 'R' holds of every activation and world that match -/
structure Hd (C : Ctx) (N : Fr) (L : En) (H : List HE) (h : PH) (R : Act → World → Prop) : Prop where
  all : ∀ a w, EnOK a N L → Inv C H h w → R a w

/-- The operation yields 'v', whatever the world that matches. -/
structure OD (P : Program) (C : Ctx) (o : Oper) (L : En) (H : List HE) (h : PH) (v : Value) : Prop where
  run : ∀ a : Act, (∀ x ∈ o.op.operands, ∀ u, Ev L x u → a.eval x = u) → ∀ w, Inv C H h w → o.quietAt P a (Inv C H h) w v

/-- The world matches, perhaps with more private blocks and more that is known. -/
def SS (C : Ctx) (H : List HE) (h : PH) (w : World) : Prop := ∃ Hx h', h.le h' ∧ Inv C (Hx ++ H) h' w
theorem SS.of {C : Ctx} {H : List HE} {h : PH} {w : World} (hw : Inv C H h w) : SS C H h w := ⟨[], h, PH.le_refl _, hw⟩
/-- The operation yields 'v' and leaves the world as it is. -/
structure OP (P : Program) (C : Ctx) (o : Oper) (L : En) (H : List HE) (h : PH) (v : Value) : Prop where
  run : ∀ (ρ : Operand → Value) w, (∀ x ∈ o.op.operands, ∀ u, Ev L x u → ρ x = u) → SS C H h w → (execOp ρ o).run P w = .ok (.value v) w
theorem od_pure {P : Program} {C : Ctx} {o : Oper} {L : En} {H : List HE} {h : PH} {v : Value}
    (hr : ∀ (ρ : Operand → Value) w, (∀ x ∈ o.op.operands, ∀ u, Ev L x u → ρ x = u) → SS C H h w → (execOp ρ o).run P w = .ok (.value v) w) : OP P C o L H h v := ⟨hr⟩
theorem OD.of {P : Program} {C : Ctx} {o : Oper} {L : En} {H : List HE} {h : PH} {v : Value} (hp : OP P C o L H h v) : OD P C o L H h v := by
  refine ⟨fun a ha w hw => ?_⟩
  unfold Oper.quietAt
  rw [hp.run a.eval w ha (.of hw)]
  exact ⟨rfl, rfl⟩

theorem look_put {L : En} {d : Nat} {g : List (Bool × Bool)} {v : Value} (s : Nat) : look ((d, g, v) :: L) s = if d = s then some (g, v) else look L s := by
  by_cases e : d = s
  · subst e; simp [look]
  · have : Nat.beq d s = false := by cases hb : Nat.beq d s with
      | false => rfl
      | true => exact absurd (Nat.eq_of_beq_eq_true hb) e
    simp [look, this, e]

theorem EnOK.put {a : Act} {N : Fr} {L : En} (ha : EnOK a N L) {d : Nat} (hd : d < N.n) {g : List (Bool × Bool)} {v : Value} : EnOK (a.put (some d) (G g v)) N ((d, g, v) :: L) := by
  refine ⟨by simp [Act.put, ha.size], by simp [Act.put, ha.defers], ?_⟩
  intro s g' v' hs
  rw [look_put] at hs
  simp only [Act.put]
  by_cases e : d = s
  · subst e
    simp at hs
    obtain ⟨rfl, rfl⟩ := hs
    rw [Array.getElem?_setIfInBounds]
    simp [ha.size, hd]
  · rw [if_neg e] at hs
    rw [Array.getElem?_setIfInBounds_ne e]
    exact ha.at_ s g' v' hs

def gslot (ops : Array Oper) : Option (Nat × Bool) → Option (Nat × Bool)
  | none => none
  | some (j, w) => match ops[j]? with
    | some o => match o.dst with
      | some d => some (d, w)
      | none => none
    | none => none

/-- The operation, with its guard: its slot holds 'G g v' behind it. -/
inductive OK (P : Program) (C : Ctx) (ops : Array Oper) (o : Oper) (L : En) (H : List HE) (h : PH) : List (Bool × Bool) → Value → Prop
  | plain {v : Value} (hg : o.guard = none) (hv : OD P C o L H h v) : OK P C ops o L H h [] v
  | guarded {s : Nat} {want : Bool} {g0 : List (Bool × Bool)} {c : Bool} {v : Value} (hg : gslot ops o.guard = some (s, want)) (hs : look L s = some (g0, .bool c))
      (hv : Sat ((c, want) :: g0) → OD P C o L H h v) : OK P C ops o L H h ((c, want) :: g0) v

section
variable {ρ : Option Nat} {P : Program} {C : Ctx} {N : Fr} {L : En} {H : List HE} {h : PH} {ops : Array Oper} {o : Oper} {rest : List Oper} {Q : Exit → Act → World → Prop}

theorem wanted_of {a : Act} {s : Nat} {want c : Bool} {g0 : List (Bool × Bool)} (ha : EnOK a N L) (hg : gslot ops o.guard = some (s, want)) (hs : look L s = some (g0, .bool c)) :
    Region.wanted o (yielded ops a.tmps) = satB ((c, want) :: g0) := by
  cases hgu : o.guard with
  | none => rw [hgu] at hg; simp [gslot] at hg
  | some p =>
    obtain ⟨j, w'⟩ := p
    rw [hgu] at hg
    simp only [gslot] at hg
    split at hg
    · rename_i oj hoj
      split at hg
      · rename_i d hd
        simp only [Option.some.injEq, Prod.mk.injEq] at hg
        obtain ⟨rfl, rfl⟩ := hg
        have hat := ha.at_ _ _ _ hs
        simp only [Region.wanted, hgu, yielded, hoj, Option.bind_some, hd, hat]
        by_cases hsat : Sat g0
        · rw [G_sat hsat]
          simp [satB, (sat_iff g0).1 hsat]
        · have : satB g0 = false := by cases e : satB g0 with
            | false => rfl
            | true => exact absurd ((sat_iff g0).2 e) hsat
          rw [G_not hsat]
          simp [undef, satB, this]
      · simp at hg
    · simp at hg

/-- One operation of a region, in the order of the text. -/
theorem hd_ok {d : Nat} {g : List (Bool × Bool)} {v : Value} (hok : OK P C ops o L H h g v) (hd : o.dst = some d) (hN : Nat.blt d N.n = true)
    (next : Hd C N ((d, g, v) :: L) H h (wpList P ops Q rest)) : Hd C N L H h (wpList P ops Q (o :: rest)) := by
  refine ⟨fun a w ha hw => ?_⟩
  have hN' : d < N.n := by simpa using hN
  have hev : ∀ x ∈ o.op.operands, ∀ u, Ev L x u → a.eval x = u := fun x _ u hu => hu.eval ha
  simp only [wpList]
  cases hok with
  | plain hg hv =>
    have hwa : Region.wanted o (yielded ops a.tmps) = true := by simp [Region.wanted, hg]
    rw [if_pos hwa]
    refine (opw_of_quiet (C := Inv C H h) (K := fun a' => a' = a.put o.dst v) hw ?_ ⟨v, hv.run a hev, rfl⟩)
    rintro a' w' hw' rfl
    refine next.all _ _ ?_ hw'
    rw [hd]
    have := ha.put (g := []) (v := v) hN'
    simpa [G, satB] using this
  | guarded hg hs hv =>
    rename_i s want g0 c
    rw [wanted_of ha hg hs]
    by_cases hsat : Sat ((c, want) :: g0)
    · rw [if_pos ((sat_iff _).1 hsat)]
      refine (opw_of_quiet (C := Inv C H h) (K := fun a' => a' = a.put o.dst v) hw ?_ ⟨v, (hv hsat).run a hev, rfl⟩)
      rintro a' w' hw' rfl
      refine next.all _ _ ?_ hw'
      rw [hd]
      have := ha.put (g := (c, want) :: g0) (v := v) hN'
      rwa [G_sat hsat] at this
    · rw [if_neg (by rw [← sat_iff]; exact hsat)]
      refine next.all _ _ ?_ hw
      rw [hd]
      have := ha.put (g := (c, want) :: g0) (v := v) hN'
      rwa [G_not hsat] at this

theorem hd_nil (next : Hd C N L H h (Q .normal)) : Hd C N L H h (wpList P ops Q []) := next

/-- The chain of a region that draws its order: all operations told by one value each. -/
inductive Ch (P : Program) (C : Ctx) (N : Fr) (ops : Array Oper) (H : List HE) (h : PH) (K : En → Prop) : List Oper → En → Prop
  | nil {L : En} (hk : K L) : Ch P C N ops H h K [] L
  | cons {o : Oper} {r : List Oper} {L : En} {d : Nat} {g : List (Bool × Bool)} {v : Value} (hd : o.dst = some d) (hN : Nat.blt d N.n = true) (hok : OK P C ops o L H h g v) (next : Ch P C N ops H h K r ((d, g, v) :: L)) : Ch P C N ops H h K (o :: r) L
theorem ch_ok {K : En → Prop} {d : Nat} {g : List (Bool × Bool)} {v : Value} (hok : OK P C ops o L H h g v) (hd : o.dst = some d) (hN : Nat.blt d N.n = true)
    (next : Ch P C N ops H h K rest ((d, g, v) :: L)) : Ch P C N ops H h K (o :: rest) L := .cons hd hN hok next
theorem ch_nil {K : En → Prop} (hk : K L) : Ch P C N ops H h K [] L := .nil hk

theorem quiet_of_ch {K : En → Prop} {R : Act → Prop} (hR : ∀ L a, K L → EnOK a N L → R a) : ∀ (l : List Oper) (L : En) (a : Act), EnOK a N L → Ch P C N ops H h K l L → wpQuiet P ops (Inv C H h) R l a
  | [], L, a, ha, .nil hc => hR L a hc ha
  | o :: r, L, a, ha, .cons (d := d) (g := g) (v := v) hd hN hok hc => by
    have hN' : d < N.n := by simpa using hN
    have hev : ∀ x ∈ o.op.operands, ∀ u, Ev L x u → a.eval x = u := fun x _ u hu => hu.eval ha
    simp only [wpQuiet]
    cases hok with
    | plain hg hv =>
      have hwa : Region.wanted o (yielded ops a.tmps) = true := by simp [Region.wanted, hg]
      rw [if_pos hwa]
      refine ⟨v, hv.run a hev, quiet_of_ch hR r _ _ ?_ hc⟩
      rw [hd]
      have := ha.put (g := []) (v := v) hN'
      simpa [G, satB] using this
    | guarded hg hs hv =>
      rename_i s want g0 c
      rw [wanted_of ha hg hs]
      by_cases hsat : Sat ((c, want) :: g0)
      · rw [if_pos ((sat_iff _).1 hsat)]
        refine ⟨v, (hv hsat).run a hev, quiet_of_ch hR r _ _ ?_ hc⟩
        rw [hd]
        have := ha.put (g := (c, want) :: g0) (v := v) hN'
        rwa [G_sat hsat] at this
      · rw [if_neg (by rw [← sat_iff]; exact hsat)]
        refine quiet_of_ch hR r _ _ ?_ hc
        rw [hd]
        have := ha.put (g := (c, want) :: g0) (v := v) hN'
        rwa [G_not hsat] at this

theorem Inv.drawn {w : World} (hw : Inv C H h w) : Inv C H h { w with drawn := w.drawn + 1 } := by
  obtain ⟨l, he, hs, hi⟩ := hw
  exact ⟨l, he, ⟨hs.nodup, hs.mem, hs.pub, hs.sep⟩, ⟨hi.os, hi.tape, hi.output, hi.size, hi.old, hi.le, hi.fresh, hi.own⟩⟩

theorem hd_draw {id : Nat} {l : List Oper} (hm : P.follows .mixedOrders = true) (hB : Region.lexB .any l.toArray = true)
    (hc : Ch P C N l.toArray H h (fun L => Hd C N L H h (Q .normal)) l L) : Hd C N L H h (cw ρ P (Code.region id l.toArray true) Q) := by
  refine ⟨fun a w ha hw => ?_⟩
  refine cw_region_quiet (C := Inv C H h) hm hB hw.drawn ?_
  have := quiet_of_ch (P := P) (ops := l.toArray) (R := fun a' => ∀ w', Inv C H h w' → Q .normal a' w') (fun L' a' hk ha' w' hw' => hk.all a' w' ha' hw') l L a ha hc
  simpa using this
theorem hd_region {id : Nat} {l : List Oper} (hc : Hd C N L H h (wpList P l.toArray Q l)) : Hd C N L H h (cw ρ P (Code.region id l.toArray false) Q) :=
  ⟨fun a w ha hw => cw_region_lit (hc.all a w ha hw)⟩

/-! ### Code -/
theorem hd_seq {x y : Code} (hx : Hd C N L H h (cw ρ P x (Exit.then (cw ρ P y Q) Q))) : Hd C N L H h (cw ρ P (Code.seq x y) Q) := ⟨fun a w ha hw => cw_seq (hx.all a w ha hw)⟩
theorem hd_skip (hx : Hd C N L H h (Q .normal)) : Hd C N L H h (cw ρ P Code.skip Q) := ⟨fun a w ha hw => cw_skip (hx.all a w ha hw)⟩
theorem hd_ret (hx : Hd C N L H h (Q .ret)) : Hd C N L H h (cw ρ P Code.ret Q) := ⟨fun a w ha hw => cw_ret (hx.all a w ha hw)⟩
theorem hd_exit {id : Nat} (hx : Hd C N L H h (Q (.exit id))) : Hd C N L H h (cw ρ P (Code.exit id) Q) := ⟨fun a w ha hw => cw_exit (hx.all a w ha hw)⟩
theorem hd_block {id : Nat} {c : Code} (hx : Hd C N L H h (cw ρ P c (Exit.inBlock id Q))) : Hd C N L H h (cw ρ P (Code.block id c) Q) := ⟨fun a w ha hw => cw_block (hx.all a w ha hw)⟩
theorem hd_cond {c : Operand} {x y : Code} {t : Bool} (hc : Ev L c (.bool t)) (ht : t = true → Hd C N L H h (cw ρ P x Q)) (hf : t = false → Hd C N L H h (cw ρ P y Q)) :
    Hd C N L H h (cw ρ P (Code.cond c x y) Q) := ⟨fun a w ha hw => cw_cond_split (hc.eval ha) (fun e => (ht e).all a w ha hw) (fun e => (hf e).all a w ha hw)⟩
theorem hd_then_n {next : Act → World → Prop} (hx : Hd C N L H h next) : Hd C N L H h (Exit.then next Q .normal) := ⟨hx.all⟩
theorem hd_then_r {next : Act → World → Prop} (hx : Hd C N L H h (Q .ret)) : Hd C N L H h (Exit.then next Q .ret) := ⟨hx.all⟩
theorem hd_then_e {next : Act → World → Prop} {id : Nat} (hx : Hd C N L H h (Q (.exit id))) : Hd C N L H h (Exit.then next Q (.exit id)) := ⟨hx.all⟩
theorem hd_in_n {id : Nat} (hx : Hd C N L H h (Q .normal)) : Hd C N L H h (Exit.inBlock id Q .normal) := ⟨hx.all⟩
theorem hd_in_r {id : Nat} (hx : Hd C N L H h (Q .ret)) : Hd C N L H h (Exit.inBlock id Q .ret) := ⟨hx.all⟩
theorem hd_in_e {id : Nat} (hx : Hd C N L H h (Q .normal)) : Hd C N L H h (Exit.inBlock id Q (.exit id)) := ⟨fun a w ha hw => by simp only [Exit.inBlock, if_true]; exact hx.all a w ha hw⟩
theorem hd_in_o {id k : Nat} (hne : Nat.beq k id = false) (hx : Hd C N L H h (Q (.exit k))) : Hd C N L H h (Exit.inBlock id Q (.exit k)) := ⟨fun a w ha hw => by
  simp only [Exit.inBlock]
  rw [if_neg (Nat.ne_of_beq_eq_false hne)]
  exact hx.all a w ha hw⟩
/-- Forget slots. -/
theorem hd_weak {L' : En} {R : Act → World → Prop} (hl : ∀ s g v, look L' s = some (g, v) → look L s = some (g, v)) (hx : Hd C N L' H h R) : Hd C N L H h R :=
  ⟨fun a w ha hw => hx.all a w ⟨ha.size, ha.defers, fun s g v e => ha.at_ s g v (hl s g v e)⟩ hw⟩
theorem hd_mono {R R' : Act → World → Prop} (hr : ∀ a w, R a w → R' a w) (hx : Hd C N L H h R) : Hd C N L H h R' := ⟨fun a w ha hw => hr a w (hx.all a w ha hw)⟩
end
end Go.GV
