/- A small logic over the kit's weakest preconditions, part 1. -/
import Derived.WalkKit
import Derived.Deep.Quiet
import Derived.OrdersIn
import Derived.OrdersHeld
import Derived.TacticsIn
import Derived.LoopIn
import Derived.RangeFuncFrom
import Derived.RangeFuncLeaves
import Derived.ProofKit
import Derived.OpenShut
import Derived.ChangeOld
import Derived.Below
import Derived.Carry
import Derived.Laws.MakeOwn
set_option linter.unusedVariables false
set_option linter.unusedSimpArgs false
section
/- What an operation, a list of operations and a piece of code must achieve, in a function's own frame or in a round's of a range over a function: a layer over the kit's fenced weakest preconditions at the widest fence. -/
namespace Go.GV
open Go

/-- The widest fence, in a function's own frame (none) or in a round's (some l). -/
def fR (ρ : Option Nat) : Fence := { Fence.wide with round := ρ }
/-- The slots of a frame, and what it has deferred. -/
structure Fr where
  n : Nat
  ds : List Deferred

def up (P : Program) (o : Oper) (a : Act) (K : Act → World → Prop) : Result Next → Prop
  | .ok (.value v) w' => K (a.put o.dst v) w'
  | .ok .skip w' => K (a.put o.dst undef) w'
  | .ok (.enter f args) w' => Calls P f args w' fun e w'' => ∃ v, e = .returned v ∧ K (a.put o.dst v) w''
  | .ok (.round l f tmps assign body) w' => RoundIn Fence.wide 0 P l f tmps assign body w' fun e w'' => ∃ v, e = .returned v ∧ K (a.put o.dst v) w''
  | _ => False
def opw (P : Program) (o : Oper) (a : Act) (w : World) (K : Act → World → Prop) : Prop := up P o a K ((execOp a.eval o).run P w)
theorem up_mono {P : Program} {o : Oper} {a : Act} {K K' : Act → World → Prop} (h : ∀ a w, K a w → K' a w) : ∀ {r : Result Next}, up P o a K r → up P o a K' r
  | .ok (.value _) _, hh => h _ _ hh
  | .ok .skip _, hh => h _ _ hh
  | .ok (.enter _ _) _, hh => Calls.mono hh fun _ _ ⟨v, e, hk⟩ => ⟨v, e, h _ _ hk⟩
  | .ok (.round _ _ _ _ _) _, hh => RoundIn.mono hh fun _ _ ⟨v, e, hk⟩ => ⟨v, e, h _ _ hk⟩
theorem opw_mono {P : Program} {o : Oper} {a : Act} {w : World} {K K' : Act → World → Prop} (h : ∀ a w, K a w → K' a w) (hh : opw P o a w K) : opw P o a w K' := up_mono h hh
theorem opw_defer {P : Program} {o : Oper} {a : Act} {w : World} {K : Act → World → Prop} (hh : opw P o a w K) : ∀ c, o.op ≠ .defer c := by
  intro c e
  unfold opw at hh
  have : (execOp a.eval o).run P w = ((resolve a.eval c o.type).run P w).andThen fun d w' => .ok (.defer d) w' := by
    unfold execOp
    rw [e]
    simp only [Sem.run_bind, Sem.run_pure]
  rw [this] at hh
  cases hr : (resolve a.eval c o.type).run P w with
  | ok d w' => rw [hr] at hh; exact hh
  | halt x w' => rw [hr] at hh; exact hh
theorem calls_in {ρ : Option Nat} {n : Nat} {P : Program} {f : FuncId} {args : Array Value} {w : World} {R : Ending → World → Prop} (h : Calls P f args w R) : CallsIn (fR ρ) n P f args w R := (callsIn_wide (n := n)).2 h
theorem opw_in {ρ : Option Nat} {P : Program} {o : Oper} {a : Act} {w : World} {K : Act → World → Prop} {Q : Exit → Act → World → Prop} (hh : opw P o a w K) : o.wpIn (fR ρ) 0 P a w K Q := by
  refine ⟨fun _ _ => trivial, ?_⟩
  rw [Oper.semAt_eq _ _ _ (opw_defer hh)]
  unfold opw at hh
  generalize (execOp a.eval o).run P w = r at *
  cases r with
  | ok nx w' =>
    cases nx <;> simp only [up] at hh <;> simp only [Oper.uponIn]
    case value v => exact hh
    case skip => exact hh
    case enter f args => exact ⟨fun h => by simp [fR, Fence.wide] at h, calls_in (hh.mono fun e w'' ⟨v, he, hk⟩ => by subst he; exact hk)⟩
    case round l f tmps assign body => exact ⟨fun h => by simp [fR, Fence.wide] at h, RoundIn.mono (F := Fence.wide) hh fun e w'' ⟨v, he, hk⟩ => by subst he; exact hk⟩
  | halt x w' => cases x <;> exact hh.elim

def wpList (P : Program) (ops : Array Oper) (Q : Exit → Act → World → Prop) : List Oper → Act → World → Prop
  | [], a, w => Q .normal a w
  | o :: rest, a, w => if Region.wanted o (yielded ops a.tmps) then opw P o a w (wpList P ops Q rest) else wpList P ops Q rest (a.put o.dst undef) w
def wpOp (P : Program) (ops : Array Oper) (i : Nat) (K : Act → World → Prop) (a : Act) (w : World) : Prop :=
  match ops[i]? with
  | none => K a w
  | some o => if Region.wanted o (yielded ops a.tmps) then opw P o a w K else K (a.put o.dst undef) w
theorem wpList_in {ρ : Option Nat} {P : Program} {ops : Array Oper} {Q : Exit → Act → World → Prop} : ∀ (l : List Oper) (a : Act) (w : World), wpList P ops Q l a w → wpListIn (fR ρ) 0 P ops Q l a w
  | [], _, _, hh => hh
  | o :: rest, a, w, hh => by
    simp only [wpList] at hh
    simp only [wpListIn]
    split
    · rename_i hw
      rw [if_pos hw] at hh
      exact Oper.wpIn_mono (wpList_in rest) (opw_in hh)
    · rename_i hw
      rw [if_neg hw] at hh
      exact ⟨fun _ _ => trivial, wpList_in rest _ _ hh⟩
theorem wpOp_mono {P : Program} {ops : Array Oper} {i : Nat} {a : Act} {w : World} {K K' : Act → World → Prop} (h : ∀ a w, K a w → K' a w) (hh : wpOp P ops i K a w) : wpOp P ops i K' a w := by
  unfold wpOp at *
  split
  · rename_i ho; simp only [ho] at hh; exact h _ _ hh
  · rename_i o ho
    simp only [ho] at hh
    split
    · rename_i hw; rw [if_pos hw] at hh; exact opw_mono h hh
    · rename_i hw; rw [if_neg hw] at hh; exact h _ _ hh
theorem wpOp_in {ρ : Option Nat} {P : Program} {ops : Array Oper} {i : Nat} {a : Act} {w : World} {K : Act → World → Prop} {Q : Exit → Act → World → Prop} (hh : wpOp P ops i K a w) : wpOpIn (fR ρ) 0 P ops Q i K a w := by
  unfold wpOp at hh
  unfold wpOpIn
  split
  · rename_i ho; simp only [ho] at hh; exact hh
  · rename_i o ho
    simp only [ho] at hh
    split
    · rename_i hw; rw [if_pos hw] at hh; exact opw_in hh
    · rename_i hw; rw [if_neg hw] at hh; exact ⟨fun _ _ => trivial, hh⟩
theorem opw_of_quiet {P : Program} {C : World → Prop} {o : Oper} {a : Act} {K : Act → Prop} {K' : Act → World → Prop} {w : World} (hw : C w) (h : ∀ a w', C w' → K a → K' a w') (hh : o.quiet P a C K) : opw P o a w K' := by
  obtain ⟨v, h1, h2⟩ := hh
  have h3 := h1 w hw
  unfold Oper.quietAt at h3
  unfold opw
  generalize (execOp a.eval o).run P w = r at *
  cases r with
  | ok n w' =>
    cases n <;> simp only [Oper.quietUpon] at h3 <;> simp only [up]
    case value u =>
      obtain ⟨e1, e2⟩ := h3
      rw [e1, e2]
      exact h _ _ hw h2
    case skip =>
      obtain ⟨e1, e2⟩ := h3
      rw [e1, ← e2]
      exact h _ _ hw h2
    case enter f args =>
      obtain ⟨e1, hc⟩ := h3
      rw [e1]
      exact hc.mono fun e w'' ⟨he, hw''⟩ => ⟨v, he, h _ _ hw'' h2⟩
  | halt x w' => simp only [Oper.quietUpon] at h3
theorem any_of_quiet {ρ : Option Nat} {P : Program} {ops : Array Oper} {md : Region.Mode} {C : World → Prop} {Q : Act → Prop} {Q' : Exit → Act → World → Prop} (hQ : ∀ a w, C w → Q a → Q' .normal a w) : ∀ (fuel : Nat) (listed : Array Bool) (a : Act) (w : World), C w →
    wpAnyQ P md ops C Q fuel listed a → wpAnyIn (fR ρ) 0 P md ops Q' fuel listed a w
  | 0, _, _, _, hw, h => ⟨h.1, hQ _ _ hw h.2⟩
  | fuel + 1, _, _, _, hw, h => ⟨fun h0 => hQ _ _ hw (h.1 h0), fun i hi => wpOp_in (by
      have h2 := h.2 i hi
      unfold qOp at h2
      unfold wpOp
      split
      · rename_i ho; simp only [ho] at h2; exact any_of_quiet hQ fuel _ _ _ hw h2
      · rename_i o ho
        simp only [ho] at h2
        split
        · rename_i hx; simp only [hx, if_true] at h2; exact opw_of_quiet hw (fun a' w' hw' => any_of_quiet hQ fuel _ a' w' hw') h2
        · rename_i hx; simp only [hx] at h2; exact any_of_quiet hQ fuel _ _ _ hw h2)⟩

/-! ### Code -/
def cw (ρ : Option Nat) (P : Program) (c : Code) (Q : Exit → Act → World → Prop) (a : Act) (w : World) : Prop := c.wpIn (fR ρ) 0 P Q a w
section
variable {ρ : Option Nat} {P : Program} {Q : Exit → Act → World → Prop} {a : Act} {w : World}
theorem cw_mono {c : Code} {Q' : Exit → Act → World → Prop} (h : cw ρ P c Q a w) (hq : ∀ e a w, Q e a w → Q' e a w) : cw ρ P c Q' a w := wpIn_mono h hq
theorem cw_seq {x y : Code} (h : cw ρ P x (Exit.then (cw ρ P y Q) Q) a w) : cw ρ P (Code.seq x y) Q a w := wpIn_seq h
theorem cw_skip (h : Q .normal a w) : cw ρ P Code.skip Q a w := wpIn_skip h
theorem cw_ret (h : Q .ret a w) : cw ρ P Code.ret Q a w := wpIn_ret h
theorem cw_exit {id : Nat} (h : Q (.exit id) a w) : cw ρ P (Code.exit id) Q a w := wpIn_exit h
theorem cw_block {id : Nat} {c : Code} (h : cw ρ P c (Exit.inBlock id Q) a w) : cw ρ P (Code.block id c) Q a w := wpIn_block h
theorem cw_cond_split {c : Operand} {x y : Code} {t : Bool} (hc : a.eval c = .bool t) (ht : t = true → cw ρ P x Q a w) (hf : t = false → cw ρ P y Q a w) : cw ρ P (Code.cond c x y) Q a w :=
  wpIn_cond hc (by cases t <;> simp <;> first | exact ht rfl | exact hf rfl)
theorem cw_region_lit {id : Nat} {l : List Oper} (h : wpList P l.toArray Q l a w) : cw ρ P (Code.region id l.toArray false) Q a w := wpIn_region_lit (wpList_in l a w h)
theorem cw_region_quiet {ops : Array Oper} {C : World → Prop} {id : Nat} (hm : P.follows .mixedOrders = true) (hB : Region.lexB .any ops = true) (hC : C { w with drawn := w.drawn + 1 })
    (h : wpQuiet P ops C (fun a' => ∀ w', C w' → Q .normal a' w') ops.toList a) : cw ρ P (Code.region id ops true) Q a w := by
  simp only [Region.lexB, Bool.and_eq_true] at hB
  refine wpIn_region_any hm (any_of_quiet (Q := fun a' => ∀ w', C w' → Q .normal a' w') (fun _ w' hw' h => h w' hw') _ _ _ _ hC ?_)
  have := wpAnyQ_lex (C := C) (md := .any) hB.1 ops.toList 0 (Array.replicate ops.size false) a (by simp) (by simpa using hB.2) h
  simpa using this
end
/-- What the body of a function must achieve. -/
def bodyPost (P : Program) (fn : Func) (R : Ending → World → Prop) : Exit → Act → World → Prop := bodyPostM Fence.wide 0 P fn R
theorem calls_of_cw {P : Program} {f : FuncId} {fn : Func} {c : Code} {args : Array Value} {w : World} {R : Ending → World → Prop} (hf : P.funcs[f]? = some fn) (hb : fn.body = some c)
    (h : cw none P c (bodyPost P fn R) { tmps := args ++ Array.replicate (fn.ntmps - args.size) undef, defers := [] } w) : Calls P f args w R :=
  (callsIn_wide (n := 0)).1 (callsIn_of_wp_marks hf hb trivial h rfl)
theorem body_ret {P : Program} {fn : Func} {R : Ending → World → Prop} {e : Exit} {a : Act} {w : World} {v : Value} (he : e = .ret ∨ e = .normal) (hd : a.defers = []) (hr : (results fn a.tmps).run P w = .ok v w) (hR : R (.returned v) w) : bodyPost P fn R e a w := by
  rcases he with rfl | rfl <;> (show LeavesInM Fence.wide 0 P fn a.tmps R a.defers .returning w) <;> rw [hd] <;> exact ⟨v, hr, hR⟩
end Go.GV

end
section
/- A small logic over the kit's weakest preconditions: states are told by a list of known slots, a list of private blocks and a map of shared (never written) blocks; operations in regions are told by one value each. -/
namespace Go.GV
open Go

/-! ### Public memory, private blocks -/
abbrev PH := Nat → Option Obj
def PH.le (h h' : PH) : Prop := ∀ b o, h b = some o → h' b = some o
theorem PH.le_refl (h : PH) : h.le h := fun _ _ x => x
theorem PH.le_trans {a b c : PH} (x : a.le b) (y : b.le c) : a.le c := fun k o e => y k o (x k o e)
abbrev Blk := Nat × Obj
abbrev HE := List Blk → Prop
def Ents : List HE → List Blk → Prop
  | [], l => l = []
  | e :: H, l => ∃ l1 l2, l = l1 ++ l2 ∧ e l1 ∧ Ents H l2
def box (b : Nat) (cs : List Value) (t : TypeId) : HE := fun l => l = [(b, .cells cs.toArray t (0, 0))]

structure Sep (w : World) (h : PH) (l : List Blk) : Prop where
  nodup : (l.map (·.1)).Nodup
  mem : ∀ b o, (b, o) ∈ l → w.heap[b]? = some o
  pub : ∀ b o, h b = some o → w.heap[b]? = some o
  sep : ∀ b o, (b, o) ∈ l → h b = none

structure Ctx where
  w0 : World
  h0 : PH
  bs : List Nat

/-- What became of the world since the call began. -/
structure Since (C : Ctx) (w : World) (h : PH) (l : List Blk) : Prop where
  os : w.os = C.w0.os
  tape : w.tape = C.w0.tape
  drawn : C.w0.drawn ≤ w.drawn
  output : w.output = C.w0.output
  size : C.w0.heap.size ≤ w.heap.size
  old : ∀ k, k < C.w0.heap.size → k ∉ C.bs → w.heap[k]? = C.w0.heap[k]?
  le : C.h0.le h
  fresh : ∀ b o, h b = some o → C.h0 b = none → C.w0.heap.size ≤ b ∨ b ∈ C.bs
  own : ∀ b o, (b, o) ∈ l → C.w0.heap.size ≤ b ∨ b ∈ C.bs

def Inv (C : Ctx) (H : List HE) (h : PH) (w : World) : Prop := ∃ l, Ents H l ∧ Sep w h l ∧ Since C w h l

/-! ### Slots -/
def satB : List (Bool × Bool) → Bool
  | [] => true
  | (c, w) :: r => (c == w) && satB r
def Sat : List (Bool × Bool) → Prop
  | [] => True
  | (c, w) :: r => c = w ∧ Sat r
theorem sat_iff : ∀ g, Sat g ↔ satB g = true
  | [] => by simp [Sat, satB]
  | (c, w) :: r => by simp [Sat, satB, sat_iff r]
def G (g : List (Bool × Bool)) (v : Value) : Value := bif satB g then v else undef
theorem G_sat {g : List (Bool × Bool)} {v : Value} (h : Sat g) : G g v = v := by simp [G, (sat_iff g).1 h]
theorem G_not {g : List (Bool × Bool)} {v : Value} (h : ¬ Sat g) : G g v = undef := by
  have : satB g = false := by cases e : satB g with
    | false => rfl
    | true => exact absurd ((sat_iff g).2 e) h
  simp [G, this]
abbrev En := List (Nat × List (Bool × Bool) × Value)
def look : En → Nat → Option (List (Bool × Bool) × Value)
  | [], _ => none
  | (k, gv) :: r, s => bif Nat.beq k s then some gv else look r s
structure EnOK (a : Act) (N : Fr) (L : En) : Prop where
  size : a.tmps.size = N.n
  defers : a.defers = N.ds
  at_ : ∀ s g v, look L s = some (g, v) → a.tmps[s]? = some (G g v)
def evo (L : En) : Operand → Option (List (Bool × Bool) × Value)
  | .tmp t => look L t
  | .const v => some ([], v)
  | .global g => some ([], .pointer (some ⟨g, 0, none⟩))
  | .func f => some ([], .func (.func f) #[] #[])
def Ev (L : En) (x : Operand) (v : Value) : Prop := ∃ g, evo L x = some (g, v) ∧ Sat g
theorem Ev.of {L : En} {x : Operand} {v : Value} (h : evo L x = some ([], v)) : Ev L x v := ⟨[], h, trivial⟩
theorem Ev.mk {L : En} {x : Operand} {v : Value} {g : List (Bool × Bool)} (h : evo L x = some (g, v)) (hs : Sat g) : Ev L x v := ⟨g, h, hs⟩
theorem Ev.eval {a : Act} {N : Fr} {L : En} {x : Operand} {v : Value} (ha : EnOK a N L) (h : Ev L x v) : a.eval x = v := by
  obtain ⟨g, hg, hs⟩ := h
  cases x with
  | tmp t =>
    have := ha.at_ t g v hg
    rw [G_sat hs] at this
    simp [Act.eval, this]
  | const u => simp [evo] at hg; simp [Act.eval, hg]
  | global k => simp [evo] at hg; simp [Act.eval, hg]
  | func f => simp [evo] at hg; simp [Act.eval, hg]

/-! ### Judgements: 'R' holds of every activation and world that match -/
structure Hd (C : Ctx) (N : Fr) (L : En) (H : List HE) (h : PH) (R : Act → World → Prop) : Prop where
  all : ∀ a w, EnOK a N L → Inv C H h w → R a w

/-- The operation yields 'v', whatever the world that matches. -/
structure OD (P : Program) (C : Ctx) (o : Oper) (L : En) (H : List HE) (h : PH) (v : Value) : Prop where
  run : ∀ a : Act, (∀ x ∈ o.op.operands, ∀ u, Ev L x u → a.eval x = u) → ∀ w, Inv C H h w → o.quietAt P a (Inv C H h) w v

/-- The world matches, perhaps with more private blocks and more that is known. -/
def SS (C : Ctx) (H : List HE) (h : PH) (w : World) : Prop := ∃ Hx h', h.le h' ∧ Inv C (Hx ++ H) h' w
theorem SS.of {C : Ctx} {H : List HE} {h : PH} {w : World} (hw : Inv C H h w) : SS C H h w := ⟨[], h, PH.le_refl _, hw⟩
/-- The operation yields 'v' and leaves the world as it is. -/
structure OP (P : Program) (C : Ctx) (o : Oper) (L : En) (H : List HE) (h : PH) (v : Value) : Prop where
  run : ∀ (ρ : Operand → Value) w, (∀ x ∈ o.op.operands, ∀ u, Ev L x u → ρ x = u) → SS C H h w → (execOp ρ o).run P w = .ok (.value v) w
theorem od_pure {P : Program} {C : Ctx} {o : Oper} {L : En} {H : List HE} {h : PH} {v : Value}
    (hr : ∀ (ρ : Operand → Value) w, (∀ x ∈ o.op.operands, ∀ u, Ev L x u → ρ x = u) → SS C H h w → (execOp ρ o).run P w = .ok (.value v) w) : OP P C o L H h v := ⟨hr⟩
theorem OD.of {P : Program} {C : Ctx} {o : Oper} {L : En} {H : List HE} {h : PH} {v : Value} (hp : OP P C o L H h v) : OD P C o L H h v := by
  refine ⟨fun a ha w hw => ?_⟩
  unfold Oper.quietAt
  rw [hp.run a.eval w ha (.of hw)]
  exact ⟨rfl, rfl⟩

theorem look_put {L : En} {d : Nat} {g : List (Bool × Bool)} {v : Value} (s : Nat) : look ((d, g, v) :: L) s = if d = s then some (g, v) else look L s := by
  by_cases e : d = s
  · subst e; simp [look]
  · have : Nat.beq d s = false := by cases hb : Nat.beq d s with
      | false => rfl
      | true => exact absurd (Nat.eq_of_beq_eq_true hb) e
    simp [look, this, e]

theorem EnOK.put {a : Act} {N : Fr} {L : En} (ha : EnOK a N L) {d : Nat} (hd : d < N.n) {g : List (Bool × Bool)} {v : Value} : EnOK (a.put (some d) (G g v)) N ((d, g, v) :: L) := by
  refine ⟨by simp [Act.put, ha.size], by simp [Act.put, ha.defers], ?_⟩
  intro s g' v' hs
  rw [look_put] at hs
  simp only [Act.put]
  by_cases e : d = s
  · subst e
    simp at hs
    obtain ⟨rfl, rfl⟩ := hs
    rw [Array.getElem?_setIfInBounds]
    simp [ha.size, hd]
  · rw [if_neg e] at hs
    rw [Array.getElem?_setIfInBounds_ne e]
    exact ha.at_ s g' v' hs

def gslot (ops : Array Oper) : Option (Nat × Bool) → Option (Nat × Bool)
  | none => none
  | some (j, w) => match ops[j]? with
    | some o => match o.dst with
      | some d => some (d, w)
      | none => none
    | none => none

/-- The operation, with its guard: its slot holds 'G g v' behind it. -/
inductive OK (P : Program) (C : Ctx) (ops : Array Oper) (o : Oper) (L : En) (H : List HE) (h : PH) : List (Bool × Bool) → Value → Prop
  | plain {v : Value} (hg : o.guard = none) (hv : OD P C o L H h v) : OK P C ops o L H h [] v
  | guarded {s : Nat} {want : Bool} {g0 : List (Bool × Bool)} {c : Bool} {v : Value} (hg : gslot ops o.guard = some (s, want)) (hs : look L s = some (g0, .bool c))
      (hv : Sat ((c, want) :: g0) → OD P C o L H h v) : OK P C ops o L H h ((c, want) :: g0) v

section
variable {ρ : Option Nat} {P : Program} {C : Ctx} {N : Fr} {L : En} {H : List HE} {h : PH} {ops : Array Oper} {o : Oper} {rest : List Oper} {Q : Exit → Act → World → Prop}

theorem wanted_of {a : Act} {s : Nat} {want c : Bool} {g0 : List (Bool × Bool)} (ha : EnOK a N L) (hg : gslot ops o.guard = some (s, want)) (hs : look L s = some (g0, .bool c)) :
    Region.wanted o (yielded ops a.tmps) = satB ((c, want) :: g0) := by
  cases hgu : o.guard with
  | none => rw [hgu] at hg; simp [gslot] at hg
  | some p =>
    obtain ⟨j, w'⟩ := p
    rw [hgu] at hg
    simp only [gslot] at hg
    split at hg
    · rename_i oj hoj
      split at hg
      · rename_i d hd
        simp only [Option.some.injEq, Prod.mk.injEq] at hg
        obtain ⟨rfl, rfl⟩ := hg
        have hat := ha.at_ _ _ _ hs
        simp only [Region.wanted, hgu, yielded, hoj, Option.bind_some, hd, hat]
        by_cases hsat : Sat g0
        · rw [G_sat hsat]
          simp [satB, (sat_iff g0).1 hsat]
        · have : satB g0 = false := by cases e : satB g0 with
            | false => rfl
            | true => exact absurd ((sat_iff g0).2 e) hsat
          rw [G_not hsat]
          simp [undef, satB, this]
      · simp at hg
    · simp at hg

/-- One operation of a region, in the order of the text. -/
theorem hd_ok {d : Nat} {g : List (Bool × Bool)} {v : Value} (hok : OK P C ops o L H h g v) (hd : o.dst = some d) (hN : Nat.blt d N.n = true)
    (next : Hd C N ((d, g, v) :: L) H h (wpList P ops Q rest)) : Hd C N L H h (wpList P ops Q (o :: rest)) := by
  refine ⟨fun a w ha hw => ?_⟩
  have hN' : d < N.n := by simpa using hN
  have hev : ∀ x ∈ o.op.operands, ∀ u, Ev L x u → a.eval x = u := fun x _ u hu => hu.eval ha
  simp only [wpList]
  cases hok with
  | plain hg hv =>
    have hwa : Region.wanted o (yielded ops a.tmps) = true := by simp [Region.wanted, hg]
    rw [if_pos hwa]
    refine (opw_of_quiet (C := Inv C H h) (K := fun a' => a' = a.put o.dst v) hw ?_ ⟨v, hv.run a hev, rfl⟩)
    rintro a' w' hw' rfl
    refine next.all _ _ ?_ hw'
    rw [hd]
    have := ha.put (g := []) (v := v) hN'
    simpa [G, satB] using this
  | guarded hg hs hv =>
    rename_i s want g0 c
    rw [wanted_of ha hg hs]
    by_cases hsat : Sat ((c, want) :: g0)
    · rw [if_pos ((sat_iff _).1 hsat)]
      refine (opw_of_quiet (C := Inv C H h) (K := fun a' => a' = a.put o.dst v) hw ?_ ⟨v, (hv hsat).run a hev, rfl⟩)
      rintro a' w' hw' rfl
      refine next.all _ _ ?_ hw'
      rw [hd]
      have := ha.put (g := (c, want) :: g0) (v := v) hN'
      rwa [G_sat hsat] at this
    · rw [if_neg (by rw [← sat_iff]; exact hsat)]
      refine next.all _ _ ?_ hw
      rw [hd]
      have := ha.put (g := (c, want) :: g0) (v := v) hN'
      rwa [G_not hsat] at this

theorem hd_nil (next : Hd C N L H h (Q .normal)) : Hd C N L H h (wpList P ops Q []) := next

/-- The chain of a region that draws its order: all operations told by one value each. -/
inductive Ch (P : Program) (C : Ctx) (N : Fr) (ops : Array Oper) (H : List HE) (h : PH) (K : En → Prop) : List Oper → En → Prop
  | nil {L : En} (hk : K L) : Ch P C N ops H h K [] L
  | cons {o : Oper} {r : List Oper} {L : En} {d : Nat} {g : List (Bool × Bool)} {v : Value} (hd : o.dst = some d) (hN : Nat.blt d N.n = true) (hok : OK P C ops o L H h g v) (next : Ch P C N ops H h K r ((d, g, v) :: L)) : Ch P C N ops H h K (o :: r) L
theorem ch_ok {K : En → Prop} {d : Nat} {g : List (Bool × Bool)} {v : Value} (hok : OK P C ops o L H h g v) (hd : o.dst = some d) (hN : Nat.blt d N.n = true)
    (next : Ch P C N ops H h K rest ((d, g, v) :: L)) : Ch P C N ops H h K (o :: rest) L := .cons hd hN hok next
theorem ch_nil {K : En → Prop} (hk : K L) : Ch P C N ops H h K [] L := .nil hk

theorem quiet_of_ch {K : En → Prop} {R : Act → Prop} (hR : ∀ L a, K L → EnOK a N L → R a) : ∀ (l : List Oper) (L : En) (a : Act), EnOK a N L → Ch P C N ops H h K l L → wpQuiet P ops (Inv C H h) R l a
  | [], L, a, ha, .nil hc => hR L a hc ha
  | o :: r, L, a, ha, .cons (d := d) (g := g) (v := v) hd hN hok hc => by
    have hN' : d < N.n := by simpa using hN
    have hev : ∀ x ∈ o.op.operands, ∀ u, Ev L x u → a.eval x = u := fun x _ u hu => hu.eval ha
    simp only [wpQuiet]
    cases hok with
    | plain hg hv =>
      have hwa : Region.wanted o (yielded ops a.tmps) = true := by simp [Region.wanted, hg]
      rw [if_pos hwa]
      refine ⟨v, hv.run a hev, quiet_of_ch hR r _ _ ?_ hc⟩
      rw [hd]
      have := ha.put (g := []) (v := v) hN'
      simpa [G, satB] using this
    | guarded hg hs hv =>
      rename_i s want g0 c
      rw [wanted_of ha hg hs]
      by_cases hsat : Sat ((c, want) :: g0)
      · rw [if_pos ((sat_iff _).1 hsat)]
        refine ⟨v, (hv hsat).run a hev, quiet_of_ch hR r _ _ ?_ hc⟩
        rw [hd]
        have := ha.put (g := (c, want) :: g0) (v := v) hN'
        rwa [G_sat hsat] at this
      · rw [if_neg (by rw [← sat_iff]; exact hsat)]
        refine quiet_of_ch hR r _ _ ?_ hc
        rw [hd]
        have := ha.put (g := (c, want) :: g0) (v := v) hN'
        rwa [G_not hsat] at this

theorem Inv.drawn {w : World} (hw : Inv C H h w) : Inv C H h { w with drawn := w.drawn + 1 } := by
  obtain ⟨l, he, hs, hi⟩ := hw
  exact ⟨l, he, ⟨hs.nodup, hs.mem, hs.pub, hs.sep⟩, ⟨hi.os, hi.tape, Nat.le_succ_of_le hi.drawn, hi.output, hi.size, hi.old, hi.le, hi.fresh, hi.own⟩⟩

theorem hd_draw {id : Nat} {l : List Oper} (hm : P.follows .mixedOrders = true) (hB : Region.lexB .any l.toArray = true)
    (hc : Ch P C N l.toArray H h (fun L => Hd C N L H h (Q .normal)) l L) : Hd C N L H h (cw ρ P (Code.region id l.toArray true) Q) := by
  refine ⟨fun a w ha hw => ?_⟩
  refine cw_region_quiet (C := Inv C H h) hm hB hw.drawn ?_
  have := quiet_of_ch (P := P) (ops := l.toArray) (R := fun a' => ∀ w', Inv C H h w' → Q .normal a' w') (fun L' a' hk ha' w' hw' => hk.all a' w' ha' hw') l L a ha hc
  simpa using this
theorem hd_region {id : Nat} {l : List Oper} (hc : Hd C N L H h (wpList P l.toArray Q l)) : Hd C N L H h (cw ρ P (Code.region id l.toArray false) Q) :=
  ⟨fun a w ha hw => cw_region_lit (hc.all a w ha hw)⟩

/-! ### Code -/
theorem hd_seq {x y : Code} (hx : Hd C N L H h (cw ρ P x (Exit.then (cw ρ P y Q) Q))) : Hd C N L H h (cw ρ P (Code.seq x y) Q) := ⟨fun a w ha hw => cw_seq (hx.all a w ha hw)⟩
theorem hd_skip (hx : Hd C N L H h (Q .normal)) : Hd C N L H h (cw ρ P Code.skip Q) := ⟨fun a w ha hw => cw_skip (hx.all a w ha hw)⟩
theorem hd_ret (hx : Hd C N L H h (Q .ret)) : Hd C N L H h (cw ρ P Code.ret Q) := ⟨fun a w ha hw => cw_ret (hx.all a w ha hw)⟩
theorem hd_exit {id : Nat} (hx : Hd C N L H h (Q (.exit id))) : Hd C N L H h (cw ρ P (Code.exit id) Q) := ⟨fun a w ha hw => cw_exit (hx.all a w ha hw)⟩
theorem hd_block {id : Nat} {c : Code} (hx : Hd C N L H h (cw ρ P c (Exit.inBlock id Q))) : Hd C N L H h (cw ρ P (Code.block id c) Q) := ⟨fun a w ha hw => cw_block (hx.all a w ha hw)⟩
theorem hd_cond {c : Operand} {x y : Code} {t : Bool} (hc : Ev L c (.bool t)) (ht : t = true → Hd C N L H h (cw ρ P x Q)) (hf : t = false → Hd C N L H h (cw ρ P y Q)) :
    Hd C N L H h (cw ρ P (Code.cond c x y) Q) := ⟨fun a w ha hw => cw_cond_split (hc.eval ha) (fun e => (ht e).all a w ha hw) (fun e => (hf e).all a w ha hw)⟩
theorem hd_then_n {next : Act → World → Prop} (hx : Hd C N L H h next) : Hd C N L H h (Exit.then next Q .normal) := ⟨hx.all⟩
theorem hd_then_r {next : Act → World → Prop} (hx : Hd C N L H h (Q .ret)) : Hd C N L H h (Exit.then next Q .ret) := ⟨hx.all⟩
theorem hd_then_e {next : Act → World → Prop} {id : Nat} (hx : Hd C N L H h (Q (.exit id))) : Hd C N L H h (Exit.then next Q (.exit id)) := ⟨hx.all⟩
theorem hd_in_n {id : Nat} (hx : Hd C N L H h (Q .normal)) : Hd C N L H h (Exit.inBlock id Q .normal) := ⟨hx.all⟩
theorem hd_in_r {id : Nat} (hx : Hd C N L H h (Q .ret)) : Hd C N L H h (Exit.inBlock id Q .ret) := ⟨hx.all⟩
theorem hd_in_e {id : Nat} (hx : Hd C N L H h (Q .normal)) : Hd C N L H h (Exit.inBlock id Q (.exit id)) := ⟨fun a w ha hw => by simp only [Exit.inBlock, if_true]; exact hx.all a w ha hw⟩
theorem hd_in_o {id k : Nat} (hne : Nat.beq k id = false) (hx : Hd C N L H h (Q (.exit k))) : Hd C N L H h (Exit.inBlock id Q (.exit k)) := ⟨fun a w ha hw => by
  simp only [Exit.inBlock]
  rw [if_neg (Nat.ne_of_beq_eq_false hne)]
  exact hx.all a w ha hw⟩
end
end Go.GV

end
section
/- Operations, one lemma each, over the small logic of GvA. -/
namespace Go.GV
open Go

/-! ### Facts on types -/
class TI (P : Program) (t : TypeId) (size : outParam Nat) (agg : outParam Bool) : Prop where
  sz : (P.info? t).map (·.size) = some size
  ag : (match P.underlying t with | some (.struct _) | some (.array _ _) => some true | some _ => some false | none => none) = some agg
class TInt (P : Program) (t : TypeId) (k : outParam IntKind) : Prop where
  eq : P.underlying t = some (.int k)
class TBool (P : Program) (t : TypeId) : Prop where
  eq : P.underlying t = some .bool
class TSl (P : Program) (t : TypeId) (e : outParam TypeId) : Prop where
  eq : P.underlying t = some (.slice e)
class TZero (P : Program) (t : TypeId) (cs : outParam (List Value)) : Prop where
  eq : (P.info? t).bind (·.zero) = some (.agg cs.toArray) ∨ ∃ v, cs = [v] ∧ (P.info? t).bind (·.zero) = some v ∧ v.cells = #[v]
class TFd (P : Program) (s : TypeId) (f : Nat) (off : outParam Nat) (ft : outParam TypeId) : Prop where
  eq : (match P.underlying s with | some (.struct fs) => (fs[f]?).map (fun x => (x.offset, x.type)) | _ => none) = some (off, ft)

section
variable {ρ : Option Nat} {P : Program} {C : Ctx} {L : En} {H : List HE} {h : PH} {dst : Option Tmp} {ty : TypeId} {pos : String} {after : Array Edge} {gd : Option (Nat × Bool)}

theorem run_sz {t : TypeId} {n : Nat} (e : (P.info? t).map (·.size) = some n) (w : World) : (sizeOf t).run P w = .ok n w := by
  cases hi : P.info? t with
  | none => simp [hi] at e
  | some i => simp [hi] at e; simp [sizeOf, typeInfo, hi, e]
theorem run_agg {t : TypeId} {g : Bool} (e : (match P.underlying t with | some (.struct _) | some (.array _ _) => some true | some _ => some false | none => none) = some g) (w : World) : (isAgg t).run P w = .ok g w := by
  unfold isAgg
  cases hu : P.underlying t with
  | none => simp [hu] at e
  | some d =>
    rw [hu] at e
    rw [Sem.run_bind, run_underlying hu]
    simp only [Result.andThen_ok]
    cases d <;> simp at e <;> subst e <;> simp

/-! ### Plain operations -/
theorem od_move {x : Operand} {v : Value} (hx : Ev L x v) : OP P C ⟨dst, .move x, ty, pos, after, gd⟩ L H h v :=
  od_pure fun ρ w hρ _ => by simp [execOp, hρ x (by simp [Op.operands]) v hx]
theorem od_assign {x : Operand} {v : Value} (hx : Ev L x v) : OP P C ⟨dst, .assign x, ty, pos, after, gd⟩ L H h v :=
  od_pure fun ρ w hρ _ => by simp [execOp, hρ x (by simp [Op.operands]) v hx]
def bi (op : BinOp) (k : IntKind) (a b : Int) : Option Value :=
  match op with
  | .add => some (.int k (k.wrap (a + b)))
  | .sub => some (.int k (k.wrap (a - b)))
  | .mul => some (.int k (k.wrap (a * b)))
  | .eql => some (.bool (a == b))
  | .neq => some (.bool (a != b))
  | .lss => some (.bool (decide (a < b)))
  | .leq => some (.bool (decide (a ≤ b)))
  | .gtr => some (.bool (decide (b < a)))
  | .geq => some (.bool (decide (b ≤ a)))
  | .and => some (.int k (k.wrap (BitVec.ofInt k.bits a &&& BitVec.ofInt k.bits b).toNat))
  | .or => some (.int k (k.wrap (BitVec.ofInt k.bits a ||| BitVec.ofInt k.bits b).toNat))
  | .xor => some (.int k (k.wrap (BitVec.ofInt k.bits a ^^^ BitVec.ofInt k.bits b).toNat))
  | _ => none
theorem od_bin {op : BinOp} {t t' : TypeId} {x y : Operand} {k : IntKind} {a b : Int} {v : Value} (hx : Ev L x (.int k a)) (hy : Ev L y (.int k b)) (hv : bi op k a b = some v) :
    OP P C ⟨dst, .binOp op t x y t', ty, pos, after, gd⟩ L H h v :=
  od_pure fun ρ w hρ _ => by
    have e1 := hρ x (by simp [Op.operands]) _ hx
    have e2 := hρ y (by simp [Op.operands]) _ hy
    cases op <;> simp [bi] at hv <;> subst hv <;> simp [execOp, e1, e2, eqGuard, binOp, Op.intArith, Op.intCmp, Op.intBits, GT.gt, GE.ge]
/-- Sums that fit. -/
def ar (op : BinOp) (a b : Int) : Option Int :=
  match op with
  | .add => some (a + b)
  | .sub => some (a - b)
  | .mul => some (a * b)
  | _ => none
/-- The number fits its kind. -/
def inR : IntKind → Int → Prop
  | .i8, n => -128 ≤ n ∧ n ≤ 127
  | .i16, n => -32768 ≤ n ∧ n ≤ 32767
  | .i32, n => -2147483648 ≤ n ∧ n ≤ 2147483647
  | .i64, n => -9223372036854775808 ≤ n ∧ n ≤ 9223372036854775807
  | .u8, n => 0 ≤ n ∧ n ≤ 255
  | .u16, n => 0 ≤ n ∧ n ≤ 65535
  | .u32, n => 0 ≤ n ∧ n ≤ 4294967295
  | .u64, n => 0 ≤ n ∧ n ≤ 18446744073709551615
theorem inR_i32 {n : Int} (h1 : -2147483648 ≤ n) (h2 : n ≤ 2147483647) : inR .i32 n := ⟨h1, h2⟩
theorem inR_i64 {n : Int} (h1 : -9223372036854775808 ≤ n) (h2 : n ≤ 9223372036854775807) : inR .i64 n := ⟨h1, h2⟩
theorem inR_u8 {n : Int} (h1 : 0 ≤ n) (h2 : n ≤ 255) : inR .u8 n := ⟨h1, h2⟩
theorem inR_u16 {n : Int} (h1 : 0 ≤ n) (h2 : n ≤ 65535) : inR .u16 n := ⟨h1, h2⟩
theorem inR_u32 {n : Int} (h1 : 0 ≤ n) (h2 : n ≤ 4294967295) : inR .u32 n := ⟨h1, h2⟩
theorem inR_u64 {n : Int} (h1 : 0 ≤ n) (h2 : n ≤ 18446744073709551615) : inR .u64 n := ⟨h1, h2⟩
theorem wrap_inR {k : IntKind} {n : Int} (hh : inR k n) : k.wrap n = n := by
  cases k <;> simp only [inR] at hh <;> simp [IntKind.wrap, IntKind.bits, IntKind.signed] <;> omega
theorem od_ar {op : BinOp} {t t' : TypeId} {x y : Operand} {k : IntKind} {a b c : Int} (hx : Ev L x (.int k a)) (hy : Ev L y (.int k b)) (hv : ar op a b = some c) (hr : inR k c) :
    OP P C ⟨dst, .binOp op t x y t', ty, pos, after, gd⟩ L H h (.int k c) := by
  refine od_bin hx hy ?_
  cases op <;> simp [ar] at hv <;> subst hv <;> simp only [bi, wrap_inR hr]
theorem od_eqb {t t' : TypeId} {x y : Operand} {a b : Bool} [TBool P t] (hx : Ev L x (.bool a)) (hy : Ev L y (.bool b)) :
    OP P C ⟨dst, .binOp .eql t x y t', ty, pos, after, gd⟩ L H h (.bool (a == b)) :=
  od_pure fun ρ w hρ _ => by
    have e1 := hρ x (by simp [Op.operands]) _ hx
    have e2 := hρ y (by simp [Op.operands]) _ hy
    have hu := TBool.eq (P := P) (t := t)
    have hb : binOp .eql t (.bool a) (.bool b) = (do pure (.bool (← Op.equal t (.bool a) (.bool b)))) := rfl
    have hr := run_equalIn_bool (P := P) w 9999 t a b hu
    simp only [execOp, e1, e2, hb, Op.equal, Op.maxDepth]
    simp [eqGuard, hr]
theorem od_neb {t t' : TypeId} {x y : Operand} {a b : Bool} [TBool P t] (hx : Ev L x (.bool a)) (hy : Ev L y (.bool b)) :
    OP P C ⟨dst, .binOp .neq t x y t', ty, pos, after, gd⟩ L H h (.bool (a != b)) :=
  od_pure fun ρ w hρ _ => by
    have e1 := hρ x (by simp [Op.operands]) _ hx
    have e2 := hρ y (by simp [Op.operands]) _ hy
    have hu := TBool.eq (P := P) (t := t)
    have hb : binOp .neq t (.bool a) (.bool b) = (do pure (.bool (!(← Op.equal t (.bool a) (.bool b))))) := rfl
    have hr := run_equalIn_bool (P := P) w 9999 t a b hu
    simp only [execOp, e1, e2, hb, Op.equal, Op.maxDepth]
    simp [eqGuard, hr, bne]
theorem od_not {t : TypeId} {x : Operand} {a : Bool} (hx : Ev L x (.bool a)) : OP P C ⟨dst, .unOp .not t x, ty, pos, after, gd⟩ L H h (.bool (!a)) :=
  od_pure fun ρ w hρ _ => by
    have e1 := hρ x (by simp [Op.operands]) _ hx
    simp [execOp, e1, Op.unary]
theorem od_conv {s t : TypeId} {x : Operand} {k k' : IntKind} {a : Int} [TInt P s k'] [TInt P t k] (hx : Ev L x (.int k' a)) : OP P C ⟨dst, .convert s t x, ty, pos, after, gd⟩ L H h (.int k (k.wrap a)) :=
  od_pure fun ρ w hρ _ => by
    have e1 := hρ x (by simp [Op.operands]) _ hx
    have hs := TInt.eq (P := P) (t := s)
    have ht := TInt.eq (P := P) (t := t)
    simp [execOp, e1, convert, run_underlying hs, run_underlying ht, Conv.intToInt]
theorem od_cv {s t : TypeId} {x : Operand} {k k' : IntKind} {a : Int} [TInt P s k'] [TInt P t k] (hx : Ev L x (.int k' a)) (hr : inR k a) : OP P C ⟨dst, .convert s t x, ty, pos, after, gd⟩ L H h (.int k a) := by
  have := od_conv (P := P) (C := C) (H := H) (h := h) (dst := dst) (ty := ty) (pos := pos) (after := after) (gd := gd) (s := s) (t := t) hx
  rwa [wrap_inR hr] at this
theorem od_extract {x : Operand} {i : Nat} {vs : List Value} {v : Value} (hx : Ev L x (.tuple vs.toArray)) (hv : vs[i]? = some v) : OP P C ⟨dst, .extract x i, ty, pos, after, gd⟩ L H h v :=
  od_pure fun ρ w hρ _ => by
    have e1 := hρ x (by simp [Op.operands]) _ hx
    simp [execOp, e1, Instr.extract, hv]
/-- A list of operands, each told. -/
inductive Evs (L : En) : List Operand → List Value → Prop
  | nil : Evs L [] []
  | cons {x : Operand} {v : Value} {xs : List Operand} {vs : List Value} (hx : Ev L x v) (hxs : Evs L xs vs) : Evs L (x :: xs) (v :: vs)
theorem Evs.map {L : En} {xs : List Operand} {vs : List Value} (hh : Evs L xs vs) {ρ : Operand → Value} (hρ : ∀ x ∈ xs, ∀ u, Ev L x u → ρ x = u) : xs.map ρ = vs := by
  induction hh with
  | nil => rfl
  | cons hx _ ih => simp [hρ _ (by simp) _ hx, ih fun x hm => hρ x (by simp [hm])]
theorem od_makeFunc {fn : Fn} {xs : List Operand} {vs : List Value} (hx : Evs L xs vs) : OP P C ⟨dst, .makeFunc fn #[] xs.toArray, ty, pos, after, gd⟩ L H h (.func fn #[] vs.toArray) :=
  od_pure fun ρ w hρ _ => by
    have e := hx.map (ρ := ρ) (fun x hm => hρ x (by simp [Op.operands, hm]))
    simp [execOp, Instr.makeFunc, e]

/-! ### Choice between two arms -/
theorem od_and {c x : Operand} {b y : Bool} {g : List (Bool × Bool)} (hc : evo L c = some (g, .bool b)) (hg : Sat g) (hx : evo L x = some ((b, true) :: g, .bool y)) :
    OP P C ⟨dst, .pick c x (.const (.bool false)), ty, pos, after, gd⟩ L H h (.bool (b && y)) :=
  od_pure fun ρ w hρ _ => by
    have e1 := hρ c (by simp [Op.operands]) _ ⟨g, hc, hg⟩
    have e3 := hρ (.const (.bool false)) (by simp [Op.operands]) (.bool false) ⟨[], rfl, trivial⟩
    cases b with
    | false => simp [execOp, e1, e3, asBool]
    | true =>
      have e2 := hρ x (by simp [Op.operands]) _ ⟨_, hx, rfl, hg⟩
      simp [execOp, e1, e2, asBool]
theorem od_or {c y : Operand} {b z : Bool} {g : List (Bool × Bool)} (hc : evo L c = some (g, .bool b)) (hg : Sat g) (hy : evo L y = some ((b, false) :: g, .bool z)) :
    OP P C ⟨dst, .pick c (.const (.bool true)) y, ty, pos, after, gd⟩ L H h (.bool (b || z)) :=
  od_pure fun ρ w hρ _ => by
    have e1 := hρ c (by simp [Op.operands]) _ ⟨g, hc, hg⟩
    have e3 := hρ (.const (.bool true)) (by simp [Op.operands]) (.bool true) ⟨[], rfl, trivial⟩
    cases b with
    | true => simp [execOp, e1, e3, asBool]
    | false =>
      have e2 := hρ y (by simp [Op.operands]) _ ⟨_, hy, rfl, hg⟩
      simp [execOp, e1, e2, asBool]

/-! ### A list written out -/
inductive Nf : List Value → List Value → Prop
  | nil : Nf [] []
  | cons {x : Value} {xs ys : List Value} (hh : Nf xs ys) : Nf (x :: xs) (x :: ys)
theorem Nf.eq {xs ys : List Value} (hh : Nf xs ys) : xs = ys := by
  induction hh with
  | nil => rfl
  | cons _ ih => rw [ih]

/-! ### Private boxes -/
inductive HGet : List HE → Nat → List Value → TypeId → Prop
  | here {H : List HE} {b : Nat} {cs : List Value} {t : TypeId} : HGet (box b cs t :: H) b cs t
  | there {e : HE} {H : List HE} {b : Nat} {cs : List Value} {t : TypeId} (hh : HGet H b cs t) : HGet (e :: H) b cs t
theorem HGet.ents {H : List HE} {b : Nat} {cs : List Value} {t : TypeId} (hh : HGet H b cs t) : ∀ {l : List Blk}, Ents H l → (b, Obj.cells cs.toArray t (0, 0)) ∈ l := by
  induction hh with
  | here => rintro l ⟨l1, l2, rfl, e, _⟩; rw [show l1 = _ from e]; simp
  | there _ ih => rintro l ⟨l1, l2, rfl, _, e⟩; exact List.mem_append_right _ (ih e)
theorem HGet.block {b : Nat} {cs : List Value} {t : TypeId} (hh : HGet H b cs t) {w : World} (hw : Inv C H h w) : w.heap[b]? = some (.cells cs.toArray t (0, 0)) := by
  obtain ⟨l, he, hs, _⟩ := hw
  exact hs.mem _ _ (hh.ents he)
theorem HGet.more {b : Nat} {cs : List Value} {t : TypeId} (hh : HGet H b cs t) : ∀ Hx : List HE, HGet (Hx ++ H) b cs t
  | [] => hh
  | _ :: Hx => .there (hh.more Hx)
theorem HGet.blockS {b : Nat} {cs : List Value} {t : TypeId} (hh : HGet H b cs t) {w : World} (hw : SS C H h w) : w.heap[b]? = some (.cells cs.toArray t (0, 0)) := by
  obtain ⟨Hx, h', _, hi⟩ := hw
  exact (hh.more Hx).block hi

theorem cell_of {w : World} {b : Nat} {cs : List Value} {t : TypeId} {fr : Nat × Nat} (hb : w.heap[b]? = some (.cells cs.toArray t fr)) {off j : Nat} {v : Value} (hv : cs[off + j]? = some v) : w.cell? ((⟨b, off, none⟩ : Addr).add j) = some v := by
  unfold Addr.add
  split
  · rename_i e; subst e; simp [World.cell?, hb]; simpa using hv
  · simp [World.cell?, hb]; simpa using hv
theorem run_loadAt {t : TypeId} {n : Nat} {g : Bool} [TI P t n g] {w : World} {b off : Nat} {cs : List Value} {t' : TypeId} {fr : Nat × Nat} (hb : w.heap[b]? = some (.cells cs.toArray t' fr)) {vs : List Value}
    (hv : (cs.drop off).take n = vs) (hn : vs.length = n) (hg : g = true ∨ n = 1) :
    (Instr.loadAt t (.pointer (some ⟨b, off, none⟩))).run P w = .ok (if g then .agg vs.toArray else vs.getD 0 undef) w := by
  have hsz := run_sz (TI.sz (P := P) (t := t)) w
  have hag := run_agg (TI.ag (P := P) (t := t)) w
  have hcell : ∀ j v, vs[j]? = some v → w.cell? ((⟨b, off, none⟩ : Addr).add j) = some v := by
    intro j v e
    refine cell_of hb ?_
    rw [← hv] at e
    rw [List.getElem?_take] at e
    split at e
    · rwa [List.getElem?_drop] at e
    · simp at e
  simp only [Instr.loadAt, Instr.sureAddr, loadVar, Sem.run_bind, Sem.run_pure, Result.andThen_ok, hag]
  cases g with
  | true =>
    simp only [if_true, Sem.run_bind, hsz, Result.andThen_ok]
    have := run_loadCells_list (P := P) (w := w) ⟨b, off, none⟩ vs hcell
    rw [hn] at this
    simp [this]
  | false =>
    have h1 : n = 1 := by simpa using hg
    subst h1
    match vs, hn with
    | [v], _ =>
      have := hcell 0 v rfl
      have e0 : (⟨b, off, none⟩ : Addr).add 0 = ⟨b, off, none⟩ := rfl
      rw [e0] at this
      simp [load, Sem.run, this]

theorem od_load_agg {t : TypeId} {n : Nat} {x : Operand} {b off : Nat} {cs vs : List Value} {t' : TypeId} [TI P t n true] (hx : Ev L x (.pointer (some ⟨b, off, none⟩))) (hb : HGet H b cs t')
    (hv : Nf ((cs.drop off).take n) vs) (hn : vs.length = n) : OP P C ⟨dst, .load t x, ty, pos, after, gd⟩ L H h (.agg vs.toArray) :=
  od_pure fun ρ w hρ hw => by
    have e1 := hρ x (by simp [Op.operands]) _ hx
    have := run_loadAt (P := P) (t := t) (off := off) (hb.blockS hw) hv.eq hn (.inl rfl)
    simp [execOp, e1, this]
theorem od_load_one {t : TypeId} {x : Operand} {b off : Nat} {cs : List Value} {v : Value} {t' : TypeId} [TI P t 1 false] (hx : Ev L x (.pointer (some ⟨b, off, none⟩))) (hb : HGet H b cs t')
    (hv : cs[off]? = some v) : OP P C ⟨dst, .load t x, ty, pos, after, gd⟩ L H h v :=
  od_pure fun ρ w hρ hw => by
    have e1 := hρ x (by simp [Op.operands]) _ hx
    have hvs : (cs.drop off).take 1 = [v] := by
      have : off < cs.length := (List.getElem?_eq_some_iff.1 hv).1
      rw [List.drop_eq_getElem_cons this]
      simp [(List.getElem?_eq_some_iff.1 hv).2]
    have := run_loadAt (P := P) (t := t) (off := off) (hb.blockS hw) hvs rfl (.inr rfl)
    simp [execOp, e1, this]
theorem od_fieldAddr {s : TypeId} {x : Operand} {f off b o n : Nat} {ft : TypeId} {ag : Bool} [TFd P s f off ft] [TI P ft (n + 1) ag] (hx : Ev L x (.pointer (some ⟨b, o, none⟩))) {o' : Nat} (ho : o + off = o') :
    OP P C ⟨dst, .fieldAddr s x f, ty, pos, after, gd⟩ L H h (.pointer (some ⟨b, o', none⟩)) :=
  od_pure fun ρ w hρ hw => by
    have e1 := hρ x (by simp [Op.operands]) _ hx
    have hf := TFd.eq (P := P) (s := s) (f := f)
    subst ho
    cases hu : P.underlying s with
    | none => simp [hu] at hf
    | some d =>
      rw [hu] at hf
      cases d with
      | struct fs =>
        simp only [Option.map_eq_some_iff, Prod.mk.injEq] at hf
        obtain ⟨fd, hfd, rfl, rfl⟩ := hf
        have hsz := run_sz (TI.sz (P := P) (t := fd.type)) w
        have : (Addr.add ⟨b, o, none⟩ fd.offset) = ⟨b, o + fd.offset, none⟩ := by
          unfold Addr.add
          split
          · rename_i e; rw [e]; rfl
          · rfl
        simp [execOp, e1, Instr.fieldAt, run_underlying hu, hfd, Instr.sureAddr, fieldPlace, hsz, this]
      | _ => simp at hf
end
end Go.GV

end
section
/- Contracts, calls, private boxes, returns, over the small logic of GvA and GvB. -/
namespace Go.GV
open Go

/-- What a call of 'f' does: 'Hi' are the private blocks that are handed to it, 'Ho' those that it leaves. -/
def PostR (C : Ctx) (Post : Value → PH → List HE → Prop) : Ending → World → Prop := fun e w' => ∃ v h' Ho, e = .returned v ∧ Post v h' Ho ∧ Inv C Ho h' w'
def SpecM (P : Program) (f : FuncId) (args : Array Value) (h : PH) (Hi : List HE) (Post : Value → PH → List HE → Prop) : Prop :=
  ∀ w l, Ents Hi l → Sep w h l → Calls P f args w (PostR ⟨w, h, l.map (·.1)⟩ Post)
def Spec (P : Program) (f : FuncId) (args : Array Value) (h : PH) (Post : Value → PH → Prop) : Prop := SpecM P f args h [] fun v h' Ho => Post v h' ∧ Ho = []
/-- A call that yields one value, whatever the memory. -/
def Det (P : Program) (f : FuncId) (args : Array Value) (h : PH) (v : Value) : Prop := Spec P f args h fun v' _ => v' = v

theorem SpecM.mono {P : Program} {f : FuncId} {args : Array Value} {h : PH} {Hi : List HE} {A B : Value → PH → List HE → Prop} (s : SpecM P f args h Hi A) (ab : ∀ v h' Ho, A v h' Ho → B v h' Ho) : SpecM P f args h Hi B :=
  fun w l he hs => (s w l he hs).mono fun _ _ ⟨v, h', Ho, e, p, i⟩ => ⟨v, h', Ho, e, ab _ _ _ p, i⟩
theorem Spec.mono {P : Program} {f : FuncId} {args : Array Value} {h : PH} {A B : Value → PH → Prop} (s : Spec P f args h A) (ab : ∀ v h', A v h' → B v h') : Spec P f args h B :=
  SpecM.mono s fun _ _ _ ⟨p, e⟩ => ⟨ab _ _ p, e⟩

theorem ents_append : ∀ {H H' : List HE} {l : List Blk}, Ents (H ++ H') l ↔ ∃ a b, l = a ++ b ∧ Ents H a ∧ Ents H' b
  | [], H', l => by
    simp only [List.nil_append, Ents]
    exact ⟨fun e => ⟨[], l, rfl, rfl, e⟩, fun ⟨a, b, e1, e2, e3⟩ => by subst e2; simp at e1; rw [e1]; exact e3⟩
  | e :: H, H', l => by
    simp only [List.cons_append, Ents]
    constructor
    · rintro ⟨l1, l2, rfl, he, h2⟩
      obtain ⟨a, b, rfl, ha, hb⟩ := ents_append.1 h2
      exact ⟨l1 ++ a, b, by simp, ⟨l1, a, rfl, he, ha⟩, hb⟩
    · rintro ⟨a, b, rfl, ⟨l1, l2, rfl, he, h2⟩, hb⟩
      exact ⟨l1, l2 ++ b, by simp, he, ents_append.2 ⟨l2, b, rfl, h2, hb⟩⟩

/-- Behind a call. -/
theorem Inv.call {C : Ctx} {Hi Hf Ho : List HE} {h h' : PH} {w w' : World} {li lf : List Blk} (_hi : Ents Hi li) (hf : Ents Hf lf) (hs : Sep w h (li ++ lf)) (hc : Since C w h (li ++ lf))
    (hn : Inv ⟨w, h, li.map (·.1)⟩ Ho h' w') : Inv C (Ho ++ Hf) h' w' := by
  obtain ⟨lo, heo, hso, hco⟩ := hn
  have blt : ∀ b o, (b, o) ∈ lf → b < w.heap.size := fun b o hm => (Array.getElem?_eq_some_iff.1 (hs.mem b o (List.mem_append_right _ hm))).1
  have bni : ∀ b o, (b, o) ∈ lf → b ∉ li.map (·.1) := by
    intro b o hm hi
    have := hs.nodup
    rw [List.map_append, List.nodup_append] at this
    exact this.2.2 b hi b (List.mem_map.2 ⟨(b, o), hm, rfl⟩) rfl
  have keep : ∀ b o, (b, o) ∈ lf → w'.heap[b]? = some o := fun b o hm => by
    rw [hco.old b (blt b o hm) (bni b o hm)]
    exact hs.mem b o (List.mem_append_right _ hm)
  refine ⟨lo ++ lf, ents_append.2 ⟨lo, lf, rfl, heo, hf⟩, ⟨?_, ?_, hso.pub, ?_⟩, ⟨hco.os.trans hc.os, hco.tape.trans hc.tape, Nat.le_trans hc.drawn hco.drawn, hco.output.trans hc.output, Nat.le_trans hc.size hco.size, ?_, PH.le_trans hc.le hco.le, ?_, ?_⟩⟩
  · rw [List.map_append, List.nodup_append]
    refine ⟨hso.nodup, ?_, ?_⟩
    · have := hs.nodup
      rw [List.map_append, List.nodup_append] at this
      exact this.2.1
    · intro b hb b' hb' e
      subst e
      obtain ⟨⟨b1, o1⟩, hm1, rfl⟩ := List.mem_map.1 hb
      obtain ⟨⟨b2, o2⟩, hm2, e2⟩ := List.mem_map.1 hb'
      simp at e2
      subst e2
      rcases hco.own _ _ hm1 with h1 | h1
      · have := blt _ _ hm2; simp only at h1; omega
      · exact bni _ _ hm2 h1
  · intro b o hm
    rcases List.mem_append.1 hm with hm | hm
    · exact hso.mem b o hm
    · exact keep b o hm
  · intro b o hm
    rcases List.mem_append.1 hm with hm | hm
    · exact hso.sep b o hm
    · cases e : h' b with
      | none => rfl
      | some o' =>
        have hn := hs.sep b o (List.mem_append_right _ hm)
        rcases hco.fresh b o' e hn with h1 | h1
        · have := blt _ _ hm; simp only at h1; omega
        · exact absurd h1 (bni _ _ hm)
  · intro k hk hkb
    have hk1 : k < w.heap.size := Nat.lt_of_lt_of_le hk hc.size
    have hk2 : k ∉ li.map (·.1) := by
      intro hm
      obtain ⟨⟨b1, o1⟩, hm1, rfl⟩ := List.mem_map.1 hm
      rcases hc.own b1 o1 (List.mem_append_left _ hm1) with h1 | h1
      · omega
      · exact hkb h1
    rw [hco.old k hk1 hk2, hc.old k hk hkb]
  · intro b o hb h0
    cases e : h b with
    | some o' =>
      exact hc.fresh b o' e h0
    | none =>
      rcases hco.fresh b o hb e with h1 | h1
      · have := hc.size; simp only at h1; left; omega
      · obtain ⟨⟨b1, o1⟩, hm1, rfl⟩ := List.mem_map.1 h1
        exact hc.own b1 o1 (List.mem_append_left _ hm1)
  · intro b o hm
    rcases List.mem_append.1 hm with hm | hm
    · rcases hco.own b o hm with h1 | h1
      · have := hc.size; simp only at h1; left; omega
      · obtain ⟨⟨b1, o1⟩, hm1, rfl⟩ := List.mem_map.1 h1
        exact hc.own b1 o1 (List.mem_append_left _ hm1)
    · exact hc.own b o (List.mem_append_right _ hm)

/-- Know less of shared memory. -/
theorem Inv.less {C : Ctx} {H : List HE} {h h' : PH} {w : World} (hw : Inv C H h' w) (hl : h.le h') (h0 : C.h0.le h) : Inv C H h w := by
  obtain ⟨l, he, hs, hc⟩ := hw
  refine ⟨l, he, ⟨hs.nodup, hs.mem, fun b o e => hs.pub b o (hl b o e), fun b o hm => ?_⟩, ⟨hc.os, hc.tape, hc.drawn, hc.output, hc.size, hc.old, h0, fun b o e => hc.fresh b o (hl b o e), hc.own⟩⟩
  cases e : h b with
  | none => rfl
  | some o' => have := hs.sep b o hm; rw [hl b o' e] at this; cases this
theorem Inv.le0 {C : Ctx} {H : List HE} {h : PH} {w : World} (hw : Inv C H h w) : C.h0.le h := let ⟨_, _, _, hc⟩ := hw; hc.le
/-- Let go of private blocks. -/
theorem Inv.drop1 {C : Ctx} {e : HE} {H : List HE} {h : PH} {w : World} (hw : Inv C (e :: H) h w) : Inv C H h w := by
  obtain ⟨l, ⟨l1, l2, rfl, _, he⟩, hs, hc⟩ := hw
  refine ⟨l2, he, ⟨?_, fun b o hm => hs.mem b o (List.mem_append_right _ hm), hs.pub, fun b o hm => hs.sep b o (List.mem_append_right _ hm)⟩, ⟨hc.os, hc.tape, hc.drawn, hc.output, hc.size, hc.old, hc.le, hc.fresh, fun b o hm => hc.own b o (List.mem_append_right _ hm)⟩⟩
  have := hs.nodup
  rw [List.map_append, List.nodup_append] at this
  exact this.2.1
theorem Inv.drop {C : Ctx} {h : PH} {w : World} : ∀ {H : List HE}, Inv C H h w → Inv C [] h w
  | [], hw => hw
  | _ :: _, hw => Inv.drop hw.drop1

/-- Take one entry to the front. -/
inductive Pick : List HE → HE → List HE → Prop
  | here {e : HE} {H : List HE} : Pick (e :: H) e H
  | there {x e : HE} {H H' : List HE} (hh : Pick H e H') : Pick (x :: H) e (x :: H')
theorem Pick.ents {H H' : List HE} {e : HE} (hp : Pick H e H') : ∀ {l : List Blk}, Ents H l → ∃ l', Ents (e :: H') l' ∧ l.Perm l' := by
  induction hp with
  | here => exact fun he => ⟨_, he, .refl _⟩
  | there hh ih =>
    rintro l ⟨l1, l2, rfl, hx, he⟩
    obtain ⟨l', ⟨m1, m2, rfl, he1, he2⟩, hp⟩ := ih he
    refine ⟨m1 ++ (l1 ++ m2), ⟨m1, _, rfl, he1, l1, m2, rfl, hx, he2⟩, ?_⟩
    refine (List.Perm.append_left l1 hp).trans ?_
    rw [← List.append_assoc, ← List.append_assoc]
    exact List.Perm.append_right m2 List.perm_append_comm
theorem Sep.perm {w : World} {h : PH} {l l' : List Blk} (hs : Sep w h l) (hp : l.Perm l') : Sep w h l' :=
  ⟨(hp.map _).nodup_iff.1 hs.nodup, fun b o hm => hs.mem b o (hp.mem_iff.2 hm), hs.pub, fun b o hm => hs.sep b o (hp.mem_iff.2 hm)⟩
theorem Since.perm {C : Ctx} {w : World} {h : PH} {l l' : List Blk} (hc : Since C w h l) (hp : l.Perm l') : Since C w h l' :=
  ⟨hc.os, hc.tape, hc.drawn, hc.output, hc.size, hc.old, hc.le, hc.fresh, fun b o hm => hc.own b o (hp.mem_iff.2 hm)⟩
theorem Inv.pick {C : Ctx} {H H' : List HE} {e : HE} {h : PH} {w : World} (hw : Inv C H h w) (hp : Pick H e H') : Inv C (e :: H') h w := by
  obtain ⟨l, he, hs, hc⟩ := hw
  obtain ⟨l', he', hpm⟩ := hp.ents he
  exact ⟨l', he', hs.perm hpm, hc.perm hpm⟩

section
variable {ρ : Option Nat} {P : Program} {C : Ctx} {N : Fr} {L : En} {H : List HE} {h : PH} {dst : Option Tmp} {ty : TypeId} {pos : String} {after : Array Edge} {gd : Option (Nat × Bool)}
variable {ops : Array Oper} {o : Oper} {rest : List Oper} {Q : Exit → Act → World → Prop}

/-! ### Entering, returning -/
def enArgs : Nat → List Value → En
  | _, [] => []
  | i, v :: r => (i, [], v) :: enArgs (i + 1) r
theorem look_enArgs : ∀ (vs : List Value) (i s : Nat) (g : List (Bool × Bool)) (v : Value), look (enArgs i vs) s = some (g, v) → g = [] ∧ i ≤ s ∧ vs[s - i]? = some v
  | [], i, s, g, v => by simp [enArgs, look]
  | u :: r, i, s, g, v => by
    intro e
    rw [enArgs, look_put] at e
    by_cases hi : i = s
    · subst hi; simp at e; simp [e]
    · rw [if_neg hi] at e
      obtain ⟨h1, h2, h3⟩ := look_enArgs r (i + 1) s g v e
      refine ⟨h1, by omega, ?_⟩
      rw [show s - i = (s - (i + 1)) + 1 by omega]
      simpa using h3
theorem spec_enter {f : FuncId} {fn : Func} {c : Code} {args : List Value} {Hi : List HE} {Post : Value → PH → List HE → Prop} (hf : P.funcs[f]? = some fn) (hb : fn.body = some c) {n : Nat} (hN : fn.ntmps = n) (hle : Nat.ble args.length n = true)
    (hx : ∀ w l, Hd ⟨w, h, l⟩ ⟨n, []⟩ (enArgs 0 args) Hi h (cw none P c (bodyPost P fn (PostR ⟨w, h, l⟩ Post)))) : SpecM P f args.toArray h Hi Post := by
  intro w l he hs
  refine calls_of_cw hf hb ((hx w (l.map (·.1))).all _ _ ⟨?_, rfl, ?_⟩ ⟨l, he, hs, ⟨rfl, rfl, Nat.le_refl _, rfl, Nat.le_refl _, fun _ _ _ => rfl, PH.le_refl _, fun b o e1 e2 => ?_, fun b o hm => .inr (List.mem_map.2 ⟨(b, o), hm, rfl⟩)⟩⟩)
  · have := Nat.le_of_ble_eq_true hle
    simp [hN]; omega
  · intro s g v e
    obtain ⟨rfl, _, h3⟩ := look_enArgs args 0 s g v e
    simp only [Nat.sub_zero] at h3
    have hl : s < args.length := (List.getElem?_eq_some_iff.1 h3).1
    rw [Array.getElem?_append_left (by simpa using hl)]
    simpa [G, satB] using h3
  · simp only at e2
    rw [e1] at e2; cases e2

/-- Results, told one by one: a slot, or a private variable. -/
inductive Res (P : Program) (L : En) (H : List HE) : List ResultVar → List Value → Prop
  | nil : Res P L H [] []
  | tmp {t : Tmp} {v : Value} {rs : List ResultVar} {vs : List Value} (hv : Ev L (.tmp t) v) (hh : Res P L H rs vs) : Res P L H (.tmp t :: rs) (v :: vs)
  | one {t : Tmp} {ty : TypeId} {b off : Nat} {cs : List Value} {t' : TypeId} {v : Value} {rs : List ResultVar} {vs : List Value} [TI P ty 1 false] (hx : Ev L (.tmp t) (.pointer (some ⟨b, off, none⟩))) (hb : HGet H b cs t')
      (hv : cs[off]? = some v) (hh : Res P L H rs vs) : Res P L H (.cell t ty :: rs) (v :: vs)
  | agg {t : Tmp} {ty : TypeId} {n b off : Nat} {cs xs : List Value} {t' : TypeId} {rs : List ResultVar} {vs : List Value} [TI P ty n true] (hx : Ev L (.tmp t) (.pointer (some ⟨b, off, none⟩))) (hb : HGet H b cs t')
      (hv : Nf ((cs.drop off).take n) xs) (hn : xs.length = n) (hh : Res P L H rs vs) : Res P L H (.cell t ty :: rs) (.agg xs.toArray :: vs)

def ofVs : List Value → Value
  | [v] => v
  | vs => .tuple vs.toArray
theorem run_loadVar_of {t : TypeId} {p : Addr} {v : Value} {w : World} (e : (Instr.loadAt t (.pointer (some p))).run P w = .ok v w) : (loadVar t p).run P w = .ok v w := by
  simpa only [Instr.loadAt, Instr.sureAddr, Sem.run_bind, Sem.run_pure, Result.andThen_ok] using e
def resV (tmps : Array Value) : ResultVar → Sem Value
  | .tmp t => pure (tmps.getD t undef)
  | .cell a t => do loadVar t (← asAddr (tmps.getD a undef))
theorem results_eq (fn : Func) (tmps : Array Value) : results fn tmps = (do let vs ← fn.results.mapM (resV tmps); pure (if hh : vs.size = 1 then vs[0] else .tuple vs)) := by
  rfl
theorem Res.run {rs : List ResultVar} {vs : List Value} (hh : Res P L H rs vs) {a : Act} {w : World} (ha : EnOK a N L) (hw : Inv C H h w) : (rs.mapM (resV a.tmps)).run P w = .ok vs w := by
  induction hh with
  | nil => simp
  | tmp hv _ ih =>
    have e : a.tmps.getD _ undef = _ := hv.eval ha
    simp only [List.mapM_cons, resV, e]
    simp [ih]
  | one hx hb hv _ ih =>
    rename_i t ty b off cs t' v rs vs hti hh
    have e : a.tmps.getD _ undef = _ := hx.eval ha
    have hvs : (cs.drop off).take 1 = [v] := by
      have : off < cs.length := (List.getElem?_eq_some_iff.1 hv).1
      rw [List.drop_eq_getElem_cons this]
      simp [(List.getElem?_eq_some_iff.1 hv).2]
    have := run_loadVar_of (run_loadAt (P := P) (t := ty) (off := off) (hb.block hw) hvs rfl (.inr rfl))
    simp only [List.mapM_cons, resV, e, asAddr]
    simp [ih, this]
  | agg hx hb hv hn _ ih =>
    rename_i t ty n b off cs xs t' rs vs hti hh
    have e : a.tmps.getD _ undef = _ := hx.eval ha
    have := run_loadVar_of (run_loadAt (P := P) (t := ty) (off := off) (hb.block hw) hv.eq hn (.inl rfl))
    simp only [List.mapM_cons, resV, e, asAddr]
    simp [ih, this]
theorem hd_res {fn : Func} {n : Nat} {Post : Value → PH → List HE → Prop} {rs : List ResultVar} {vs : List Value} {e : Exit} (he : e = .ret ∨ e = .normal) (hr : fn.results = rs.toArray) (hv : Res P L H rs vs)
    (hp : ∀ w, Inv C H h w → ∃ h' Ho, Post (ofVs vs) h' Ho ∧ Inv C Ho h' w) : Hd C ⟨n, []⟩ L H h (bodyPost P fn (PostR C Post) e) := by
  refine ⟨fun a w ha hw => ?_⟩
  obtain ⟨h', Ho, hpost, hinv⟩ := hp w hw
  have hrun := hv.run ha hw
  have : (results fn a.tmps).run P w = .ok (ofVs vs) w := by
    rw [results_eq, hr, List.mapM_toArray]
    match vs, hrun with
    | [], hrun => simp [ofVs, hrun]
    | [v], hrun => simp [ofVs, hrun]
    | v :: v' :: r, hrun => simp [ofVs, hrun]
  exact body_ret he ha.defers this ⟨_, h', Ho, rfl, hpost, hinv⟩
theorem hd_res0 {fn : Func} {n : Nat} {Post : Value → PH → Prop} {rs : List ResultVar} {vs : List Value} {e : Exit} (he : e = .ret ∨ e = .normal) (hr : fn.results = rs.toArray) (hv : Res P L H rs vs)
    (hp : Post (ofVs vs) h) : Hd C ⟨n, []⟩ L H h (bodyPost P fn (PostR C fun v h' Ho => Post v h' ∧ Ho = []) e) :=
  hd_res he hr hv fun _ hw => ⟨h, [], ⟨hp, rfl⟩, hw.drop⟩

/-! ### Calls -/
class TFn (P : Program) (f : FuncId) : Prop where
  eq : (P.funcs[f]?).map (fun fn => (fn.name == "runtime.NumGoroutine", fn.body.isNone)) = some (false, false)
theorem run_callFunc {f : FuncId} [TFn P f] (args : Array Value) (w : World) : (callFunc f args).run P w = .ok (.enter f args) w := by
  have hf := TFn.eq (P := P) (f := f)
  cases hq : P.funcs[f]? with
  | none => simp [hq] at hf
  | some fn =>
    simp [hq] at hf
    obtain ⟨h1, h2⟩ := hf
    have h2' : fn.body.isNone = false := by simpa using h2
    simp only [callFunc, Sem.run_bind, run_program, Result.andThen_ok, hq]
    rw [if_neg (by simpa using h1), if_neg (by simp [h2'])]
    rfl
theorem run_call {ρ : Operand → Value} {x : Operand} {xs : List Operand} {at_ : Array TypeId} {f : FuncId} [TFn P f] {fs cs vs : List Value} (hx : ρ x = .func (.func f) fs.toArray cs.toArray) (hxs : xs.map ρ = vs) (w : World) :
    (execOp ρ ⟨dst, .call ⟨.value x, xs.toArray, at_⟩, ty, pos, after, gd⟩).run P w = .ok (.enter f (fs ++ vs ++ cs).toArray) w := by
  simp only [execOp, resolve, hx, Deferred.ofValue, Sem.run_bind, Sem.run_pure, Result.andThen_ok, invoke]
  rw [show (xs.toArray.map ρ) = vs.toArray by rw [← hxs]; simp]
  rw [run_callFunc]
  simp
theorem od_call {x : Operand} {xs : List Operand} {at_ : Array TypeId} {f : FuncId} {cs vs as : List Value} {v : Value} (hx : Ev L x (.func (.func f) #[] cs.toArray)) (hf : TFn P f) (hxs : Evs L xs vs) (has : Nf (vs ++ cs) as)
    (hd : Det P f as.toArray h v) : OD P C ⟨dst, .call ⟨.value x, xs.toArray, at_⟩, ty, pos, after, gd⟩ L H h v := by
  refine ⟨fun a ha w hw => ?_⟩
  have e1 := ha x (by simp [Op.operands, Call.operands]) _ hx
  have e2 := hxs.map (ρ := a.eval) (fun y hy => ha y (by simp [Op.operands, Call.operands, hy]))
  have := run_call (P := P) (dst := dst) (ty := ty) (pos := pos) (after := after) (gd := gd) (at_ := at_) (fs := []) e1 e2 w
  unfold Oper.quietAt
  rw [this]
  refine ⟨rfl, ?_⟩
  simp only [List.nil_append]
  rw [has.eq]
  obtain ⟨l, he, hs, hc⟩ := hw
  refine (hd w [] rfl ⟨by simp, by simp, hs.pub, by simp⟩).mono ?_
  rintro e w' ⟨v', h', Ho, rfl, ⟨rfl, rfl⟩, hi⟩
  refine ⟨rfl, ?_⟩
  have hn := Inv.call (Hi := []) (li := []) rfl he hs hc hi
  exact hn.less (Inv.le0 hi) hc.le
/-- A call in the order of the text, with private blocks handed over. -/
theorem hd_callM {x : Operand} {xs : List Operand} {at_ : Array TypeId} {f : FuncId} {cs vs as : List Value} {d : Nat} {Hi Hf : List HE} {Post : Value → PH → List HE → Prop} (hx : Ev L x (.func (.func f) #[] cs.toArray)) (hf : TFn P f) (hxs : Evs L xs vs)
    (has : Nf (vs ++ cs) as) (hN : Nat.blt d N.n = true) (hH : ∀ w, Inv C H h w → Inv C (Hi ++ Hf) h w) (hs : SpecM P f as.toArray h Hi Post)
    (next : ∀ v h' Ho, h.le h' → Post v h' Ho → Hd C N ((d, [], v) :: L) (Ho ++ Hf) h' (wpList P ops Q rest)) :
    Hd C N L H h (wpList P ops Q (⟨some d, .call ⟨.value x, xs.toArray, at_⟩, ty, pos, after, none⟩ :: rest)) := by
  refine ⟨fun a w ha hw => ?_⟩
  have e1 := hx.eval ha
  have e2 := hxs.map (ρ := a.eval) (fun y _ u hu => hu.eval ha)
  have hrun := run_call (P := P) (dst := some d) (ty := ty) (pos := pos) (after := after) (gd := none) (at_ := at_) (fs := []) e1 e2 w
  simp only [wpList]
  rw [if_pos (by simp [Region.wanted])]
  unfold opw
  rw [hrun]
  simp only [up, List.nil_append]
  rw [has.eq]
  obtain ⟨l, he, hsp, hc⟩ := hH w hw
  obtain ⟨li, lf, rfl, hei, hef⟩ := ents_append.1 he
  have hsi : Sep w h li := by
    have hnd := hsp.nodup
    rw [List.map_append, List.nodup_append] at hnd
    exact ⟨hnd.1, fun b o hm => hsp.mem b o (List.mem_append_left _ hm), hsp.pub, fun b o hm => hsp.sep b o (List.mem_append_left _ hm)⟩
  refine (hs w li hei hsi).mono ?_
  rintro e w' ⟨v, h', Ho, rfl, hp, hi⟩
  have hn := Inv.call hei hef hsp hc hi
  refine ⟨v, rfl, ?_⟩
  refine (next v h' Ho (Inv.le0 hi) hp).all _ _ ?_ hn
  have := ha.put (g := []) (v := v) (d := d) (by simpa using hN)
  simpa [G, satB] using this
theorem hd_call {x : Operand} {xs : List Operand} {at_ : Array TypeId} {f : FuncId} {cs vs as : List Value} {d : Nat} {Post : Value → PH → Prop} (hx : Ev L x (.func (.func f) #[] cs.toArray)) (hf : TFn P f) (hxs : Evs L xs vs)
    (has : Nf (vs ++ cs) as) (hN : Nat.blt d N.n = true) (hs : Spec P f as.toArray h Post)
    (next : ∀ v h', h.le h' → Post v h' → Hd C N ((d, [], v) :: L) H h' (wpList P ops Q rest)) :
    Hd C N L H h (wpList P ops Q (⟨some d, .call ⟨.value x, xs.toArray, at_⟩, ty, pos, after, none⟩ :: rest)) :=
  hd_callM (Hi := []) (Hf := H) hx hf hxs has hN (fun _ hw => hw) hs fun v h' Ho hl ⟨hp, e⟩ => by subst e; exact next v h' hl hp

/-! ### New boxes -/
theorem Inv.alloc {w : World} (hw : Inv C H h w) (cs : List Value) (t : TypeId) : Inv C (box w.heap.size cs t :: H) h (w.alloc (.cells cs.toArray t (0, 0))) := by
  obtain ⟨l, he, hs, hc⟩ := hw
  have blt : ∀ b o, (b, o) ∈ l → b < w.heap.size := fun b o hm => (Array.getElem?_eq_some_iff.1 (hs.mem b o hm)).1
  have plt : ∀ b o, h b = some o → b < w.heap.size := fun b o e => (Array.getElem?_eq_some_iff.1 (hs.pub b o e)).1
  have old : ∀ k, k < w.heap.size → (w.alloc (.cells cs.toArray t (0, 0))).heap[k]? = w.heap[k]? := fun k hk => RowKit.Below.heap_alloc w _ k hk
  have hnew : (w.alloc (.cells cs.toArray t (0, 0))).heap[w.heap.size]? = some (.cells cs.toArray t (0, 0)) := by
    show (w.heap.push _)[w.heap.size]? = _
    simp
  have hsz : (w.alloc (.cells cs.toArray t (0, 0))).heap.size = w.heap.size + 1 := by
    show (w.heap.push _).size = _
    simp
  refine ⟨(w.heap.size, .cells cs.toArray t (0, 0)) :: l, ⟨[_], l, rfl, rfl, he⟩, ⟨?_, ?_, ?_, ?_⟩, ⟨hc.os, hc.tape, hc.drawn, hc.output, by rw [hsz]; have := hc.size; omega, ?_, hc.le, hc.fresh, ?_⟩⟩
  · simp only [List.map_cons, List.nodup_cons]
    refine ⟨fun hm => ?_, hs.nodup⟩
    obtain ⟨⟨b, o⟩, hm, e⟩ := List.mem_map.1 hm
    have := blt b o hm
    simp at e; omega
  · intro b o hm
    rcases List.mem_cons.1 hm with e | hm
    · simp at e; rw [e.1, e.2]; exact hnew
    · rw [old b (blt b o hm)]; exact hs.mem b o hm
  · intro b o e; rw [old b (plt b o e)]; exact hs.pub b o e
  · intro b o hm
    rcases List.mem_cons.1 hm with e | hm
    · simp at e
      cases e2 : h b with
      | none => rfl
      | some o' => have := plt b o' e2; omega
    · exact hs.sep b o hm
  · intro k hk hb; rw [old k (by have := hc.size; omega)]; exact hc.old k hk hb
  · intro b o hm
    rcases List.mem_cons.1 hm with e | hm
    · simp at e; left; rw [e.1]; exact hc.size
    · exact hc.own b o hm
theorem hd_box {T : TypeId} {x : Operand} {v : Value} {cs : List Value} {d : Nat} (hx : Ev L x v) (hv : v.cells = cs.toArray) (hN : Nat.blt d N.n = true)
    (next : ∀ b, Hd C N ((d, [], .pointer (some ⟨b, 0, none⟩)) :: L) (box b cs T :: H) h (wpList P ops Q rest)) :
    Hd C N L H h (wpList P ops Q (⟨some d, .box T x, ty, pos, after, none⟩ :: rest)) := by
  refine ⟨fun a w ha hw => ?_⟩
  have e1 := hx.eval ha
  simp only [wpList]
  rw [if_pos (by simp [Region.wanted])]
  have hrun : (execOp a.eval ⟨some d, .box T x, ty, pos, after, none⟩).run P w = .ok (.value (.pointer (some ⟨w.heap.size, 0, none⟩))) (w.alloc (.cells cs.toArray T (0, 0))) := by
    simp [execOp, e1, Instr.box, newVar, newRow, hv]
  unfold opw
  rw [hrun]
  refine (next w.heap.size).all _ _ ?_ (hw.alloc cs T)
  have := ha.put (g := []) (v := .pointer (some ⟨w.heap.size, 0, none⟩)) (d := d) (by simpa using hN)
  simpa [G, satB] using this
theorem run_zero {t : TypeId} {cs : List Value} [TZero P t cs] (w : World) : ∃ z, (zeroValue t).run P w = .ok z w ∧ z.cells = cs.toArray := by
  rcases TZero.eq (P := P) (t := t) with e | ⟨v, rfl, e, hv⟩
  · cases hi : P.info? t with
    | none => simp [hi] at e
    | some i => simp [hi] at e; exact ⟨.agg cs.toArray, by simp [zeroValue, typeInfo, hi, e], rfl⟩
  · cases hi : P.info? t with
    | none => simp [hi] at e
    | some i => simp [hi] at e; exact ⟨v, by simp [zeroValue, typeInfo, hi, e], hv⟩
theorem hd_alloc {T : TypeId} {cs : List Value} {d : Nat} [TZero P T cs] (hN : Nat.blt d N.n = true)
    (next : ∀ b, Hd C N ((d, [], .pointer (some ⟨b, 0, none⟩)) :: L) (box b cs T :: H) h (wpList P ops Q rest)) :
    Hd C N L H h (wpList P ops Q (⟨some d, .alloc T, ty, pos, after, none⟩ :: rest)) := by
  refine ⟨fun a w ha hw => ?_⟩
  simp only [wpList]
  rw [if_pos (by simp [Region.wanted])]
  obtain ⟨z, hz, hzc⟩ := run_zero (P := P) (t := T) w
  have hrun : (execOp a.eval ⟨some d, .alloc T, ty, pos, after, none⟩).run P w = .ok (.value (.pointer (some ⟨w.heap.size, 0, none⟩))) (w.alloc (.cells cs.toArray T (0, 0))) := by
    simp [execOp, Instr.alloc, hz, newVar, newRow, hzc]
  unfold opw
  rw [hrun]
  refine (next w.heap.size).all _ _ ?_ (hw.alloc cs T)
  have := ha.put (g := []) (v := .pointer (some ⟨w.heap.size, 0, none⟩)) (d := d) (by simpa using hN)
  simpa [G, satB] using this
end
end Go.GV

end
section
/- Stores, struct values, builtins, loops, over the small logic of GvA to GvC. -/
namespace Go.GV
open Go

def spl (cs : List Value) (o : Nat) (vs : List Value) : List Value := cs.take o ++ (vs ++ cs.drop (o + vs.length))

/-- The world with one block turned. -/
structure Turned (w w' : World) (b : Nat) (o : Obj) : Prop where
  os : w'.os = w.os
  tape : w'.tape = w.tape
  drawn : w'.drawn = w.drawn
  output : w'.output = w.output
  size : w'.heap.size = w.heap.size
  at_ : w'.heap[b]? = some o
  other : ∀ k, k ≠ b → w'.heap[k]? = w.heap[k]?

theorem run_storeCells {P : Program} (b : Nat) (t : TypeId) (off : Nat) : ∀ (vs : List Value) (i : Nat) (cs : List Value) (w : World), w.heap[b]? = some (.cells cs.toArray t (0, 0)) → off + i + vs.length ≤ cs.length → vs.all (·.oneCell') = true →
    ∃ w', (storeCells ⟨b, off, none⟩ vs i).run P w = .ok () w' ∧ Turned w w' b (.cells (spl cs (off + i) vs).toArray t (0, 0))
  | [], i, cs, w, hb, _, _ => ⟨w, by simp [storeCells], ⟨rfl, rfl, rfl, rfl, rfl, by simpa [spl] using hb, fun _ _ => rfl⟩⟩
  | v :: vs, i, cs, w, hb, hl, ho => by
    simp only [List.length_cons] at hl
    have hv : v.oneCell' = true := by simp at ho; exact ho.1
    have hvs : vs.all (·.oneCell') = true := by simp at ho; simpa using ho.2
    have hadd : (⟨b, off, none⟩ : Addr).add i = ⟨b, off + i, none⟩ := by unfold Addr.add; split <;> simp_all
    have hcell : w.cell? ⟨b, off + i, none⟩ = some (cs[off + i]'(by omega)) := by simp [World.cell?, hb]
    have hfr : w.frozen? ⟨b, off + i, none⟩ = false := by simp [World.frozen?, hb]
    have hst : (store ((⟨b, off, none⟩ : Addr).add i) v).run P w = .ok () (w.setCell ⟨b, off + i, none⟩ v) := by
      rw [hadd, run_store P w _ v .plain hv]
      simp [hcell, hfr]
    have hb1 : (w.setCell ⟨b, off + i, none⟩ v).heap[b]? = some (.cells (cs.set (off + i) v).toArray t (0, 0)) := by
      simp [World.setCell, Array.getElem?_modify, hb]
    obtain ⟨w', hr, ht⟩ := run_storeCells (P := P) b t off vs (i + 1) (cs.set (off + i) v) (w.setCell ⟨b, off + i, none⟩ v) hb1 (by simp; omega) hvs
    have hat := ht.at_
    refine ⟨w', ?_, ⟨ht.os, ht.tape, ht.drawn, ht.output, by rw [ht.size]; simp [World.setCell], ?_, fun k hk => ?_⟩⟩
    · simp only [storeCells, Sem.run_bind, hst, Result.andThen_ok, hr]
    · rw [hat]
      congr 3
      unfold spl
      have e2 : List.drop (off + (i + 1) + vs.length) (cs.set (off + i) v) = List.drop (off + i + (v :: vs).length) cs := by
        rw [List.drop_set_of_lt (by omega)]
        congr 1
        simp; omega
      rw [e2, show off + (i + 1) = (off + i) + 1 by omega, List.take_succ_eq_append_getElem (by simp; omega)]
      simp [List.take_set_of_le]
    · rw [ht.other k hk]
      exact RowKit.Below.heap_setCell w _ v k hk

inductive HSet : List HE → Nat → List Value → TypeId → List Value → List HE → Prop
  | here {H : List HE} {b : Nat} {cs cs' : List Value} {t : TypeId} : HSet (box b cs t :: H) b cs t cs' (box b cs' t :: H)
  | there {e : HE} {H H' : List HE} {b : Nat} {cs cs' : List Value} {t : TypeId} (hh : HSet H b cs t cs' H') : HSet (e :: H) b cs t cs' (e :: H')
theorem HSet.get {H H' : List HE} {b : Nat} {cs cs' : List Value} {t : TypeId} (hh : HSet H b cs t cs' H') : HGet H b cs t := by
  induction hh with
  | here => exact .here
  | there _ ih => exact .there ih
theorem HSet.ents {H H' : List HE} {b : Nat} {cs cs' : List Value} {t : TypeId} (hh : HSet H b cs t cs' H') : ∀ {l : List Blk}, Ents H l →
    ∃ l', Ents H' l' ∧ l'.map (·.1) = l.map (·.1) ∧ (b, Obj.cells cs'.toArray t (0, 0)) ∈ l' ∧ ∀ k o, (k, o) ∈ l' → (k, o) ∈ l ∨ (k = b ∧ o = .cells cs'.toArray t (0, 0)) := by
  induction hh with
  | here =>
    rintro l ⟨l1, l2, rfl, e, he⟩
    rw [show l1 = _ from e]
    exact ⟨_ :: l2, ⟨[_], l2, rfl, rfl, he⟩, by simp, by simp, fun k o hm => by
      rcases List.mem_cons.1 hm with e | hm
      · simp at e; exact .inr e
      · exact .inl (by simp [hm])⟩
  | there _ ih =>
    rintro l ⟨l1, l2, rfl, e, he⟩
    obtain ⟨l', h1, h2, h3, h4⟩ := ih he
    refine ⟨l1 ++ l', ⟨l1, l', rfl, e, h1⟩, by simp [h2], List.mem_append_right _ h3, fun k o hm => ?_⟩
    rcases List.mem_append.1 hm with hm | hm
    · exact .inl (List.mem_append_left _ hm)
    · rcases h4 k o hm with h | h
      · exact .inl (List.mem_append_right _ h)
      · exact .inr h
theorem nodup_fst {l : List Blk} (hn : (l.map (·.1)).Nodup) {b : Nat} {o o' : Obj} (h1 : (b, o) ∈ l) (h2 : (b, o') ∈ l) : o = o' := by
  induction l with
  | nil => cases h1
  | cons x r ih =>
    simp only [List.map_cons, List.nodup_cons] at hn
    rcases List.mem_cons.1 h1 with e1 | m1 <;> rcases List.mem_cons.1 h2 with e2 | m2
    · rw [← e1] at e2; simp at e2; exact e2.symm
    · exact absurd (List.mem_map.2 ⟨(b, o'), m2, by rw [← e1]⟩) hn.1
    · exact absurd (List.mem_map.2 ⟨(b, o), m1, by rw [← e2]⟩) hn.1
    · exact ih hn.2 m1 m2
theorem Inv.turned {C : Ctx} {H H' : List HE} {h : PH} {w w' : World} {b : Nat} {cs cs' : List Value} {t : TypeId} (hw : Inv C H h w) (hh : HSet H b cs t cs' H') (ht : Turned w w' b (.cells cs'.toArray t (0, 0))) : Inv C H' h w' := by
  obtain ⟨l, he, hs, hc⟩ := hw
  obtain ⟨l', he', hm, hb, hold⟩ := hh.ents he
  have hbl : ∃ o, (b, o) ∈ l := by
    have : b ∈ l'.map (·.1) := List.mem_map.2 ⟨_, hb, rfl⟩
    rw [hm] at this
    obtain ⟨⟨b', o⟩, h1, rfl⟩ := List.mem_map.1 this
    exact ⟨o, h1⟩
  obtain ⟨ob, hbo⟩ := hbl
  have hnd : (l'.map (·.1)).Nodup := by rw [hm]; exact hs.nodup
  refine ⟨l', he', ⟨hnd, fun k o hk => ?_, fun k o e => ?_, fun k o hk => ?_⟩, ⟨ht.os.trans hc.os, ht.tape.trans hc.tape, by rw [ht.drawn]; exact hc.drawn, ht.output.trans hc.output, by rw [ht.size]; exact hc.size, fun k hk hkb => ?_, hc.le, hc.fresh, fun k o hk => ?_⟩⟩
  · by_cases e : k = b
    · subst e
      rw [nodup_fst hnd hk hb]
      exact ht.at_
    · rw [ht.other k e]
      rcases hold k o hk with h1 | h1
      · exact hs.mem k o h1
      · exact absurd h1.1 e
  · have hne : k ≠ b := by rintro rfl; rw [hs.sep k ob hbo] at e; cases e
    rw [ht.other k hne]
    exact hs.pub k o e
  · rcases hold k o hk with h1 | h1
    · exact hs.sep k o h1
    · rw [h1.1]; exact hs.sep b ob hbo
  · have hne : k ≠ b := by
      rintro rfl
      rcases hc.own k ob hbo with h1 | h1
      · omega
      · exact hkb h1
    rw [ht.other k hne]
    exact hc.old k hk hkb
  · rcases hold k o hk with h1 | h1
    · exact hc.own k o h1
    · rw [h1.1]; exact hc.own b ob hbo

section
variable {ρ : Option Nat} {P : Program} {C : Ctx} {N : Fr} {L : En} {H : List HE} {h : PH} {dst : Option Tmp} {ty : TypeId} {pos : String} {after : Array Edge} {gd : Option (Nat × Bool)}
variable {ops : Array Oper} {o : Oper} {rest : List Oper} {Q : Exit → Act → World → Prop}

theorem hd_store {T T' : TypeId} {x y : Operand} {b off n : Nat} {v : Value} {vs cs cs' : List Value} {H' : List HE} {g : Bool} [TI P T n g] (hx : Ev L x (.pointer (some ⟨b, off, none⟩))) (hy : Ev L y v) (hvs : v.cells = vs.toArray)
    (hb : HSet H b cs T' cs' H') (hn : vs.length = n) (hle : Nat.ble (off + vs.length) cs.length = true) (hone : vs.all (·.oneCell') = true) (hcs : Nf (spl cs off vs) cs') (next : Hd C N L H' h (wpList P ops Q rest)) :
    Hd C N L H h (wpList P ops Q (⟨none, .store T x y, ty, pos, after, none⟩ :: rest)) := by
  refine ⟨fun a w ha hw => ?_⟩
  have e1 := hx.eval ha
  have e2 := hy.eval ha
  have hsz := run_sz (TI.sz (P := P) (t := T)) w
  obtain ⟨w', hr, ht⟩ := run_storeCells (P := P) b T' off vs 0 cs w (hb.get.block hw) (Nat.le_of_ble_eq_true hle) hone
  rw [Nat.add_zero, hcs.eq] at ht
  simp only [wpList]
  rw [if_pos (by simp [Region.wanted])]
  have hrun : (execOp a.eval ⟨none, .store T x y, ty, pos, after, none⟩).run P w = .ok .skip w' := by
    simp only [execOp, e1, e2, Instr.storeAt, Instr.sureAddr, storeVar, Sem.run_bind, Sem.run_pure, Result.andThen_ok, hsz, hvs]
    simp [hn, hr]
  unfold opw
  rw [hrun]
  exact next.all _ _ ha (hw.turned hb ht)

/-! ### Struct values -/
/-- A struct's cells out of zeros and parts: each part at its offset. -/
def fillL : List Value → List (Nat × List Value) → List Value
  | z, [] => z
  | z, (o, vs) :: r => fillL (spl z o vs) r
/-- The parts of a struct literal: field numbers and operands, told by offsets and cells. -/
inductive Parts (P : Program) (L : En) (s : TypeId) : List (Nat × Operand) → List (Nat × List Value) → Prop
  | nil : Parts P L s [] []
  | cons {f off n : Nat} {ft : TypeId} {g : Bool} {x : Operand} {v : Value} {vs : List Value} {ps : List (Nat × Operand)} {qs : List (Nat × List Value)} [TFd P s f off ft] [TI P ft n g] (hx : Ev L x v) (hvs : v.cells = vs.toArray) (hn : vs.length = n)
      (hh : Parts P L s ps qs) : Parts P L s ((f, x) :: ps) ((off, vs) :: qs)
theorem foldl_spl (off : Nat) : ∀ (vs : List Value) (j : Nat) (z : List Value), off + j + vs.length ≤ z.length →
    ((vs.zipIdx j).foldl (fun (cs : Array Value) (p : Value × Nat) => cs.setIfInBounds (off + p.2) p.1) z.toArray) = (spl z (off + j) vs).toArray
  | [], j, z, _ => by simp [spl]
  | v :: vs, j, z, hl => by
    simp only [List.length_cons] at hl
    simp only [List.zipIdx_cons, List.foldl_cons, List.setIfInBounds_toArray]
    rw [foldl_spl off vs (j + 1) (z.set (off + j) v) (by simp; omega)]
    congr 1
    unfold spl
    have e2 : List.drop (off + (j + 1) + vs.length) (z.set (off + j) v) = List.drop (off + j + (v :: vs).length) z := by
      rw [List.drop_set_of_lt (by omega)]
      congr 1
      simp; omega
    rw [e2, show off + (j + 1) = (off + j) + 1 by omega, List.take_succ_eq_append_getElem (by simp; omega)]
    simp [List.take_set_of_le]
theorem length_spl {z : List Value} {o : Nat} {vs : List Value} (hl : o + vs.length ≤ z.length) : (spl z o vs).length = z.length := by
  simp [spl]; omega
theorem fill_parts {s : TypeId} {fs : Array Field} (hs : P.underlying s = some (.struct fs)) {ps : List (Nat × Operand)} {qs : List (Nat × List Value)} (hh : Parts P L s ps qs) {ρ : Operand → Value} (hρ : ∀ p ∈ ps, ∀ u, Ev L p.2 u → ρ p.2 = u) (places : Array (Nat × Nat))
    (hpl : ∀ (f : Nat) (fd : Field), fs[f]? = some fd → ∃ n, (P.info? fd.type).map (·.size) = some n ∧ places[f]? = some (fd.offset, n)) :
    ∀ z : List Value, (∀ q ∈ qs, q.1 + q.2.length ≤ z.length) → Instr.fill (places[·]?) z.toArray (ps.map fun p => (p.1, ρ p.2)) = some (fillL z qs).toArray := by
  induction hh with
  | nil => intro z _; rfl
  | @cons f off n ft g x v vs ps qs hfd hti hx hvs hn _ ih =>
    intro z hz
    have e := hρ (f, x) (by simp) v hx
    simp only at e
    have hq := TFd.eq (P := P) (s := s) (f := f)
    rw [hs] at hq
    simp only [Option.map_eq_some_iff, Prod.mk.injEq] at hq
    obtain ⟨fd, hfd', rfl, rfl⟩ := hq
    obtain ⟨m, hm1, hm2⟩ := hpl f fd hfd'
    have : m = n := by have := TI.sz (P := P) (t := fd.type) (size := n); rw [hm1] at this; simpa using this
    subst this
    have hz0 := hz (fd.offset, vs) (by simp)
    simp only at hz0
    simp only [List.map_cons, Instr.fill, hm2, e, hvs]
    rw [if_neg (by simp; omega)]
    have hfold := foldl_spl fd.offset vs 0 z (by omega)
    rw [Nat.add_zero] at hfold
    have : (vs.toArray.zipIdx.foldl (fun cs x => cs.setIfInBounds (fd.offset + x.2) x.1) z.toArray) = (spl z fd.offset vs).toArray := by
      rw [← Array.foldl_toList, Array.toList_zipIdx]; simpa using hfold
    rw [this]
    refine ih (fun p hp => hρ p (by simp [hp])) _ (fun q hq => ?_)
    rw [length_spl hz0]
    exact hz q (by simp [hq])
class TStruct (P : Program) (s : TypeId) : Prop where
  eq : (match P.underlying s with | some (.struct fs) => fs.all (fun f => (P.info? f.type).isSome) | _ => false) = true
theorem mapM_places (fs : List Field) (hall : ∀ f ∈ fs, (P.info? f.type).isSome = true) (w : World) : (fs.mapM (fun f => do pure (f.offset, ← sizeOf f.type) : Field → Sem (Nat × Nat))).run P w = .ok (fs.map fun f => (f.offset, P.cellsOf f.type)) w := by
  induction fs with
  | nil => simp
  | cons f fs ih =>
    obtain ⟨i, hi⟩ := Option.isSome_iff_exists.1 (hall f (by simp))
    have hsz : (sizeOf f.type).run P w = .ok (P.cellsOf f.type) w := by simp [sizeOf, typeInfo, hi, Program.cellsOf]
    have ih' := ih fun g hg => hall g (by simp [hg])
    rw [List.mapM_cons]
    simp only [Sem.run_bind, hsz, Sem.run_pure, Result.andThen_ok, List.map_cons]
    rw [ih']
    rfl
theorem od_build {s : TypeId} {ps : List (Nat × Operand)} {qs : List (Nat × List Value)} {z cs : List Value} [TStruct P s] [TZero P s z] (hh : Parts P L s ps qs) (hz : (qs.all fun q => Nat.ble (q.1 + q.2.length) z.length) = true) (hcs : Nf (fillL z qs) cs) :
    OP P C ⟨dst, .build s ps.toArray, ty, pos, after, gd⟩ L H h (.agg cs.toArray) :=
  od_pure fun ρ w hρ _ => by
    have hst := TStruct.eq (P := P) (s := s)
    cases hu : P.underlying s with
    | none => simp [hu] at hst
    | some d =>
      rw [hu] at hst
      cases d with
      | struct fs =>
        simp only [Array.all_eq_true_iff_forall_mem] at hst
        obtain ⟨zv, hzr, hzc⟩ := run_zero (P := P) (t := s) w
        have hpl := mapM_places (P := P) fs.toList (fun f hf => hst f (by simpa using hf)) w
        have hfill := fill_parts (P := P) hu hh (ρ := ρ) (fun p hp => hρ p.2 (by simp only [Op.operands]; simpa using ⟨p.1, hp⟩)) (fs.map fun f => (f.offset, P.cellsOf f.type)) (fun f fd hfd => by
          have hm : fd ∈ fs := Array.mem_of_getElem? hfd
          obtain ⟨i, hi⟩ := Option.isSome_iff_exists.1 (hst fd hm)
          exact ⟨i.size, by simp [hi], by simp [hfd, Program.cellsOf, hi]⟩) z (fun q hq => Nat.le_of_ble_eq_true (by simpa using (List.all_eq_true.1 hz) q hq))
        have hplA : (fs.mapM (fun f => do pure (f.offset, ← sizeOf f.type) : Field → Sem (Nat × Nat))).run P w = .ok (fs.map fun f => (f.offset, P.cellsOf f.type)) w := by
          have e1 : fs = fs.toList.toArray := by simp
          rw [e1, List.mapM_toArray]
          rw [Sem.run_map, hpl]
          simp only [Result.andThen_ok]
          rw [← Array.toList_map, Array.toArray_toList, Array.toArray_toList]
        simp only [execOp, Instr.build, Sem.run_bind, hzr, Result.andThen_ok, run_underlying hu, hplA, hzc]
        have e2 : (ps.toArray.map fun (i, x) => (i, ρ x)).toList = ps.map fun p => (p.1, ρ p.2) := by simp
        rw [e2, hfill, hcs.eq]
        simp
      | _ => simp at hst
end
end Go.GV

end
section
/- Struct equality, builtins, loops, over the small logic of GvA to GvD. -/
namespace Go.GV
open Go

/-! ### Equality of structs of plain fields -/
/-- The kinds of a struct's fields, if all are integers or bools (none: a bool), at offsets 0, 1, .. -/
def flatFs (P : Program) : List Field → Nat → Option (List (Option IntKind))
  | [], _ => some []
  | f :: fs, i =>
    if f.name != "_" && f.offset == i then
      match P.underlying f.type with
      | some (.int k) => (flatFs P fs (i + 1)).map (some k :: ·)
      | some .bool => (flatFs P fs (i + 1)).map (none :: ·)
      | _ => none
    else none
class TEq (P : Program) (t : TypeId) (ks : outParam (List (Option IntKind))) : Prop where
  eq : (match P.underlying t with | some (.struct fs) => flatFs P fs.toList 0 | _ => none) = some ks
  held : P.stoodInHeld t = false
  guard : P.eqGuardType P.depth t = false
inductive Cells : List (Option IntKind) → List Value → Prop
  | nil : Cells [] []
  | int {k : IntKind} {a : Int} {ks : List (Option IntKind)} {vs : List Value} (hh : Cells ks vs) : Cells (some k :: ks) (.int k a :: vs)
  | bool {b : Bool} {ks : List (Option IntKind)} {vs : List Value} (hh : Cells ks vs) : Cells (none :: ks) (.bool b :: vs)
def eqV : Value → Value → Bool
  | .int _ a, .int _ b => a == b
  | .bool a, .bool b => a == b
  | _, _ => false
def eqL : List Value → List Value → Bool
  | [], [] => true
  | [x], [y] => eqV x y
  | x :: xs, y :: ys => eqV x y && eqL xs ys
  | _, _ => false
theorem eqL_cons (x y : Value) (xs ys : List Value) (hl : xs.length = ys.length) : eqL (x :: xs) (y :: ys) = (eqV x y && eqL xs ys) := by
  cases xs with
  | nil => cases ys with
    | nil => simp [eqL]
    | cons b bs => simp at hl
  | cons a as => cases ys with
    | nil => simp at hl
    | cons b bs => rfl
theorem Cells.length {ks : List (Option IntKind)} {vs : List Value} (hh : Cells ks vs) : vs.length = ks.length := by
  induction hh with
  | nil => rfl
  | int _ ih => simp [ih]
  | bool _ ih => simp [ih]
theorem run_part1 {P : Program} {t : TypeId} (hp : (match P.underlying t with | some (.struct _) | some (.array _ _) => some true | some _ => some false | none => none) = some false) {cs : Array Value} {off : Nat} {v : Value} (hv : cs[off]? = some v) (w : World) :
    (part t cs off).run P w = .ok v w := by
  simp [part, run_agg hp, hv]
theorem run_eqFields {P : Program} (d : Nat) (w : World) (X Y : Array Value) : ∀ (fs : List Field) (i : Nat) (ks : List (Option IntKind)) (xs ys : List Value), flatFs P fs i = some ks → Cells ks xs → Cells ks ys → X.toList.drop i = xs → Y.toList.drop i = ys →
    (Op.eqFields (d + 1) X Y fs).run P w = .ok (eqL xs ys) w
  | [], i, ks, xs, ys, h, hx, hy, _, _ => by
    simp [flatFs] at h
    subst h
    cases hx; cases hy
    simp [Op.eqFields, eqL]
  | f :: fs, i, ks, xs, ys, h, hx, hy, ex, ey => by
    simp only [flatFs] at h
    split at h
    · rename_i hn
      simp at hn
      obtain ⟨hname, hoff⟩ := hn
      have step : ∀ (kk : Option IntKind) (ks' : List (Option IntKind)) (x y : Value) (xs' ys' : List Value), flatFs P fs (i + 1) = some ks' → xs = x :: xs' → ys = y :: ys' → Cells ks' xs' → Cells ks' ys' →
          (match P.underlying f.type with | some (.struct _) | some (.array _ _) => some true | some _ => some false | none => none) = some false →
          (Op.equalIn (d + 1) f.type x y).run P w = .ok (eqV x y) w → (Op.eqFields (d + 1) X Y (f :: fs)).run P w = .ok (eqL xs ys) w := by
        intro kk ks' x y xs' ys' hk e1 e2 c1 c2 hp he
        have gx : X[f.offset]? = some x := by
          rw [hoff, ← Array.getElem?_toList]
          have : (X.toList.drop i)[0]? = some x := by rw [ex, e1]; rfl
          simpa using this
        have gy : Y[f.offset]? = some y := by
          rw [hoff, ← Array.getElem?_toList]
          have : (Y.toList.drop i)[0]? = some y := by rw [ey, e2]; rfl
          simpa using this
        have dx : X.toList.drop (i + 1) = xs' := by rw [← List.drop_drop, ex, e1]; rfl
        have dy : Y.toList.drop (i + 1) = ys' := by rw [← List.drop_drop, ey, e2]; rfl
        have ih := run_eqFields (P := P) d w X Y fs (i + 1) ks' xs' ys' hk c1 c2 dx dy
        have px := run_part1 hp gx w
        have py := run_part1 hp gy w
        simp only [Op.eqFields]
        rw [if_pos hname]
        simp only [Sem.run_bind, px, py, Result.andThen_ok, he]
        rw [e1, e2, eqL_cons x y xs' ys' (by rw [c1.length, c2.length])]
        cases hb : eqV x y
        · simp
        · simp [ih]
      cases hu : P.underlying f.type with
      | none => simp [hu] at h
      | some ud =>
        rw [hu] at h
        cases ud with
        | int k =>
          simp only [Option.map_eq_some_iff] at h
          obtain ⟨ks', hk, rfl⟩ := h
          cases hx with
          | int cx => cases hy with
            | int cy => exact step (some k) ks' _ _ _ _ hk rfl rfl cx cy (by rw [hu]) (run_equalIn_int w d f.type k k _ _ hu)
        | bool =>
          simp only [Option.map_eq_some_iff] at h
          obtain ⟨ks', hk, rfl⟩ := h
          cases hx with
          | bool cx => cases hy with
            | bool cy => exact step none ks' _ _ _ _ hk rfl rfl cx cy (by rw [hu]) (run_equalIn_bool w d f.type _ _ hu)
        | _ => simp at h
    · simp at h

section
variable {ρ : Option Nat} {P : Program} {C : Ctx} {N : Fr} {L : En} {H : List HE} {h : PH} {dst : Option Tmp} {ty : TypeId} {pos : String} {after : Array Edge} {gd : Option (Nat × Bool)}
variable {ops : Array Oper} {o : Oper} {rest : List Oper} {Q : Exit → Act → World → Prop}

theorem run_equal_flat {t : TypeId} {ks : List (Option IntKind)} [TEq P t ks] {xs ys : List Value} (cx : Cells ks xs) (cy : Cells ks ys) (w : World) : (Op.equal t (.agg xs.toArray) (.agg ys.toArray)).run P w = .ok (eqL xs ys) w := by
  have he := TEq.eq (P := P) (t := t)
  cases hu : P.underlying t with
  | none => simp [hu] at he
  | some d =>
    rw [hu] at he
    cases d with
    | struct fs =>
      have hf : P.fieldsOf t = fs := by simp [Program.fieldsOf, hu]
      unfold Op.equal Op.maxDepth
      rw [run_equalIn_struct w 9999 t _ _ (by rw [hf]; exact hu) (TEq.held), hf]
      exact run_eqFields (P := P) 9998 w _ _ fs.toList 0 ks xs ys he cx cy (by simp) (by simp)
    | _ => simp at he
theorem od_eqs {t t' : TypeId} {x y : Operand} {ks : List (Option IntKind)} {xs ys : List Value} [TEq P t ks] (hx : Ev L x (.agg xs.toArray)) (hy : Ev L y (.agg ys.toArray)) (cx : Cells ks xs) (cy : Cells ks ys) :
    OP P C ⟨dst, .binOp .eql t x y t', ty, pos, after, gd⟩ L H h (.bool (eqL xs ys)) :=
  od_pure fun ρ w hρ _ => by
    have e1 := hρ x (by simp [Op.operands]) _ hx
    have e2 := hρ y (by simp [Op.operands]) _ hy
    have hg := run_eqGuard_agg (P := P) w .eql t x y xs.toArray ys.toArray TEq.guard
    have hb : binOp .eql t (.agg xs.toArray) (.agg ys.toArray) = (do pure (.bool (← Op.equal t (.agg xs.toArray) (.agg ys.toArray)))) := rfl
    simp only [execOp, e1, e2, hb, Sem.run_bind, hg, Result.andThen_ok, run_equal_flat cx cy w, Sem.run_pure]
theorem od_nes {t t' : TypeId} {x y : Operand} {ks : List (Option IntKind)} {xs ys : List Value} [TEq P t ks] (hx : Ev L x (.agg xs.toArray)) (hy : Ev L y (.agg ys.toArray)) (cx : Cells ks xs) (cy : Cells ks ys) :
    OP P C ⟨dst, .binOp .neq t x y t', ty, pos, after, gd⟩ L H h (.bool (!eqL xs ys)) :=
  od_pure fun ρ w hρ _ => by
    have e1 := hρ x (by simp [Op.operands]) _ hx
    have e2 := hρ y (by simp [Op.operands]) _ hy
    have hg := run_eqGuard_agg (P := P) w .neq t x y xs.toArray ys.toArray TEq.guard
    have hb : binOp .neq t (.agg xs.toArray) (.agg ys.toArray) = (do pure (.bool (!(← Op.equal t (.agg xs.toArray) (.agg ys.toArray))))) := rfl
    simp only [execOp, e1, e2, hb, Sem.run_bind, hg, Result.andThen_ok, run_equal_flat cx cy w, Sem.run_pure]

/-! ### Builtins -/
theorem od_min {x y : Operand} {at_ : Array TypeId} {k : IntKind} {a b : Int} (hx : Ev L x (.int k a)) (hy : Ev L y (.int k b)) : OP P C ⟨dst, .call ⟨.builtin .min, #[x, y], at_⟩, ty, pos, after, gd⟩ L H h (.int k (min a b)) :=
  od_pure fun ρ w hρ _ => by
    have e1 := hρ x (by simp [Op.operands, Call.operands]) _ hx
    have e2 := hρ y (by simp [Op.operands, Call.operands]) _ hy
    have : (if b < a then b else a) = min a b := by omega
    simp [execOp, resolve, e1, e2, invoke, builtin, Builtin.min_, Builtin.min2, this]
theorem od_max {x y : Operand} {at_ : Array TypeId} {k : IntKind} {a b : Int} (hx : Ev L x (.int k a)) (hy : Ev L y (.int k b)) : OP P C ⟨dst, .call ⟨.builtin .max, #[x, y], at_⟩, ty, pos, after, gd⟩ L H h (.int k (max a b)) :=
  od_pure fun ρ w hρ _ => by
    have e1 := hρ x (by simp [Op.operands, Call.operands]) _ hx
    have e2 := hρ y (by simp [Op.operands, Call.operands]) _ hy
    simp [execOp, resolve, e1, e2, invoke, builtin, Builtin.max_, Builtin.max2]
    omega
theorem od_len {x : Operand} {t e : TypeId} [TSl P t e] {p : Option Addr} {n c : Nat} (hx : Ev L x (.slice p n c)) : OP P C ⟨dst, .call ⟨.builtin .len, #[x], #[t]⟩, ty, pos, after, gd⟩ L H h (.int .i64 n) :=
  od_pure fun ρ w hρ _ => by
    have e1 := hρ x (by simp [Op.operands, Call.operands]) _ hx
    have hu := TSl.eq (P := P) (t := t)
    simp [execOp, resolve, e1, invoke, builtin, Builtin.len_, run_underlying hu, goInt]

/-! ### Loops -/
theorem hd_loop {c : Code} {ι : Type} (I : ι → Prop) (LL : ι → En) (HH : ι → List HE) (hh : ι → PH) (μ : ι → Nat) (i0 : ι) (h0 : I i0) (start : ∀ a w, EnOK a N L → Inv C H h w → EnOK a N (LL i0) ∧ Inv C (HH i0) (hh i0) w)
    (round : ∀ i, I i → Hd C N (LL i) (HH i) (hh i) (cw ρ P c (Exit.then (fun a w => ∃ j, I j ∧ μ j < μ i ∧ EnOK a N (LL j) ∧ Inv C (HH j) (hh j) w) Q))) : Hd C N L H h (cw ρ P (Code.loop c) Q) := by
  refine ⟨fun a w ha hw => ?_⟩
  have key : ∀ n (i : ι), μ i = n → I i → ∀ a w, EnOK a N (LL i) → Inv C (HH i) (hh i) w → ∀ (b : Frame) (k : List Item) (cs : List Frame), b.roundOf = (fR ρ).round → (fR ρ).fn b.fn → (fR ρ).room (cs.length + 1 + 0) →
      ∃ e a' w', Q e a' w' ∧ ArrivesIn (Machine.fenced P (fR ρ)) P (lone (b.atR a (.code c :: .inLoop c :: k)) cs w) b k cs e a' w' := by
    intro n
    induction n using Nat.strongRecOn with
    | _ n ih =>
      intro i hn hi a w ha hw b k cs hro hb hr
      obtain ⟨e, a1, w1, hq, harr⟩ := (round i hi).all a w ha hw b (.inLoop c :: k) cs hro hb hr
      cases e with
      | normal =>
        obtain ⟨j, hj, hlt, ha1, hw1⟩ := hq
        obtain ⟨e2, a2, w2, hq2, harr2⟩ := ih (μ j) (hn ▸ hlt) j rfl hj a1 w1 ha1 hw1 b k cs hro hb hr
        exact ⟨e2, a2, w2, hq2, .of_steps (StepsIn.trans harr (.one (fenced_calm hb hr rfl) stepR_inLoop)) harr2⟩
      | exit id => exact ⟨_, a1, w1, hq, .pass (x := .inLoop c) rfl (fun _ _ => .inl (by simp)) harr⟩
      | goto l => exact ⟨_, a1, w1, hq, .pass (x := .inLoop c) rfl (fun _ _ => .inl (by simp)) harr⟩
      | ret => exact ⟨_, a1, w1, hq, .pass (x := .inLoop c) rfl (fun _ _ => .inl (by simp)) harr⟩
      | panic ch => exact ⟨_, a1, w1, hq, .pass (x := .inLoop c) rfl (fun _ _ => .inl (by simp)) harr⟩
      | outgrown => exact ⟨_, a1, w1, hq, .pass (x := .inLoop c) rfl (fun _ _ => .inl (by simp)) harr⟩
  obtain ⟨ha', hw'⟩ := start a w ha hw
  intro b k cs hro hb hr
  obtain ⟨e, a', w', hq, harr⟩ := key _ i0 rfl h0 a w ha' hw' b k cs hro hb hr
  exact ⟨e, a', w', hq, .of_steps (.one (fenced_calm hb hr rfl) stepR_loop) harr⟩
end
end Go.GV

end
section
/- Regions that draw their order: operations that leave the world alone are taken first, the others in the one order that is left; over the small logic of GvA to GvE. -/
namespace Go.GV
open Go

def Qn (R : Act → World → Prop) : Exit → Act → World → Prop := fun e a w => e = .normal ∧ R a w
/-- Number j waits for number i. -/
def waits (ops : Array Oper) (j i : Nat) : Bool :=
  match ops[j]? with
  | some o => o.after.any fun e => Region.binds .any e && Nat.beq e.on i
  | none => false

/-- .. by way of others. -/
def waitsT (ops : Array Oper) : Nat → Nat → Nat → Bool
  | 0, j, i => waits ops j i
  | f + 1, j, i => waits ops j i || (List.range ops.size).any fun k => waits ops j k && waitsT ops f k i
/-- Whatever is listed, so is what it waits for. -/
def shut (ops : Array Oper) (listed : Array Bool) : Prop := ∀ j i, waits ops j i = true → listed.getD j false = true → listed.getD i false = true

section
variable {ρ : Option Nat} {P : Program} {ops : Array Oper} {R : Act → World → Prop} {S : World → Prop} {B : List Nat}

theorem yields_op {i : Nat} {o : Oper} {v : Value} {a : Act} (hi : ops[i]? = some o) (hy : YieldsIf P ops S o v a) {K : Act → World → Prop} {w : World} (hS : S w) (h : K (a.put o.dst v) w) : wpOp P ops i K a w := by
  unfold GV.wpOp
  simp only [hi]
  rcases hy with ⟨hw, hv⟩ | ⟨hw, rfl⟩
  · simp only [hw, if_true, opw, hv w hS, up]; exact h
  · simp only [hw, Bool.false_eq_true, if_false]; exact h
theorem wpO_putIf {j : Nat} {oi oj : Oper} {v : Value} (hj : ops[j]? = some oj) (hap : oi.apart ops oj = true) (hsi : ∀ cs b, oi.op ≠ .select cs b) (hsj : ∀ cs b, oj.op ≠ .select cs b) {K : Act → World → Prop} {a : Act} {w : World}
    (hy : YieldsIf P ops S oi v a) (h : wpOp P ops j K (a.put oi.dst v) w) : wpOp P ops j (fun a' w' => YieldsIf P ops S oi v a' ∧ K (a'.put oi.dst v) w') a w := by
  obtain ⟨h1, h2, h3⟩ := Oper.apart_spec hap
  have keep : ∀ u, YieldsIf P ops S oi v (a.put oj.dst u) := fun u => hy.of_same (execOp_put oi hsi a oj.dst u h3) (wanted_put oi a oj.dst u h3)
  unfold wpOp at *
  simp only [hj] at *
  rw [wanted_put oj a oi.dst v h1] at h
  split
  · rename_i hw
    rw [if_pos hw] at h
    unfold opw at *
    rw [execOp_put oj hsj a oi.dst v h1] at h
    generalize (execOp a.eval oj).run P w = r at *
    cases r with
    | ok n w' =>
      cases n <;> simp only [up] at h ⊢
      case value u => exact ⟨keep u, by rw [← Act.put_comm a v u h2]; exact h⟩
      case skip => exact ⟨keep _, by rw [← Act.put_comm a v undef h2]; exact h⟩
      case enter f args => exact Calls.mono h fun e w'' ⟨u, he, hk⟩ => ⟨u, he, keep u, by rw [← Act.put_comm a v u h2]; exact hk⟩
      case round l f tmps assign body => exact RoundIn.mono h fun e w'' ⟨u, he, hk⟩ => ⟨u, he, keep u, by rw [← Act.put_comm a v u h2]; exact hk⟩
    | halt x w' => exact h
  · rename_i hw
    rw [if_neg hw] at h
    exact ⟨keep _, by rw [← Act.put_comm a v undef h2]; exact h⟩

/-- Whatever order is picked; 'S' holds behind every operation but those of 'B'. -/
def anyX (P : Program) (ops : Array Oper) (R : Act → World → Prop) (S : World → Prop) (B : List Nat) : Nat → Array Bool → Act → World → Prop
  | 0, listed, a, w => Region.ready .any ops listed = [] ∧ R a w
  | f + 1, listed, a, w => (Region.ready .any ops listed = [] → R a w) ∧
    ∀ i ∈ Region.ready .any ops listed, wpOp P ops i (fun a' w' => (i ∉ B → S w') ∧ anyX P ops R S B f (listed.setIfInBounds i true) a' w') a w
theorem any_of_X : ∀ (f : Nat) (listed : Array Bool) (a : Act) (w : World), anyX P ops R S B f listed a w → wpAnyIn (fR ρ) 0 P .any ops (Qn R) f listed a w
  | 0, _, _, _, hh => ⟨hh.1, rfl, hh.2⟩
  | f + 1, _, _, _, hh => ⟨fun e => ⟨rfl, hh.1 e⟩, fun i hi => wpOp_in (wpOp_mono (fun a' w' h' => any_of_X f _ a' w' h'.2) (hh.2 i hi))⟩
theorem waits_ready {listed : Array Bool} {i j : Nat} (hw : waits ops j i = true) (hj : j ∈ Region.ready .any ops listed) : listed.getD i false = true := by
  obtain ⟨_, oj, hoj, hall⟩ := mem_ready.1 hj
  simp only [waits, hoj] at hw
  obtain ⟨e, he, hb⟩ := Array.any_eq_true'.1 hw
  simp only [Bool.and_eq_true] at hb
  have h2 := hall e he hb.1
  rwa [Nat.eq_of_beq_eq_true hb.2] at h2
theorem waitsT_listed {listed : Array Bool} (hc : shut ops listed) : ∀ (f j i : Nat), waitsT ops f j i = true → listed.getD j false = true → listed.getD i false = true
  | 0, j, i, hw, hl => hc j i hw hl
  | f + 1, j, i, hw, hl => by
    simp only [waitsT, Bool.or_eq_true, List.any_eq_true, Bool.and_eq_true] at hw
    rcases hw with hw | ⟨k, _, h1, h2⟩
    · exact hc j i hw hl
    · exact waitsT_listed hc f k i h2 (hc j k h1 hl)
theorem waitsT_ready {listed : Array Bool} (hc : shut ops listed) : ∀ (f j i : Nat), waitsT ops f j i = true → j ∈ Region.ready .any ops listed → listed.getD i false = true
  | 0, j, i, hw, hj => waits_ready hw hj
  | f + 1, j, i, hw, hj => by
    simp only [waitsT, Bool.or_eq_true, List.any_eq_true, Bool.and_eq_true] at hw
    rcases hw with hw | ⟨k, _, h1, h2⟩
    · exact waits_ready hw hj
    · exact waitsT_listed hc f k i h2 (waits_ready h1 hj)
theorem listed_not {listed : Array Bool} {i : Nat} (hl : listed.getD i false = true) (hun : listed.getD i true = false) : False := by
  rcases Nat.lt_or_ge i listed.size with h' | h'
  · simp [h'] at hun hl; rw [hun] at hl; cases hl
  · simp [Array.getElem?_eq_none h'] at hl
theorem shut.set {listed : Array Bool} {i : Nat} (hc : shut ops listed) (hi : i ∈ Region.ready .any ops listed) : shut ops (listed.setIfInBounds i true) := by
  intro j k hw hl
  by_cases hij : i = j
  · subst hij; exact getD_set_true (waits_ready hw hi)
  · rw [getD_set_ne false hij] at hl
    exact getD_set_true (hc j k hw hl)

/-- An operation that leaves the world alone may be taken first. -/
theorem anyX_first {i : Nat} {oi : Oper} {v : Value} (hi : ops[i]? = some oi) (hB : ∀ j ∈ B, waitsT ops 6 j i = true) (hiB : i ∉ B) (hs : Region.noSelect ops = true) :
    ∀ (f : Nat) (listed : Array Bool) (a : Act) (w : World), shut ops listed →
      (∀ j oj, ops[j]? = some oj → j ≠ i → listed.getD j true = false → (∀ e ∈ oj.after, Region.binds .any e = true → e.on ≠ i) → oi.apart ops oj = true) →
      i ∈ Region.ready .any ops listed → YieldsIf P ops S oi v a → S w → anyX P ops R S B f (listed.setIfInBounds i true) (a.put oi.dst v) w → anyX P ops R S B (f + 1) listed a w := by
  intro f
  induction f with
  | zero =>
    intro listed a w _ _ hr hy hS K
    refine ⟨fun e => absurd hr (by rw [e]; simp), fun j hj => ?_⟩
    by_cases hji : j = i
    · subst hji; exact yields_op hi hy hS ⟨fun _ => hS, K⟩
    · exact absurd (ready_mono hj hji) (by rw [K.1]; simp)
  | succ f ih =>
    intro listed a w hc hfree hr hy hS K
    refine ⟨fun e => absurd hr (by rw [e]; simp), fun j hj => ?_⟩
    by_cases hji : j = i
    · subst hji; exact yields_op hi hy hS ⟨fun _ => hS, K⟩
    · have h1 := K.2 j (ready_mono hj hji)
      obtain ⟨hjun, oj, hoj, hall⟩ := mem_ready.1 hj
      have hun := (mem_ready.1 hr).1
      have hjB : j ∉ B := fun hm => listed_not (waitsT_ready hc 6 j i (hB j hm) hj) hun
      have hnot : ∀ e ∈ oj.after, Region.binds .any e = true → e.on ≠ i := fun e he hb heq => by
        have h5 := hall e he hb
        rw [heq] at h5
        exact listed_not h5 hun
      have h2 := wpO_putIf hoj (hfree j oj hoj hji hjun hnot) (fun cs b => Region.noSelect_spec hs i oi cs b hi) (fun cs b => Region.noSelect_spec hs j oj cs b hoj) hy h1
      have hfree' : ∀ k ok, ops[k]? = some ok → k ≠ i → (listed.setIfInBounds j true).getD k true = false → (∀ e ∈ ok.after, Region.binds .any e = true → e.on ≠ i) → oi.apart ops ok = true := by
        intro k ok hk hki hku hno
        refine hfree k ok hk hki ?_ hno
        by_cases hjk : j = k
        · rw [← hjk]; exact hjun
        · rwa [getD_set_ne true hjk] at hku
      refine wpOp_mono (fun a' w' h3 => ⟨fun _ => h3.2.1 hjB, ih (listed.setIfInBounds j true) a' w' (hc.set hj) hfree' (ready_mono hr (Ne.symm hji)) h3.1 (h3.2.1 hjB) ?_⟩) h2
      rw [Array.setIfInBounds_comm _ _ hji]
      exact h3.2.2

/-- One that does not look at the world at all may be taken first, though 'S' be lost meanwhile. -/
theorem anyX_easy {i : Nat} {oi : Oper} {v : Value} (hi : ops[i]? = some oi) (hiB : i ∈ B) (hs : Region.noSelect ops = true) :
    ∀ (f : Nat) (listed : Array Bool) (a : Act) (w : World), shut ops listed →
      (∀ j oj, ops[j]? = some oj → j ≠ i → listed.getD j true = false → (∀ e ∈ oj.after, Region.binds .any e = true → e.on ≠ i) → oi.apart ops oj = true) →
      i ∈ Region.ready .any ops listed → YieldsIf P ops (fun _ => True) oi v a → anyX P ops R S B f (listed.setIfInBounds i true) (a.put oi.dst v) w → anyX P ops R S B (f + 1) listed a w := by
  intro f
  induction f with
  | zero =>
    intro listed a w _ _ hr hy K
    refine ⟨fun e => absurd hr (by rw [e]; simp), fun j hj => ?_⟩
    by_cases hji : j = i
    · subst hji; exact yields_op hi hy trivial ⟨fun hn => absurd hiB hn, K⟩
    · exact absurd (ready_mono hj hji) (by rw [K.1]; simp)
  | succ f ih =>
    intro listed a w hc hfree hr hy K
    refine ⟨fun e => absurd hr (by rw [e]; simp), fun j hj => ?_⟩
    by_cases hji : j = i
    · subst hji; exact yields_op hi hy trivial ⟨fun hn => absurd hiB hn, K⟩
    · have h1 := K.2 j (ready_mono hj hji)
      obtain ⟨hjun, oj, hoj, hall⟩ := mem_ready.1 hj
      have hun := (mem_ready.1 hr).1
      have hnot : ∀ e ∈ oj.after, Region.binds .any e = true → e.on ≠ i := fun e he hb heq => by
        have h5 := hall e he hb
        rw [heq] at h5
        exact listed_not h5 hun
      have h2 := wpO_putIf hoj (hfree j oj hoj hji hjun hnot) (fun cs b => Region.noSelect_spec hs i oi cs b hi) (fun cs b => Region.noSelect_spec hs j oj cs b hoj) hy h1
      have hfree' : ∀ k ok, ops[k]? = some ok → k ≠ i → (listed.setIfInBounds j true).getD k true = false → (∀ e ∈ ok.after, Region.binds .any e = true → e.on ≠ i) → oi.apart ops ok = true := by
        intro k ok hk hki hku hno
        refine hfree k ok hk hki ?_ hno
        by_cases hjk : j = k
        · rw [← hjk]; exact hjun
        · rwa [getD_set_ne true hjk] at hku
      refine wpOp_mono (fun a' w' h3 => ⟨h3.2.1, ih (listed.setIfInBounds j true) a' w' (hc.set hj) hfree' (ready_mono hr (Ne.symm hji)) h3.1 ?_⟩) h2
      rw [Array.setIfInBounds_comm _ _ hji]
      exact h3.2.2
/-- It does not look at the world. -/
def easy (ops : Array Oper) (i : Nat) : Bool :=
  match ops[i]? with
  | some o => o.guard.isNone && (match o.op with | .move _ => true | .assign _ => true | .extract _ _ => true | _ => false)
  | none => false
theorem easy_op {i : Nat} {K : Act → World → Prop} {a : Act} {w : World} (he : easy ops i = true) (hh : wpOp P ops i K a w) : ∃ o v, ops[i]? = some o ∧ YieldsIf P ops (fun _ => True) o v a ∧ K (a.put o.dst v) w := by
  unfold easy at he
  unfold wpOp at hh
  cases ho : ops[i]? with
  | none => simp [ho] at he
  | some o =>
    simp only [ho, Bool.and_eq_true] at he hh
    have hwa : Region.wanted o (yielded ops a.tmps) = true := by
      cases hg : o.guard with
      | none => simp [Region.wanted, hg]
      | some _ => rw [hg] at he; simp at he
    rw [if_pos hwa] at hh
    have key : ∀ v, (∀ w', (execOp a.eval o).run P w' = .ok (.value v) w') → ∃ o' v, some o = some o' ∧ YieldsIf P ops (fun _ => True) o' v a ∧ K (a.put o'.dst v) w := fun v hv => by
      unfold opw at hh
      rw [hv w] at hh
      exact ⟨o, v, rfl, .inl ⟨hwa, fun w' _ => hv w'⟩, hh⟩
    cases hop : o.op <;> simp only [hop] at he <;> try (first | (exact absurd he.2 (by decide)) | (exact he.2.elim) | (exact absurd he.2 Bool.false_ne_true))
    case move x => exact key (a.eval x) fun w' => by simp [execOp, hop]
    case assign x => exact key (a.eval x) fun w' => by simp [execOp, hop]
    case extract x k =>
      cases hv : a.eval x with
      | tuple vs =>
        cases hk : vs[k]? with
        | some v => exact key v fun w' => by simp [execOp, hop, Instr.extract, hv, hk]
        | none =>
          exfalso
          have : (execOp a.eval o).run P w = (stuck "Extract: no such component" : Sem Next).run P w := by simp [execOp, hop, Instr.extract, hv, hk]
          unfold opw at hh
          rw [this] at hh
          exact hh
      | _ =>
        exfalso
        have : (execOp a.eval o).run P w = (stuck "Extract: tuple expected" : Sem Next).run P w := by simp [execOp, hop, Instr.extract, hv]
        unfold opw at hh
        rw [this] at hh
        exact hh

/-- The order in which the operations are walked: 'true': taken first; 'false': the only one that may come up. -/
def planOK (ops : Array Oper) (B : List Nat) : List (Nat × Bool) → Array Bool → Bool
  | [], listed => (Region.ready .any ops listed).isEmpty
  | (i, true) :: r, listed => (Region.ready .any ops listed).contains i && Region.free .any ops listed i && B.all (fun j => waitsT ops 6 j i && !Nat.beq i j) && planOK ops B r (listed.setIfInBounds i true)
  | (i, false) :: r, listed => decide (Region.ready .any ops listed = [i]) && planOK ops B r (listed.setIfInBounds i true)
def wpPl (P : Program) (ops : Array Oper) (R : Act → World → Prop) (S : World → Prop) (B : List Nat) : List (Nat × Bool) → Act → World → Prop
  | [], a, w => R a w
  | (i, true) :: r, a, w => S w ∧ ∃ o v, ops[i]? = some o ∧ YieldsIf P ops S o v a ∧ wpPl P ops R S B r (a.put o.dst v) w
  | (i, false) :: r, a, w => wpOp P ops i (fun a' w' => (i ∉ B → S w') ∧ wpPl P ops R S B r a' w') a w
theorem getD_repl (m j : Nat) : (Array.replicate m false).getD j false = false := by
  rcases Nat.lt_or_ge j m with hh | hh <;> simp [hh]
end

/-! ### In the logic -/
inductive OKp (P : Program) (C : Ctx) (ops : Array Oper) (o : Oper) (L : En) (H : List HE) (h : PH) : List (Bool × Bool) → Value → Prop
  | plain {v : Value} (hg : o.guard = none) (hv : OP P C o L H h v) : OKp P C ops o L H h [] v
  | guarded {s : Nat} {want : Bool} {g0 : List (Bool × Bool)} {c : Bool} {v : Value} (hg : gslot ops o.guard = some (s, want)) (hs : look L s = some (g0, .bool c))
      (hv : Sat ((c, want) :: g0) → OP P C o L H h v) : OKp P C ops o L H h ((c, want) :: g0) v
section
variable {ρ : Option Nat} {P : Program} {C : Ctx} {N : Fr} {L : En} {H H0 : List HE} {h h0 : PH} {ops : Array Oper} {o : Oper} {Q : Exit → Act → World → Prop} {R : Act → World → Prop} {B : List Nat} {r : List (Nat × Bool)}

/-- 'H' is 'H0' with more in front. -/
inductive More : List HE → List HE → Prop
  | same {H : List HE} : More H H
  | one {e : HE} {H H' : List HE} (hh : More H H') : More H (e :: H')
theorem More.ex {H H' : List HE} (hm : More H H') : ∃ Hx, H' = Hx ++ H := by
  induction hm with
  | same => exact ⟨[], rfl⟩
  | one _ ih => obtain ⟨Hx, rfl⟩ := ih; exact ⟨_ :: Hx, rfl⟩
theorem SS.more {w : World} (hm : More H0 H) (hl : h0.le h) (hw : Inv C H h w) : SS C H0 h0 w := by
  obtain ⟨Hx, rfl⟩ := hm.ex
  exact ⟨Hx, h, hl, hw⟩
theorem is_on {R' : Act → World → Prop} (hx : Hd C N L H h (wpList P ops (Qn R') [])) : Hd C N L H h (wpList P ops (Qn R') []) := hx
end
end Go.GV

end
section
/- From a row's readings to the small logic: what a readable argument is, cell by cell; from a contract to the row's walk. -/
namespace Go.GV
open Go Go.RowKit Go.ChangeShapes Go.WideShapes

/-- These cells read as a value of type t. -/
def Rd {X : Type} (enc : TypeId × Value → X) (P : Program) (W : World) (t : TypeId) (cs : List Value) : Prop := ∃ fuel x, DataW.trod enc P W 0 (fun _ => true) true fuel t cs = some x
theorem Rd.of {X : Type} {enc : TypeId × Value → X} {P : Program} {W : World} {t : TypeId} {v : Value} {d : DataW X} {p : List MemPlace} (hh : DataW.Trod enc P W 0 (fun _ => true) true t v d p) : Rd enc P W t v.cells.toList := by
  obtain ⟨fuel, hf⟩ := hh
  exact ⟨fuel, _, hf⟩
section
variable {X : Type} {enc : TypeId × Value → X} {P : Program} {W : World}
theorem inR_of_wf {k : IntKind} {n : Int} (hw : (Lit.int k n).wf = true) : inR k n := by
  simp only [Lit.wf, Bool.and_eq_true, decide_eq_true_eq] at hw
  cases k <;> simp only [IntKind.min, IntKind.max, IntKind.signed, IntKind.bits] at hw <;> simp only [inR] <;> simpa using hw
theorem rd_int {t : TypeId} {k : IntKind} [TInt P t k] {cs : List Value} (hh : Rd enc P W t cs) : ∃ n, cs = [.int k n] ∧ inR k n := by
  obtain ⟨fuel, x, hf⟩ := hh
  obtain ⟨n, e, _, hw⟩ := DataW.trod_int (TInt.eq (P := P) (t := t)) hf
  exact ⟨n, e, inR_of_wf hw⟩
theorem rd_field {s : TypeId} {f off n : Nat} {ft : TypeId} {g : Bool} [TFd P s f off ft] [TI P ft n g] {cs : List Value} (hh : Rd enc P W s cs) : Rd enc P W ft ((cs.drop off).take n) := by
  obtain ⟨fuel, x, hf⟩ := hh
  have hq := TFd.eq (P := P) (s := s) (f := f)
  cases hu : P.underlying s with
  | none => simp [hu] at hq
  | some d =>
    rw [hu] at hq
    cases d with
    | struct fs =>
      simp only [Option.map_eq_some_iff, Prod.mk.injEq] at hq
      obtain ⟨fd, hfd, rfl, rfl⟩ := hq
      obtain ⟨xs, m, _, _, _, hl, hall⟩ := DataW.trod_struct hu hf
      have h1 := hall f fd hfd
      have hsz : P.cellsOf fd.type = n := by
        have := TI.sz (P := P) (t := fd.type) (size := n)
        simp [Program.cellsOf, this]
      rw [hsz] at h1
      have hlt : f < xs.length := by rw [hl]; exact (Array.getElem?_eq_some_iff.1 hfd).1
      rw [List.getElem?_eq_getElem hlt] at h1
      exact ⟨m, _, h1⟩
    | _ => simp at hq
theorem rd_len {s : TypeId} {n : Nat} [TStruct P s] [TI P s n true] {cs : List Value} (hh : Rd enc P W s cs) : cs.length = n := by
  obtain ⟨fuel, x, hf⟩ := hh
  have hst := TStruct.eq (P := P) (s := s)
  cases hu : P.underlying s with
  | none => simp [hu] at hst
  | some d =>
    rw [hu] at hst
    cases d with
    | struct fs =>
      obtain ⟨xs, m, _, _, hc, _⟩ := DataW.trod_struct hu hf
      have := TI.sz (P := P) (t := s) (size := n)
      rw [hc]; simp [Program.cellsOf, this]
    | _ => simp at hst
/-- A struct by value. -/
theorem ok_struct {s : TypeId} [TStruct P s] {r : Reach} {b : Nat} {v : Value} (hv : Value.okWide P W r b s v) : ∃ cs : List Value, v = .agg cs.toArray := by
  have hst := TStruct.eq (P := P) (s := s)
  cases hu : P.underlying s with
  | none => simp [hu] at hst
  | some d =>
    rw [hu] at hst
    cases d with
    | struct fs =>
      obtain ⟨cs, e, _⟩ := okWide_struct hu hv
      exact ⟨cs.toList, by simpa using e⟩
    | _ => simp at hst
/-- All arguments read as they did. -/
theorem trodAll_below (hl : laidOutB P = true) {W' : World} (hb : Below W.heap.size W W') : ∀ {ts : List TypeId} {vs : List Value} {ds : List (DataW X)} {ps : List MemPlace}, (ts.all fun t => P.readableRec t && decide (t < P.types.size)) = true →
    DataW.TrodAll enc P W 0 (fun _ => true) true ts vs ds ps → DataW.TrodAll enc P W' 0 (fun b => decide (b < W.heap.size)) true ts vs ds ps
  | [], vs, ds, ps, _, hh => by
    obtain ⟨rfl, rfl, rfl⟩ := trodAll_nil hh
    exact trodAll_mk0
  | t :: ts, vs, ds, ps, ht, hh => by
    simp only [List.all_cons, Bool.and_eq_true, decide_eq_true_eq] at ht
    obtain ⟨v, vs', d, ds', p, q, rfl, rfl, rfl, h1, h2⟩ := trodAll_cons hh
    have hlt : ∀ x ∈ p, x.block < W.heap.size := by obtain ⟨m, hm⟩ := h1; exact DataW.trod_lt m _ _ _ hm
    exact trodAll_cons_mk (Below.trod hl ht.1.1 ht.1.2 h1 hb hlt) (trodAll_below hl hb ht.2 h2)

def whole (W : World) : PH := fun b => W.heap[b]?
theorem Spec.calls {f : FuncId} {args : Array Value} {Post : Value → PH → Prop} (hs : Spec P f args (whole W) Post) : Calls P f args W fun e W' => ∃ v, e = .returned v ∧ (∃ h', Post v h') ∧ Below W.heap.size W W' := by
  refine (hs W [] rfl ⟨by simp, by simp, fun b o e => e, by simp⟩).mono ?_
  rintro e W' ⟨v, h', Ho, rfl, ⟨hp, _⟩, l, _, _, hc⟩
  exact ⟨v, rfl, ⟨h', hp⟩, ⟨hc.os, hc.tape, hc.output, hc.size, fun k hk => hc.old k hk (by simp)⟩⟩
theorem Det.calls {f : FuncId} {args : Array Value} {v : Value} (hs : Det P f args (whole W) v) : Calls P f args W fun e W' => e = .returned v ∧ Below W.heap.size W W' := by
  refine (Spec.calls hs).mono ?_
  rintro e W' ⟨v', rfl, ⟨_, rfl⟩, hb⟩
  exact ⟨rfl, hb⟩
end
end Go.GV

end
section
/- Slices in shared memory, over the small logic of GvA to GvG. -/
namespace Go.GV
open Go

/-- The cells 'cs' lie in shared memory from (b, off) on. -/
def Pub (h : PH) (b off : Nat) (cs : List Value) : Prop := ∃ arr t fr, h b = some (.cells arr t fr) ∧ ∀ j v, cs[j]? = some v → arr[off + j]? = some v
theorem Pub.mono {h h' : PH} {b off : Nat} {cs : List Value} (hp : Pub h b off cs) (hl : h.le h') : Pub h' b off cs := by
  obtain ⟨arr, t, fr, e, hc⟩ := hp
  exact ⟨arr, t, fr, hl b _ e, hc⟩
theorem Pub.drop {h : PH} {b off : Nat} {cs : List Value} (hp : Pub h b off cs) (k : Nat) : Pub h b (off + k) (cs.drop k) := by
  obtain ⟨arr, t, fr, e, hc⟩ := hp
  refine ⟨arr, t, fr, e, fun j v hv => ?_⟩
  rw [List.getElem?_drop] at hv
  rw [Nat.add_assoc]
  exact hc _ v hv
theorem Pub.take {h : PH} {b off : Nat} {cs : List Value} (hp : Pub h b off cs) (k : Nat) : Pub h b off (cs.take k) := by
  obtain ⟨arr, t, fr, e, hc⟩ := hp
  refine ⟨arr, t, fr, e, fun j v hv => ?_⟩
  rw [List.getElem?_take] at hv
  split at hv
  · exact hc _ v hv
  · cases hv
theorem Pub.cell {C : Ctx} {H : List HE} {h : PH} {w : World} {b off : Nat} {cs : List Value} (hp : Pub h b off cs) (hw : SS C H h w) {j : Nat} {v : Value} (hv : cs[j]? = some v) : w.cell? ((⟨b, off, none⟩ : Addr).add j) = some v := by
  obtain ⟨arr, t, fr, e, hc⟩ := hp
  obtain ⟨Hx, h', hl, l, _, hs, _⟩ := hw
  have hb := hs.pub b _ (hl b _ e)
  have := hc j v hv
  unfold Addr.add
  split
  · rename_i e0; subst e0; simpa [World.cell?, hb] using this
  · simpa [World.cell?, hb] using this
theorem run_loadAt_cells {P : Program} {t : TypeId} {n : Nat} {g : Bool} [TI P t n g] {w : World} {b off : Nat} {vs : List Value} (hcell : ∀ j v, vs[j]? = some v → w.cell? ((⟨b, off, none⟩ : Addr).add j) = some v) (hn : vs.length = n) (hg : g = true ∨ n = 1) :
    (Instr.loadAt t (.pointer (some ⟨b, off, none⟩))).run P w = .ok (if g then .agg vs.toArray else vs.getD 0 undef) w := by
  have hsz := run_sz (TI.sz (P := P) (t := t)) w
  have hag := run_agg (TI.ag (P := P) (t := t)) w
  simp only [Instr.loadAt, Instr.sureAddr, loadVar, Sem.run_bind, Sem.run_pure, Result.andThen_ok, hag]
  cases g with
  | true =>
    simp only [if_true, Sem.run_bind, hsz, Result.andThen_ok]
    have := run_loadCells_list (P := P) (w := w) ⟨b, off, none⟩ vs hcell
    rw [hn] at this
    simp [this]
  | false =>
    have h1 : n = 1 := by simpa using hg
    subst h1
    match vs, hn with
    | [v], _ =>
      have := hcell 0 v rfl
      have e0 : (⟨b, off, none⟩ : Addr).add 0 = ⟨b, off, none⟩ := rfl
      rw [e0] at this
      simp [load, Sem.run, this]

/-- A slice in shared memory: its elements' cells. -/
structure Sl (h : PH) (sz : Nat) (p : Option Addr) (n c : Nat) (xs : List (List Value)) : Prop where
  len : xs.length = n
  cap : n ≤ c
  top : n ≤ 9223372036854775807
  each : ∀ x ∈ xs, x.length = sz
  cells : xs ≠ [] → ∃ b off, p = some ⟨b, off, none⟩ ∧ Pub h b off xs.flatten
def pb : Option Addr → Nat
  | some a => a.block
  | none => 0
def po : Option Addr → Nat
  | some a => a.off
  | none => 0
theorem Sl.mono {h h' : PH} {sz : Nat} {p : Option Addr} {n c : Nat} {xs : List (List Value)} (hs : Sl h sz p n c xs) (hl : h.le h') : Sl h' sz p n c xs :=
  ⟨hs.len, hs.cap, hs.top, hs.each, fun hne => let ⟨b, off, e, hp⟩ := hs.cells hne; ⟨b, off, e, hp.mono hl⟩⟩
theorem Sl.nil (h : PH) (sz : Nat) : Sl h sz none 0 0 [] := ⟨rfl, Nat.le_refl _, by omega, by simp, fun e => absurd rfl e⟩
theorem Sl.ptr {h : PH} {sz : Nat} {p : Option Addr} {n c : Nat} {xs : List (List Value)} (hs : Sl h sz p n c xs) (hn : 0 < n) : p = some ⟨pb p, po p, none⟩ := by
  obtain ⟨b, off, e, _⟩ := hs.cells (by rintro rfl; have := hs.len; simp at this; omega)
  subst e; rfl
theorem flatten_at {sz : Nat} : ∀ {xs : List (List Value)} (_ : ∀ x ∈ xs, x.length = sz) {i : Nat} {x : List Value}, xs[i]? = some x → (xs.flatten.drop (i * sz)).take sz = x
  | [], _, i, x, hx => by simp at hx
  | y :: ys, he, 0, x, hx => by
    have hy := he y (by simp)
    simp at hx
    subst hx
    simp [← hy]
  | y :: ys, he, i + 1, x, hx => by
    have hy := he y (by simp)
    have ih := flatten_at (sz := sz) (xs := ys) (fun z hz => he z (by simp [hz])) (i := i) (x := x) (by simpa using hx)
    rw [List.flatten_cons, show (i + 1) * sz = y.length + i * sz by rw [hy, Nat.add_mul]; omega, ← List.drop_drop, List.drop_left]
    exact ih
theorem Sl.at {h : PH} {sz : Nat} {p : Option Addr} {n c : Nat} {xs : List (List Value)} (hs : Sl h sz p n c xs) {i : Nat} {x : List Value} (hx : xs[i]? = some x) : Pub h (pb p) (po p + i * sz) x := by
  obtain ⟨b, off, e, hp⟩ := hs.cells (by rintro rfl; simp at hx)
  subst e
  have := (hp.drop (i * sz)).take sz
  rw [flatten_at hs.each hx] at this
  exact this
/-- A part of a slice. -/
def subp (p : Option Addr) (c lo sz : Nat) : Option Addr := if c = lo then p else p.map (·.add (lo * sz))
theorem flatten_take {sz : Nat} : ∀ {xs : List (List Value)} (_ : ∀ x ∈ xs, x.length = sz) (k : Nat), (xs.take k).flatten = xs.flatten.take (k * sz)
  | [], _, k => by simp
  | y :: ys, he, 0 => by simp
  | y :: ys, he, k + 1 => by
    have hy := he y (by simp)
    have ih := flatten_take (sz := sz) (xs := ys) (fun z hz => he z (by simp [hz])) k
    rw [List.take_succ_cons, List.flatten_cons, List.flatten_cons, ih, List.take_append, hy, show (k + 1) * sz - sz = k * sz by rw [Nat.add_mul]; omega]
    rw [List.take_of_length_le (i := (k + 1) * sz) (l := y) (by rw [hy, Nat.add_mul]; omega)]
theorem flatten_drop {sz : Nat} : ∀ {xs : List (List Value)} (_ : ∀ x ∈ xs, x.length = sz) (k : Nat), (xs.drop k).flatten = xs.flatten.drop (k * sz)
  | [], _, k => by simp
  | y :: ys, he, 0 => by simp
  | y :: ys, he, k + 1 => by
    have hy := he y (by simp)
    have ih := flatten_drop (sz := sz) (xs := ys) (fun z hz => he z (by simp [hz])) k
    rw [List.drop_succ_cons, List.flatten_cons, ih, show (k + 1) * sz = y.length + k * sz by rw [hy, Nat.add_mul]; omega, ← List.drop_drop, List.drop_left]
theorem Sl.sub {h : PH} {sz : Nat} {p : Option Addr} {n c : Nat} {xs : List (List Value)} (hs : Sl h sz p n c xs) {lo hi : Nat} (h1 : lo ≤ hi) (h2 : hi ≤ n) : Sl h sz (subp p c lo sz) (hi - lo) (c - lo) ((xs.take hi).drop lo) := by
  have hcap := hs.cap
  have htop := hs.top
  have hlen := hs.len
  refine ⟨by simp; omega, by omega, by omega, fun x hx => hs.each x (List.mem_of_mem_take (List.mem_of_mem_drop hx)), fun hne => ?_⟩
  have hlt : lo < hi := by
    rcases Nat.lt_or_ge lo hi with h' | h'
    · exact h'
    · exact absurd (by rw [List.drop_eq_nil_iff]; simp; omega) hne
  have hne' : xs ≠ [] := by rintro rfl; simp at hne
  obtain ⟨b, off, e, hp⟩ := hs.cells hne'
  subst e
  refine ⟨b, off + lo * sz, ?_, ?_⟩
  · unfold subp
    rw [if_neg (by omega)]
    simp only [Option.map_some, Option.some.injEq]
    unfold Addr.add
    split
    · rename_i e0; rw [e0]; rfl
    · rfl
  · rw [flatten_drop (fun x hx => hs.each x (List.mem_of_mem_take hx)), flatten_take hs.each]
    exact (hp.take (hi * sz)).drop (lo * sz)

section
variable {ρ : Option Nat} {P : Program} {C : Ctx} {N : Fr} {L : En} {H : List HE} {h : PH} {dst : Option Tmp} {ty : TypeId} {pos : String} {after : Array Edge} {gd : Option (Nat × Bool)}

theorem od_load_aggp {t : TypeId} {n : Nat} {x : Operand} {b off : Nat} {cs vs : List Value} [TI P t n true] (hx : Ev L x (.pointer (some ⟨b, off, none⟩))) (hp : Pub h b off cs) (hv : Nf (cs.take n) vs) (hn : vs.length = n) :
    OP P C ⟨dst, .load t x, ty, pos, after, gd⟩ L H h (.agg vs.toArray) :=
  od_pure fun ρ w hρ hw => by
    have e1 := hρ x (by simp [Op.operands]) _ hx
    have := run_loadAt_cells (P := P) (t := t) (b := b) (off := off) (w := w) (vs := vs) (fun j v hj => by
      refine (hp.take n).cell hw ?_
      rw [hv.eq]; exact hj) hn (.inl rfl)
    simp [execOp, e1, this]
theorem od_load_onep {t : TypeId} {x : Operand} {b o k off : Nat} {cs : List Value} {v : Value} [TI P t 1 false] (hx : Ev L x (.pointer (some ⟨b, off, none⟩))) (hp : Pub h b o cs) (ho : o + k = off) (hv : cs[k]? = some v) :
    OP P C ⟨dst, .load t x, ty, pos, after, gd⟩ L H h v :=
  od_pure fun ρ w hρ hw => by
    have e1 := hρ x (by simp [Op.operands]) _ hx
    subst ho
    have := run_loadAt_cells (P := P) (t := t) (b := b) (off := o + k) (w := w) (vs := [v]) (fun j u hj => by
      match j, hj with
      | 0, hj =>
        simp at hj
        subst hj
        refine (hp.drop k).cell hw (j := 0) ?_
        rw [List.getElem?_drop]; simpa using hv
      | j + 1, hj => simp at hj) rfl (.inr rfl)
    simp [execOp, e1, this]
theorem addr_add (b off k : Nat) : (⟨b, off, none⟩ : Addr).add k = ⟨b, off + k, none⟩ := by unfold Addr.add; split <;> simp_all
theorem od_index {t e : TypeId} {sz : Nat} {g : Bool} [TSl P t e] [TI P e sz g] {x y : Operand} {k : IntKind} {p : Option Addr} {n c i : Nat} {m : Int} (hx : Ev L x (.slice p n c)) (hy : Ev L y (.int k m)) (hm : m = (i : Int)) (hi : i < n) (hp : p = some ⟨pb p, po p, none⟩) :
    OP P C ⟨dst, .indexAddr t x y, ty, pos, after, gd⟩ L H h (.pointer (some ⟨pb p, po p + i * sz, none⟩)) :=
  od_pure fun ρ w hρ hw => by
    have e1 := hρ x (by simp [Op.operands]) _ hx
    have e2 := hρ y (by simp [Op.operands]) _ hy
    have hu := TSl.eq (P := P) (t := t)
    have hsz := run_sz (TI.sz (P := P) (t := e)) w
    subst hm
    rw [hp] at e1
    have hc1 : (0 : Int) ≤ (i : Int) ∧ (i : Int) < (n : Int) := by omega
    simp only [execOp, e1, e2, Instr.indexAt, asIntOf, Sem.run_bind, Sem.run_pure, Result.andThen_ok, run_underlying hu]
    rw [if_pos hc1]
    simp only [Sem.run_bind, hsz, Result.andThen_ok, Sem.run_pure, Int.toNat_natCast, addr_add]
/-- The bounds of a part. -/
inductive Bd (L : En) : Option Operand → Nat → Nat → Prop
  | none {d : Nat} : Bd L none d d
  | some {x : Operand} {k : IntKind} {m : Int} {d i : Nat} (hx : Ev L x (.int k m)) (hm : m = (i : Int)) : Bd L (some x) d i
theorem Bd.run {x : Option Operand} {d i y : Nat} (hb : Bd L x d i) {ρ : Operand → Value} (hρ : ∀ z ∈ x.toList, ∀ u, Ev L z u → ρ z = u) (hi : i ≤ y) (cd : BoundsCode) (w : World) :
    (match x.map ρ with | Option.some v => Instr.sliceBound v y cd | Option.none => pure d : Sem Nat).run P w = .ok i w := by
  cases hb with
  | none => simp
  | some hx hm =>
    rename_i z k m
    have e := hρ z (by simp) _ hx
    subst hm
    have hc : (0 : Int) ≤ (i : Int) ∧ (i : Int) ≤ (y : Int) := by omega
    simp only [Option.map_some, e, Instr.sliceBound, asIntOf, Sem.run_bind, Sem.run_pure, Result.andThen_ok]
    rw [if_pos hc]
    simp
theorem od_slice {t e : TypeId} {sz : Nat} {g : Bool} [TSl P t e] [TI P e sz g] {x : Operand} {lo hi : Option Operand} {p : Option Addr} {n c l r : Nat} (hx : Ev L x (.slice p n c)) (hlo : Bd L lo 0 l) (hhi : Bd L hi n r) (h1 : l ≤ r) (h2 : r ≤ c) :
    OP P C ⟨dst, .slice t x lo hi none, ty, pos, after, gd⟩ L H h (.slice (subp p c l sz) (r - l) (c - l)) :=
  od_pure fun ρ w hρ hw => by
    have e1 := hρ x (by simp [Op.operands]) _ hx
    have hu := TSl.eq (P := P) (t := t)
    have hsz := run_sz (TI.sz (P := P) (t := e)) w
    have b1 : ∀ z ∈ lo.toList, ∀ u, Ev L z u → ρ z = u := fun z hz u hu => hρ z (by simp only [Op.operands]; cases lo <;> simp_all) u hu
    have b2 : ∀ z ∈ hi.toList, ∀ u, Ev L z u → ρ z = u := fun z hz u hu => hρ z (by simp only [Op.operands]; cases hi <;> simp_all) u hu
    have rlo := hlo.run (P := P) b1 h1 .sliceB w
    have rhi := hhi.run (P := P) b2 h2 .sliceAcap w
    have hb : (Instr.sliceBounds true n c (lo.map ρ) (hi.map ρ) none).run P w = .ok (l, r, c) w := by
      unfold Instr.sliceBounds
      cases hi with
      | none =>
        cases hhi
        cases lo with
        | none => cases hlo; simp
        | some z => simp only [Option.map_some] at rlo; simp [rlo]
      | some y =>
        simp only [Option.map_some] at rhi
        cases lo with
        | none => cases hlo; simp [rhi]
        | some z =>
          simp only [Option.map_some] at rlo
          simp [rhi, rlo]
    simp only [execOp, e1, Instr.sliceAt, Option.map_none]
    simp only [Instr.slice, Sem.run_bind, run_underlying hu, Result.andThen_ok, hb, hsz, Sem.run_pure, subp]
end
end Go.GV

end
section
/- Calls that are handed private blocks (closures with captured variables, methods on local variables), over the small logic of GvA to GvH. -/
namespace Go.GV
open Go

theorem Pick.back {H H' : List HE} {e : HE} (hp : Pick H e H') : ∀ {l : List Blk}, Ents (e :: H') l → ∃ l', Ents H l' ∧ l.Perm l' := by
  induction hp with
  | here => exact fun he => ⟨_, he, .refl _⟩
  | there hh ih =>
    rintro l ⟨m1, m2, rfl, he1, l1, m3, rfl, hx, he2⟩
    obtain ⟨l', he', hpm⟩ := ih ⟨m1, m3, rfl, he1, he2⟩
    refine ⟨l1 ++ l', ⟨l1, l', rfl, hx, he'⟩, ?_⟩
    refine List.Perm.trans ?_ (List.Perm.append_left l1 hpm)
    rw [← List.append_assoc, ← List.append_assoc]
    exact List.Perm.append_right m3 List.perm_append_comm
/-- 'H' is 'Hi' and 'Hf', in some order. -/
inductive Split : List HE → List HE → List HE → Prop
  | nil {H : List HE} : Split H [] H
  | cons {H H1 Hi Hf : List HE} {e : HE} (hp : Pick H e H1) (hs : Split H1 Hi Hf) : Split H (e :: Hi) Hf
theorem Split.ents {H Hi Hf : List HE} (hs : Split H Hi Hf) : ∀ {l : List Blk}, Ents H l → ∃ l', Ents (Hi ++ Hf) l' ∧ l.Perm l' := by
  induction hs with
  | nil => exact fun he => ⟨_, he, .refl _⟩
  | cons hp _ ih =>
    intro l he
    obtain ⟨l1, ⟨m1, m2, rfl, h1, h2⟩, hpm⟩ := hp.ents he
    obtain ⟨l2, h3, hpm2⟩ := ih h2
    exact ⟨m1 ++ l2, ⟨m1, l2, rfl, h1, h3⟩, hpm.trans (List.Perm.append_left m1 hpm2)⟩
theorem Split.back {H Hi Hf : List HE} (hs : Split H Hi Hf) : ∀ {l : List Blk}, Ents (Hi ++ Hf) l → ∃ l', Ents H l' ∧ l.Perm l' := by
  induction hs with
  | nil => exact fun he => ⟨_, he, .refl _⟩
  | cons hp _ ih =>
    rintro l ⟨m1, m2, rfl, h1, h2⟩
    obtain ⟨l2, h3, hpm2⟩ := ih h2
    obtain ⟨l3, h4, hpm3⟩ := hp.back (l := m1 ++ l2) ⟨m1, l2, rfl, h1, h3⟩
    exact ⟨l3, h4, (List.Perm.append_left m1 hpm2).trans hpm3⟩
theorem Inv.split {C : Ctx} {H Hi Hf : List HE} {h : PH} {w : World} (hs : Split H Hi Hf) (hw : Inv C H h w) : Inv C (Hi ++ Hf) h w := by
  obtain ⟨l, he, h1, h2⟩ := hw
  obtain ⟨l', he', hp⟩ := hs.ents he
  exact ⟨l', he', h1.perm hp, h2.perm hp⟩
theorem Inv.join {C : Ctx} {H Hi Hf : List HE} {h : PH} {w : World} (hs : Split H Hi Hf) (hw : Inv C (Hi ++ Hf) h w) : Inv C H h w := by
  obtain ⟨l, he, h1, h2⟩ := hw
  obtain ⟨l', he', hp⟩ := hs.back he
  exact ⟨l', he', h1.perm hp, h2.perm hp⟩

/-- A call that reads private blocks and yields one value. -/
def DetB (P : Program) (f : FuncId) (args : Array Value) (h : PH) (Hi : List HE) (v : Value) : Prop := SpecM P f args h Hi fun v' _ Ho => v' = v ∧ Ho = Hi

section
variable {ρ : Option Nat} {P : Program} {C : Ctx} {N : Fr} {L : En} {H : List HE} {h : PH} {dst : Option Tmp} {ty : TypeId} {pos : String} {after : Array Edge} {gd : Option (Nat × Bool)}
variable {ops : Array Oper} {o : Oper} {rest : List Oper} {Q : Exit → Act → World → Prop}

theorem od_callB {x : Operand} {xs : List Operand} {at_ : Array TypeId} {f : FuncId} {cs vs as : List Value} {v : Value} {Hi Hf : List HE} (hx : Ev L x (.func (.func f) #[] cs.toArray)) (hf : TFn P f) (hxs : Evs L xs vs) (has : Nf (vs ++ cs) as)
    (hd : DetB P f as.toArray h Hi v) (hsp : Split H Hi Hf) : OD P C ⟨dst, .call ⟨.value x, xs.toArray, at_⟩, ty, pos, after, gd⟩ L H h v := by
  refine ⟨fun a ha w hw => ?_⟩
  have e1 := ha x (by simp [Op.operands, Call.operands]) _ hx
  have e2 := hxs.map (ρ := a.eval) (fun y hy => ha y (by simp [Op.operands, Call.operands, hy]))
  have := run_call (P := P) (dst := dst) (ty := ty) (pos := pos) (after := after) (gd := gd) (at_ := at_) (fs := []) e1 e2 w
  unfold Oper.quietAt
  rw [this]
  refine ⟨rfl, ?_⟩
  simp only [List.nil_append]
  rw [has.eq]
  have hle := hw.le0
  obtain ⟨l, he, hs, hc⟩ := hw.split hsp
  obtain ⟨li, lf, rfl, hei, hef⟩ := ents_append.1 he
  have hsi : Sep w h li := by
    have hnd := hs.nodup
    rw [List.map_append, List.nodup_append] at hnd
    exact ⟨hnd.1, fun b o hm => hs.mem b o (List.mem_append_left _ hm), hs.pub, fun b o hm => hs.sep b o (List.mem_append_left _ hm)⟩
  refine (hd w li hei hsi).mono ?_
  rintro e w' ⟨v', h', Ho, rfl, ⟨rfl, rfl⟩, hi⟩
  refine ⟨rfl, ?_⟩
  have hn := Inv.call hei hef hs hc hi
  exact (hn.less (Inv.le0 hi) hle).join hsp
theorem Inv.fewer {w : World} {H0 : List HE} (hm : More H0 H) (hw : Inv C H h w) : Inv C H0 h w := by
  induction hm with
  | same => exact hw
  | one _ ih => exact ih hw.drop1
theorem hd_resB {fn : Func} {n : Nat} {Post : Value → PH → List HE → Prop} {rs : List ResultVar} {vs : List Value} {e : Exit} {H0 : List HE} (he : e = .ret ∨ e = .normal) (hr : fn.results = rs.toArray) (hv : Res P L H rs vs) (hm : More H0 H)
    (hp : Post (ofVs vs) h H0) : Hd C ⟨n, []⟩ L H h (bodyPost P fn (PostR C Post) e) :=
  hd_res he hr hv fun _ hw => ⟨h, H0, hp, hw.fewer hm⟩
end
end Go.GV

end
section
/- Slices of the call's own: make, append, copy, literals; and how they are handed out; over the small logic of GvA to GvI. -/
namespace Go.GV
open Go

class TEl (P : Program) (t : TypeId) (e : outParam TypeId) (sz bt : outParam Nat) : Prop where
  sl : P.underlying t = some (.slice e)
  sz : (P.info? e).map (·.size) = some sz
  bt : (P.info? e).map (·.bytes) = some bt

/-- A row of the call's own: 'n' elements, the cells 'xs', room for 'c'. -/
def row (p : Option Addr) (n c : Nat) (e : TypeId) (sz : Nat) (xs : List Value) : HE := fun l =>
  xs.length = n * sz ∧ n ≤ c ∧ ((p = none ∧ n = 0 ∧ c = 0 ∧ l = []) ∨ ∃ b sp, p = some ⟨b, 0, none⟩ ∧ (xs ++ sp).length = c * sz ∧ l = [(b, .cells (xs ++ sp).toArray e (0, 0))])

/-- Where the cells of a source lie. -/
def SrcW (w : World) (q : Option Addr) (m sz : Nat) (ys : List Value) : Prop :=
  ys.length = m * sz ∧ (q = none → ys = []) ∧ ∀ a, q = some a → ∀ j v, ys[j]? = some v → w.cell? (a.add j) = some v
theorem run_first {P : Program} {w : World} {q : Option Addr} {m d sz : Nat} {ys : List Value} (hs : SrcW w q m sz ys) : (Builtin.firstCells sz m (.slice q m d)).run P w = .ok ys.toArray w := by
  obtain ⟨hl, hn, hc⟩ := hs
  cases q with
  | none => rw [hn rfl]; simp [Builtin.firstCells]
  | some a =>
    have := run_loadCells_list (P := P) (w := w) a ys (hc a rfl)
    rw [hl] at this
    simp [Builtin.firstCells, this]
theorem next_le (need c : Nat) (hn : c < need) : Builtin.nextslicecap need c ≤ 2 * need := by
  unfold Builtin.nextslicecap
  split
  · omega
  · split
    · omega
    · unfold Builtin.growBy
      split
      · omega
      · unfold Builtin.growBy
        split
        · omega
        · unfold Builtin.growBy
          split
          · omega
          · unfold Builtin.growBy
            split
            · omega
            · unfold Builtin.growBy; omega

section
variable {ρ : Option Nat} {P : Program}
theorem run_append_room {t t' e ty : TypeId} {sz bt : Nat} [TEl P t e sz bt] (ht' : ∃ e', P.underlying t' = some (.slice e')) {w : World} {p q : Option Addr} {n c m d : Nat} {ys : List Value} (hs : SrcW w q m sz ys) (hroom : n + m ≤ c) :
    (Builtin.append_ #[t, t'] ty #[.slice p n c, .slice q m d]).run P w = (match p with | some a => (storeCells (a.add (n * sz)) ys).run P w | none => .ok () w).andThen fun _ w' => .ok (.slice p (n + m) c) w' := by
  obtain ⟨e', ht'⟩ := ht'
  have hu := TEl.sl (P := P) (t := t)
  have hsz := run_sz (TEl.sz (P := P) (t := t)) w
  have hf := run_first (P := P) (d := d) hs
  unfold Builtin.append_
  simp only [List.getElem?_toArray, List.getElem?_cons_zero, List.getElem?_cons_succ]
  simp [run_underlying hu, run_underlying ht', hsz, Builtin.lenOf, hroom, hf]
  cases p <;> simp
theorem run_append_grow {t t' e ty : TypeId} {sz bt : Nat} {z : List Value} [TEl P t e sz bt] [TZero P e z] (ht' : ∃ e', P.underlying t' = some (.slice e')) {w : World} {p q : Option Addr} {n c m d : Nat} {xs ys : List Value} (ho : SrcW w p n sz xs) (hs : SrcW w q m sz ys) (hroom : c < n + m) (hb : (n + m) * bt ≤ 140737488355328) (hm : n + m ≤ 9223372036854775807)
    (hz : z.length = sz) : ∃ (cap : Nat) (sp : List Value), n + m ≤ cap ∧ sp.length = (cap - (n + m)) * sz ∧
      (Builtin.append_ #[t, t'] ty #[.slice p n c, .slice q m d]).run P w = .ok (.slice (some ⟨w.heap.size, 0, none⟩) (n + m) cap) ({ w with drawn := w.drawn + 1 }.alloc (.cells (xs ++ ys ++ sp).toArray e (0, 0))) := by
  obtain ⟨e', ht'⟩ := ht'
  have hu := TEl.sl (P := P) (t := t)
  have hszE := TEl.sz (P := P) (t := t)
  have hbtE := TEl.bt (P := P) (t := t)
  cases hi : P.info? e with
  | none => simp [hi] at hszE
  | some i =>
    simp [hi] at hszE hbtE
    obtain ⟨zv, hzr, hzc⟩ := run_zero (P := P) (t := e) w
    have hzz : i.zero = some zv := by
      simp only [zeroValue, typeInfo, Sem.run_bind, run_program, Result.andThen_ok, hi, Sem.run_pure] at hzr
      cases hq : i.zero with
      | none => rw [hq] at hzr; simp [unsupported] at hzr
      | some v => rw [hq] at hzr; simp at hzr; rw [hzr]
    let w1 : World := { w with drawn := w.drawn + 1 }
    have c1 : ∀ a, w1.cell? a = w.cell? a := fun a => rfl
    have fo := run_first (P := P) (w := w1) (d := c) (q := p) (m := n) (sz := sz) (ys := xs) ⟨ho.1, ho.2.1, fun a ha j v hv => by rw [c1]; exact ho.2.2 a ha j v hv⟩
    have fs := run_first (P := P) (w := w1) (d := d) (q := q) (m := m) (sz := sz) (ys := ys) ⟨hs.1, hs.2.1, fun a ha j v hv => by rw [c1]; exact hs.2.2 a ha j v hv⟩
    have hnx := next_le (n + m) c hroom
    have hcap : ¬ (Builtin.nextslicecap (n + m) c * bt > 2 ^ 48) := by
      have : Builtin.nextslicecap (n + m) c * bt ≤ 2 * (n + m) * bt := Nat.mul_le_mul_right _ hnx
      have h2 : 2 * (n + m) * bt = 2 * ((n + m) * bt) := by rw [Nat.mul_assoc]
      omega
    let cap := (n + m) + w.tape w.drawn (.appendCap (n + m) c e) % (2 ^ 63 - (n + m))
    refine ⟨cap, (Builtin.zeroCells zv.cells (cap - (n + m))).toList, by omega, ?_, ?_⟩
    · simp [Builtin.zeroCells, hzc, hz]
    · have hint : ¬ (((n + m : Nat) : Int) > IntKind.i64.max) := by simp [IntKind.max, IntKind.signed, IntKind.bits]; omega
      unfold Builtin.append_
      simp only [List.getElem?_toArray, List.getElem?_cons_zero, List.getElem?_cons_succ]
      simp only [Sem.run_bind, run_underlying hu, run_underlying ht', Result.andThen_ok, sizeOf, typeInfo, run_program, hi, Sem.run_pure, Builtin.lenOf, hszE, Bool.false_eq_true, if_false, Nat.not_le.2 hroom, hint, false_and, hbtE, hcap]
      have hch : (choose (.appendCap (n + m) c e)).run P w = .ok cap w1 := by simp [choose, Sem.run, Question.forced, Question.cut, cap, w1]
      have har : (askRoom (cap * bt)).run P w1 = .ok () w1 := by
        unfold askRoom
        split
        · simp [mark, Sem.run]
        · simp
      have hz1 : (zeroValue e).run P w1 = .ok zv w1 := by simp [zeroValue, typeInfo, hi, hzz]
      rw [hch]
      simp only [Result.andThen_ok, har, fo, Bool.not_false, if_true, fs, hz1, newRow, newObj, Sem.run_bind, Sem.run_pure, Sem.run]
      have harr : (xs.toArray ++ ys.toArray ++ Builtin.zeroCells zv.cells (cap - (n + m))) = (xs ++ ys ++ (Builtin.zeroCells zv.cells (cap - (n + m))).toList).toArray := by
        apply Array.ext'
        simp
      rw [harr]
      rfl
end

/-- An entry of the list. -/
inductive HMem : List HE → HE → Prop
  | here {e : HE} {H : List HE} : HMem (e :: H) e
  | there {x e : HE} {H : List HE} (hh : HMem H e) : HMem (x :: H) e
theorem HMem.ents {H : List HE} {e : HE} (hm : HMem H e) : ∀ {l : List Blk}, Ents H l → ∃ l1, e l1 ∧ ∀ x ∈ l1, x ∈ l := by
  induction hm with
  | here => rintro l ⟨l1, l2, rfl, he, _⟩; exact ⟨l1, he, fun x hx => List.mem_append_left _ hx⟩
  | there _ ih =>
    rintro l ⟨l1, l2, rfl, _, he⟩
    obtain ⟨l3, h1, h2⟩ := ih he
    exact ⟨l3, h1, fun x hx => List.mem_append_right _ (h2 x hx)⟩
theorem HMem.more {H : List HE} {e : HE} (hm : HMem H e) : ∀ Hx : List HE, HMem (Hx ++ H) e
  | [] => hm
  | _ :: Hx => .there (hm.more Hx)
/-- Where the cells of a source lie: in shared memory, or in a row of the call's own. -/
inductive Src (H : List HE) (h : PH) : Option Addr → Nat → Nat → List Value → Prop
  | zero {q : Option Addr} {sz : Nat} : Src H h q 0 sz []
  | sl {q : Option Addr} {m c sz : Nat} {xss : List (List Value)} (hs : Sl h sz q m c xss) : Src H h q m sz xss.flatten
  | row {q : Option Addr} {m c sz : Nat} {e : TypeId} {ys : List Value} (hm : HMem H (row q m c e sz ys)) : Src H h q m sz ys
theorem cell_block {w : World} {b : Nat} {cs : List Value} {t : TypeId} {fr : Nat × Nat} (hb : w.heap[b]? = some (.cells cs.toArray t fr)) {j : Nat} {v : Value} (hv : cs[j]? = some v) : w.cell? ((⟨b, 0, none⟩ : Addr).add j) = some v := by
  rw [addr_add, Nat.zero_add]
  simp [World.cell?, hb]; simpa using hv
theorem flatten_length {sz : Nat} : ∀ {xs : List (List Value)}, (∀ x ∈ xs, x.length = sz) → xs.flatten.length = xs.length * sz
  | [], _ => by simp
  | y :: ys, he => by
    have hy := he y (by simp)
    have ih := flatten_length (sz := sz) (xs := ys) (fun z hz => he z (by simp [hz]))
    simp [hy, ih, Nat.add_mul]; omega
theorem Src.w {C : Ctx} {H : List HE} {h : PH} {q : Option Addr} {m sz : Nat} {ys : List Value} (hs : Src H h q m sz ys) {w : World} (hw : Inv C H h w) : SrcW w q m sz ys := by
  cases hs with
  | zero => exact ⟨by simp, fun _ => rfl, fun _ _ j v hv => by simp at hv⟩
  | sl hs =>
    rename_i c xss
    refine ⟨by rw [flatten_length hs.each, hs.len], fun e => ?_, fun a ha j v hv => ?_⟩
    · by_cases hne : xss = []
      · rw [hne]; rfl
      · obtain ⟨b, off, e2, _⟩ := hs.cells hne; rw [e] at e2; cases e2
    · obtain ⟨b, off, e2, hp⟩ := hs.cells (by rintro rfl; simp at hv)
      rw [ha] at e2
      cases e2
      exact hp.cell (SS.of hw) hv
  | row hm =>
    obtain ⟨l, he, hsp, _⟩ := hw
    obtain ⟨l1, ⟨hlen, _, hr⟩, hin⟩ := hm.ents he
    refine ⟨hlen, fun e => ?_, fun a ha j v hv => ?_⟩
    · rcases hr with ⟨_, hn0, _, _⟩ | ⟨b, sp, e2, _⟩
      · subst hn0; simpa using hlen
      · rw [e] at e2; cases e2
    · rcases hr with ⟨e2, _⟩ | ⟨b, sp, e2, _, hl1⟩
      · rw [ha] at e2; cases e2
      · rw [ha] at e2
        cases e2
        have hb := hsp.mem b (.cells (ys ++ sp).toArray _ (0, 0)) (hin _ (by rw [hl1]; exact List.mem_singleton.2 rfl))
        refine cell_block hb ?_
        rw [List.getElem?_append_left (List.getElem?_eq_some_iff.1 hv).1]; exact hv
theorem row_box {p : Option Addr} {n c : Nat} {e : TypeId} {sz : Nat} {xs : List Value} {l : List Blk} (hr : row p n c e sz xs l) (hp : p ≠ none) : ∃ b sp, p = some ⟨b, 0, none⟩ ∧ (xs ++ sp).length = c * sz ∧ box b (xs ++ sp) e l := by
  obtain ⟨_, _, hr⟩ := hr
  rcases hr with ⟨e1, _⟩ | ⟨b, sp, h1, h2, h3⟩
  · exact absurd e1 hp
  · exact ⟨b, sp, h1, h2, h3⟩
theorem Inv.box_row {C : Ctx} {H : List HE} {h : PH} {w : World} {b n c sz : Nat} {xs sp : List Value} {e : TypeId} (h1 : xs.length = n * sz) (h2 : n ≤ c) (h3 : (xs ++ sp).length = c * sz) (hw : Inv C (box b (xs ++ sp) e :: H) h w) : Inv C (row (some ⟨b, 0, none⟩) n c e sz xs :: H) h w := by
  obtain ⟨l, ⟨l1, l2, rfl, hb, he⟩, hs, hc⟩ := hw
  exact ⟨l1 ++ l2, ⟨l1, l2, rfl, ⟨h1, h2, .inr ⟨b, sp, rfl, h3, hb⟩⟩, he⟩, hs, hc⟩
theorem Inv.row_box {C : Ctx} {H : List HE} {h : PH} {w : World} {p : Option Addr} {n c sz : Nat} {xs : List Value} {e : TypeId} (hw : Inv C (row p n c e sz xs :: H) h w) (hp : p ≠ none) : ∃ b sp, p = some ⟨b, 0, none⟩ ∧ xs.length = n * sz ∧ n ≤ c ∧ (xs ++ sp).length = c * sz ∧ Inv C (box b (xs ++ sp) e :: H) h w := by
  obtain ⟨l, ⟨l1, l2, rfl, hr, he⟩, hs, hc⟩ := hw
  obtain ⟨b, sp, h1, h2, h3⟩ := GV.row_box hr hp
  exact ⟨b, sp, h1, hr.1, hr.2.1, h2, l1 ++ l2, ⟨l1, l2, rfl, h3, he⟩, hs, hc⟩
theorem Inv.drop2 {C : Ctx} {a e : HE} {H : List HE} {h : PH} {w : World} (hw : Inv C (a :: e :: H) h w) : Inv C (a :: H) h w :=
  (hw.pick (e := e) (.there .here)).drop1
theorem spl_mid {xs sp ys : List Value} : spl (xs ++ sp) xs.length ys = (xs ++ ys) ++ sp.drop ys.length := by
  unfold spl
  rw [List.take_left, List.drop_append, List.drop_of_length_le (by omega)]
  simp
theorem Inv.append {P : Program} {C : Ctx} {H H' : List HE} {h : PH} {w : World} {t t' e ty : TypeId} {sz bt : Nat} {z : List Value} [TEl P t e sz bt] [TZero P e z] (ht' : ∃ e', P.underlying t' = some (.slice e')) (hz : z.length = sz) {p q : Option Addr} {n c m d : Nat} {xs ys : List Value}
    (hw : Inv C H h w) (hpk : Pick H (row p n c e sz xs) H') (hs : SrcW w q m sz ys) (hone : ys.all (·.oneCell') = true) (hb : (n + m) * bt ≤ 140737488355328) (hm : n + m ≤ 9223372036854775807) :
    ∃ p' c' w', (Builtin.append_ #[t, t'] ty #[.slice p n c, .slice q m d]).run P w = .ok (.slice p' (n + m) c') w' ∧ Inv C (row p' (n + m) c' e sz (xs ++ ys) :: H') h w' := by
  have hw1 := hw.pick hpk
  by_cases hroom : n + m ≤ c
  · have hrun := run_append_room (P := P) (t := t) (t' := t') (ty := ty) (d := d) ht' (p := p) (n := n) (c := c) hs hroom
    by_cases hp : p = none
    · subst hp
      have hw2 := hw1
      obtain ⟨l, ⟨l1, l2, rfl, ⟨hlen, hnc, hr⟩, he⟩, hsp, hc⟩ := hw1
      rcases hr with ⟨_, hn0, hc0, hl1⟩ | ⟨b, sp, e2, _⟩
      · subst hn0 hc0
        have hm0 : m = 0 := by omega
        subst hm0
        have hys : ys = [] := by have := hs.1; simpa using this
        subst hys
        exact ⟨none, 0, w, by rw [hrun]; rfl, by simpa using hw2⟩
      · cases e2
    · obtain ⟨b, sp, rfl, h1, h2, h3, hbx⟩ := hw1.row_box hp
      have hlen : ys.length = m * sz := hs.1
      have hspl : sp.length = c * sz - n * sz := by simp [h1] at h3; omega
      have hle : n * sz + m * sz ≤ c * sz := by rw [← Nat.add_mul]; exact Nat.mul_le_mul_right _ hroom
      have hgb := (HGet.here (b := b) (cs := xs ++ sp) (t := e) (H := H')).block hbx
      obtain ⟨w', hst, htn⟩ := run_storeCells (P := P) b e (n * sz) ys 0 (xs ++ sp) w hgb (by rw [h3]; omega) hone
      rw [Nat.add_zero, ← h1, spl_mid] at htn
      refine ⟨some ⟨b, 0, none⟩, c, w', ?_, ?_⟩
      · rw [hrun]
        simp only [addr_add, Nat.zero_add, hst, Result.andThen_ok]
      · have := hbx.turned (HSet.here) htn
        refine Inv.box_row (by simp [h1, hlen, Nat.add_mul]) hroom ?_ this
        simp [h1, hlen]; omega
  · have hsrc : SrcW w p n sz xs := Src.w (.row (c := c) (e := e) .here) hw1
    obtain ⟨cap, sp, hc1, hsp, hrun⟩ := run_append_grow (P := P) (t := t) (t' := t') (ty := ty) (d := d) (c := c) ht' hsrc hs (by omega) hb hm hz
    refine ⟨_, cap, _, hrun, ?_⟩
    have h1 := hsrc.1
    have h2 := hs.1
    have hal := hw1.drawn.alloc (xs ++ ys ++ sp) e
    have hle : (n + m) * sz ≤ cap * sz := Nat.mul_le_mul_right _ hc1
    refine Inv.box_row (by simp [h1, h2, Nat.add_mul]) hc1 ?_ hal.drop2
    rw [Nat.sub_mul] at hsp
    simp only [List.length_append, h1, h2, hsp]
    rw [Nat.add_mul] at hle ⊢
    omega

section
variable {ρ : Option Nat} {P : Program} {C : Ctx} {N : Fr} {L : En} {H H' : List HE} {h : PH} {ty : TypeId} {pos : String} {after : Array Edge}
variable {ops : Array Oper} {rest : List Oper} {Q : Exit → Act → World → Prop}
theorem run_builtin {ρ : Operand → Value} {dst : Option Tmp} {gd : Option (Nat × Bool)} {x y : Operand} {t t' : TypeId} {w w' : World} {v u r : Value} (hx : ρ x = v) (hy : ρ y = u) (hr : (Builtin.append_ #[t, t'] ty #[v, u]).run P w = .ok r w') :
    (execOp ρ ⟨dst, .call ⟨.builtin .append, #[x, y], #[t, t']⟩, ty, pos, after, gd⟩).run P w = .ok (.value r) w' := by
  simp [execOp, resolve, hx, hy, invoke, builtin, hr]
theorem hd_append {d : Nat} {x y : Operand} {t t' e e' : TypeId} {sz bt : Nat} {z : List Value} [TEl P t e sz bt] [TSl P t' e'] [TZero P e z] {p q : Option Addr} {n c m k : Nat} {xs ys : List Value} (hx : Ev L x (.slice p n c)) (hy : Ev L y (.slice q m k)) (hpk : Pick H (row p n c e sz xs) H')
    (hs : Src H h q m sz ys) (hz : z.length = sz) (hone : ys.all (·.oneCell') = true) (hb : (n + m) * bt ≤ 140737488355328) (hm : n + m ≤ 9223372036854775807) (hN : Nat.blt d N.n = true)
    (next : ∀ p' c', Hd C N ((d, [], .slice p' (n + m) c') :: L) (row p' (n + m) c' e sz (xs ++ ys) :: H') h (wpList P ops Q rest)) :
    Hd C N L H h (wpList P ops Q (⟨some d, .call ⟨.builtin .append, #[x, y], #[t, t']⟩, ty, pos, after, none⟩ :: rest)) := by
  refine ⟨fun a w ha hw => ?_⟩
  obtain ⟨p', c', w', hrun, hi⟩ := hw.append (P := P) (t := t) (t' := t') (ty := ty) (d := k) ⟨e', TSl.eq⟩ hz hpk (hs.w hw) hone hb hm
  simp only [wpList]
  rw [if_pos (by simp [Region.wanted])]
  unfold opw
  rw [run_builtin (hx.eval ha) (hy.eval ha) hrun]
  refine (next p' c').all _ _ ?_ hi
  have := ha.put (g := []) (v := .slice p' (n + m) c') (d := d) (by simpa using hN)
  simpa [G, satB] using this
/-- A nil slice is a row of the call's own. -/
theorem hd_nilrow {R : Act → World → Prop} (e : TypeId) (sz : Nat) (next : Hd C N L (row none 0 0 e sz [] :: H) h R) : Hd C N L H h R :=
  ⟨fun a w ha ⟨l, he, hs, hc⟩ => next.all a w ha ⟨l, ⟨[], l, rfl, ⟨by simp, Nat.le_refl _, .inl ⟨rfl, rfl, rfl, rfl⟩⟩, he⟩, hs, hc⟩⟩
end
end Go.GV

end
section
/- make, copy, slice literals, handing rows out, rows read and written by index, strings of bytes, shifts and divisions; over the small logic of GvA to GvJ. -/
namespace Go.GV
open Go

/-- k zero elements. -/
def zs (z : List Value) (k : Nat) : List Value := (List.replicate k z).flatten
theorem zs_length (z : List Value) (k : Nat) : (zs z k).length = k * z.length := by simp [zs]
theorem zs_add (z : List Value) (a b : Nat) : zs z (a + b) = zs z a ++ zs z b := by simp [zs, ← List.replicate_append_replicate]
theorem zs_get (z : List Value) : ∀ (c k : Nat), k < c * z.length → (zs z c)[k]? = z[k % z.length]?
  | 0, k, hk => by omega
  | c + 1, k, hk => by
    have e : zs z (c + 1) = z ++ zs z c := by simp [zs, List.replicate_succ]
    rw [e]
    by_cases hlt : k < z.length
    · rw [List.getElem?_append_left hlt, Nat.mod_eq_of_lt hlt]
    · rw [List.getElem?_append_right (by omega), zs_get z c (k - z.length) (by rw [Nat.add_mul] at hk; omega)]
      congr 1
      exact (Nat.mod_eq_sub_mod (by omega)).symm
theorem made_zs (z : List Value) (c : Nat) : madeCells z.toArray (c * z.length) = (zs z c).toArray := by
  apply Array.ext
  · simp [size_madeCells, zs_length]
  · intro k h1 h2
    have hk : k < c * z.length := by simpa [size_madeCells] using h1
    have hz : 0 < z.length := by
      rcases Nat.eq_zero_or_pos z.length with e | e
      · rw [e] at hk; omega
      · exact e
    have hg := zs_get z c k hk
    have hmod : k % z.length < z.length := Nat.mod_lt _ hz
    rw [List.getElem?_eq_getElem hmod, List.getElem?_eq_getElem (by simpa using h2)] at hg
    simp only [Option.some.injEq] at hg
    simp only [List.getElem_toArray]
    rw [hg]
    simp [madeCells, hmod]

section
variable {ρ : Option Nat} {P : Program} {C : Ctx} {N : Fr} {L : En} {H H' : List HE} {h : PH} {dst : Option Tmp} {ty : TypeId} {pos : String} {after : Array Edge} {gd : Option (Nat × Bool)}
variable {ops : Array Oper} {rest : List Oper} {Q : Exit → Act → World → Prop}

theorem hd_make {d : Nat} {x y : Operand} {t e : TypeId} {sz bt : Nat} {z : List Value} [TEl P t e sz bt] [TZero P e z] {k k' : IntKind} {n c : Nat} {a b : Int} (hx : Ev L x (.int k a)) (hy : Ev L y (.int k' b)) (ha : a = (n : Int)) (hb : b = (c : Int)) (hz : z.length = sz) (hnc : n ≤ c)
    (hbt : bt * c ≤ 281474976710656) (hc : c ≤ 9223372036854775807) (hN : Nat.blt d N.n = true)
    (next : ∀ g, Hd C N ((d, [], .slice (some ⟨g, 0, none⟩) n c) :: L) (row (some ⟨g, 0, none⟩) n c e sz (zs z n) :: H) h (wpList P ops Q rest)) :
    Hd C N L H h (wpList P ops Q (⟨some d, .makeSlice t x y, ty, pos, after, none⟩ :: rest)) := by
  refine ⟨fun ac w hac hw => ?_⟩
  have e1 := hx.eval hac
  have e2 := hy.eval hac
  have hszE := TEl.sz (P := P) (t := t)
  have hbtE := TEl.bt (P := P) (t := t)
  cases hi : P.info? e with
  | none => simp [hi] at hszE
  | some i =>
    simp [hi] at hszE hbtE
    obtain ⟨zv, hzr, hzc⟩ := run_zero (P := P) (t := e) w
    have hzz : i.zero = some zv := by
      simp only [zeroValue, typeInfo, Sem.run_bind, run_program, Result.andThen_ok, hi, Sem.run_pure] at hzr
      cases hq : i.zero with
      | none => rw [hq] at hzr; simp [unsupported] at hzr
      | some v => rw [hq] at hzr; simp at hzr; rw [hzr]
    have hbt' : (i.bytes : Int) * b ≤ 281474976710656 := by
      rw [hbtE, hb]
      have : ((bt * c : Nat) : Int) ≤ 281474976710656 := by omega
      rwa [Int.natCast_mul] at this
    have hrun := run_make (P := P) w t e i zv (TEl.sl (P := P) (t := t)) hi hzz k k' a b (by omega) (by omega) hbt' (by omega)
    have hcells : madeCells zv.cells (b.toNat * i.size) = (zs z c).toArray := by
      rw [hzc, hb, Int.toNat_natCast, hszE, ← hz, made_zs]
    rw [hcells, ha, hb, Int.toNat_natCast, Int.toNat_natCast] at hrun
    simp only [wpList]
    rw [if_pos (by simp [Region.wanted])]
    have hex : (execOp ac.eval ⟨some d, .makeSlice t x y, ty, pos, after, none⟩).run P w = .ok (.value (.slice (some ⟨w.heap.size, 0, none⟩) n c)) (w.alloc (.cells (zs z c).toArray e (0, 0))) := by
      simp only [execOp, e1, e2, ha, hb, Sem.run_bind, hrun, Result.andThen_ok, Sem.run_pure]
    unfold opw
    rw [hex]
    have hz1 : zs z c = zs z n ++ zs z (c - n) := by rw [← zs_add]; congr 1; omega
    refine (next w.heap.size).all _ _ ?_ ?_
    · have := hac.put (g := []) (v := .slice (some ⟨w.heap.size, 0, none⟩) n c) (d := d) (by simpa using hN)
      simpa [G, satB] using this
    · have hal := hw.alloc (zs z c) e
      rw [hz1] at hal ⊢
      refine Inv.box_row (by rw [zs_length, hz]) hnc ?_ hal
      rw [← hz1, zs_length, hz]

/-- 'copy' into a row of the call's own. -/
theorem hd_copy {d : Nat} {x y : Operand} {t t' e : TypeId} {sz bt : Nat} [TEl P t e sz bt] {p q : Option Addr} {n c m k : Nat} {xs ys : List Value} (hx : Ev L x (.slice p n c)) (hy : Ev L y (.slice q m k)) (hpk : Pick H (row p n c e sz xs) H') (hs : Src H h q m sz ys) (hone : ys.all (·.oneCell') = true) (hN : Nat.blt d N.n = true)
    (next : Hd C N ((d, [], .int .i64 (min m n : Nat)) :: L) (row p n c e sz (ys.take (min m n * sz) ++ xs.drop (min m n * sz)) :: H') h (wpList P ops Q rest)) :
    Hd C N L H h (wpList P ops Q (⟨some d, .call ⟨.builtin .copy, #[x, y], #[t, t']⟩, ty, pos, after, none⟩ :: rest)) := by
  refine ⟨fun a w ha hw => ?_⟩
  have e1 := hx.eval ha
  have e2 := hy.eval ha
  have hsw := hs.w hw
  have hw1 := hw.pick hpk
  have hu := TEl.sl (P := P) (t := t)
  have hsz := run_sz (TEl.sz (P := P) (t := t)) w
  have hf : (Builtin.firstCells sz (min m n) (.slice q m k)).run P w = .ok (ys.take (min m n * sz)).toArray w := by
    cases q with
    | none => rw [hsw.2.1 rfl]; simp [Builtin.firstCells]
    | some ad =>
      have hl : (ys.take (min m n * sz)).length = min m n * sz := by
        rw [List.length_take, hsw.1]
        exact Nat.min_eq_left (Nat.mul_le_mul_right _ (Nat.min_le_left _ _))
      have := run_loadCells_list (P := P) (w := w) ad (ys.take (min m n * sz)) (fun j v hv => hsw.2.2 ad rfl j v (by
        rw [List.getElem?_take] at hv
        split at hv
        · exact hv
        · cases hv))
      rw [hl] at this
      simp [Builtin.firstCells, this]
  simp only [wpList]
  rw [if_pos (by simp [Region.wanted])]
  have hput : EnOK (a.put (some d) (.int .i64 (min m n : Nat))) N ((d, [], .int .i64 (min m n : Nat)) :: L) := by
    have := ha.put (g := []) (v := .int .i64 (min m n : Nat)) (d := d) (by simpa using hN)
    simpa [G, satB] using this
  by_cases hp : p = none
  · subst hp
    have hw2 := hw1
    obtain ⟨l, ⟨l1, l2, rfl, ⟨hlen, hnc, hr⟩, he⟩, hsp, hc⟩ := hw1
    rcases hr with ⟨_, hn0, hc0, hl1⟩ | ⟨b, sp, ee, _⟩
    · subst hn0 hc0
      have hex : (execOp a.eval ⟨some d, .call ⟨.builtin .copy, #[x, y], #[t, t']⟩, ty, pos, after, none⟩).run P w = .ok (.value (.int .i64 (min m 0 : Nat))) w := by
        simp at hf
        simp [execOp, resolve, e1, e2, invoke, builtin, Builtin.copy_, run_underlying hu, hsz, Builtin.lenOf, hf, goInt]
      unfold opw
      rw [hex]
      refine next.all _ _ hput ?_
      simpa using hw2
    · cases ee
  · obtain ⟨b, sp, rfl, h1, h2, h3, hbx⟩ := hw1.row_box hp
    have hgb := (HGet.here (b := b) (cs := xs ++ sp) (t := e) (H := H')).block hbx
    have hl : (ys.take (min m n * sz)).length = min m n * sz := by
      rw [List.length_take, hsw.1]
      exact Nat.min_eq_left (Nat.mul_le_mul_right _ (Nat.min_le_left _ _))
    have hle : min m n * sz ≤ n * sz := Nat.mul_le_mul_right _ (Nat.min_le_right _ _)
    obtain ⟨w', hst, htn⟩ := run_storeCells (P := P) b e 0 (ys.take (min m n * sz)) 0 (xs ++ sp) w hgb (by simp only [List.length_append, h1, hl]; omega) (by
      rw [List.all_eq_true] at hone ⊢
      exact fun v hv => hone v (List.mem_of_mem_take hv))
    have hspl : spl (xs ++ sp) 0 (ys.take (min m n * sz)) = (ys.take (min m n * sz) ++ xs.drop (min m n * sz)) ++ sp := by
      unfold spl
      rw [hl, Nat.zero_add, List.drop_append_of_le_length (by omega)]
      simp
    rw [Nat.add_zero, hspl] at htn
    have hex : (execOp a.eval ⟨some d, .call ⟨.builtin .copy, #[x, y], #[t, t']⟩, ty, pos, after, none⟩).run P w = .ok (.value (.int .i64 (min m n : Nat))) w' := by
      have e3 : Nat.min m n = min m n := rfl
      simp [execOp, resolve, e1, e2, invoke, builtin, Builtin.copy_, run_underlying hu, hsz, Builtin.lenOf, e3, hf, hst, goInt]
    unfold opw
    rw [hex]
    refine next.all _ _ hput ?_
    refine Inv.box_row ?_ h2 ?_ (hbx.turned HSet.here htn)
    · simp only [List.length_append, hl, List.length_drop, h1]; omega
    · simp only [List.length_append, hl, List.length_drop, h1] at h3 ⊢; omega

/-! ### Literals -/
inductive PartsS (L : En) (sz : Nat) : List (Nat × Operand) → List (Nat × List Value) → Prop
  | nil : PartsS L sz [] []
  | cons {i : Nat} {x : Operand} {v : Value} {vs : List Value} {ps : List (Nat × Operand)} {qs : List (Nat × List Value)} (hx : Ev L x v) (hvs : v.cells = vs.toArray) (hn : vs.length = sz) (hh : PartsS L sz ps qs) : PartsS L sz ((i, x) :: ps) ((i * sz, vs) :: qs)
theorem fill_partsS {sz : Nat} {ps : List (Nat × Operand)} {qs : List (Nat × List Value)} (hh : PartsS L sz ps qs) {ρ : Operand → Value} (hρ : ∀ p ∈ ps, ∀ u, Ev L p.2 u → ρ p.2 = u) :
    ∀ z : List Value, (∀ q ∈ qs, q.1 + q.2.length ≤ z.length) → Instr.fill (fun i => some (i * sz, sz)) z.toArray (ps.map fun p => (p.1, ρ p.2)) = some (fillL z qs).toArray := by
  induction hh with
  | nil => intro z _; rfl
  | @cons i x v vs ps qs hx hvs hn _ ih =>
    intro z hz
    have e := hρ (i, x) (by simp) v hx
    simp only at e
    have hz0 := hz (i * sz, vs) (by simp)
    simp only at hz0
    simp only [List.map_cons, Instr.fill, e, hvs]
    rw [if_neg (by simp; omega)]
    have hfold := foldl_spl (i * sz) vs 0 z (by omega)
    rw [Nat.add_zero] at hfold
    have : (vs.toArray.zipIdx.foldl (fun cs x => cs.setIfInBounds (i * sz + x.2) x.1) z.toArray) = (spl z (i * sz) vs).toArray := by
      rw [← Array.foldl_toList, Array.toList_zipIdx]; simpa using hfold
    rw [this]
    refine ih (fun p hp => hρ p (by simp [hp])) _ (fun q hq => ?_)
    rw [length_spl hz0]
    exact hz q (by simp [hq])
theorem hd_lit {d : Nat} {t e : TypeId} {sz bt n : Nat} {z cs : List Value} [TEl P t e sz bt] [TZero P e z] {ps : List (Nat × Operand)} {qs : List (Nat × List Value)} (hh : PartsS L sz ps qs) (hz : z.length = sz) (hq : (qs.all fun q => Nat.ble (q.1 + q.2.length) (n * sz)) = true) (hcs : Nf (fillL (zs z n) qs) cs) (hbig : Nat.ble (n * sz) 16777216 = true)
    (hN : Nat.blt d N.n = true) (hlen : cs.length = n * sz) (next : ∀ g, Hd C N ((d, [], .slice (some ⟨g, 0, none⟩) n n) :: L) (row (some ⟨g, 0, none⟩) n n e sz cs :: H) h (wpList P ops Q rest)) :
    Hd C N L H h (wpList P ops Q (⟨some d, .buildSlice t n ps.toArray, ty, pos, after, none⟩ :: rest)) := by
  refine ⟨fun a w ha hw => ?_⟩
  have hu := TEl.sl (P := P) (t := t)
  have hsz := run_sz (TEl.sz (P := P) (t := t)) w
  obtain ⟨zv, hzr, hzc⟩ := run_zero (P := P) (t := e) w
  have hq' : ∀ q ∈ qs, q.1 + q.2.length ≤ (zs z n).length := fun q hqm => by
    rw [zs_length, hz]
    exact Nat.le_of_ble_eq_true (by simpa using (List.all_eq_true.1 hq) q hqm)
  have hfill := fill_partsS hh (ρ := a.eval) (fun p _ u hu => hu.eval ha) (zs z n) hq'
  have e2 : (ps.toArray.map fun (i, x) => (i, a.eval x)).toList = ps.map fun p => (p.1, a.eval p.2) := by simp
  have hb : ¬ (n * sz > 2 ^ 24) := by have := Nat.le_of_ble_eq_true hbig; omega
  have hmade := made_zs z n
  have hex : (execOp a.eval ⟨some d, .buildSlice t n ps.toArray, ty, pos, after, none⟩).run P w = .ok (.value (.slice (some ⟨w.heap.size, 0, none⟩) n n)) (w.alloc (.cells cs.toArray e (0, 0))) := by
    simp only [execOp, Instr.buildSlice, Sem.run_bind, run_underlying hu, Result.andThen_ok, hsz, hb, if_false]
    by_cases h0 : n * sz = 0
    · have hz0 : (zs z n) = [] := by
        have := zs_length z n
        rw [hz, h0] at this
        simpa using this
      rw [hz0] at hfill hcs
      simp only [h0, if_true, Sem.run_bind, Sem.run_pure, Result.andThen_ok]
      have hr0 : ∀ f : Nat → Value, (Array.range 0).map f = #[] := fun f => by apply Array.eq_empty_of_size_eq_zero; simp
      rw [hr0, e2]
      have : Instr.fill (fun i => some (i * sz, sz)) #[] (ps.map fun p => (p.1, a.eval p.2)) = some (fillL [] qs).toArray := hfill
      rw [this, hcs.eq]
      simp [newRow]
    · simp only [h0, if_false, Sem.run_bind, hzr, Result.andThen_ok, Sem.run_pure, hzc]
      have hm2 : (Array.range (n * sz)).map (z.toArray[· % z.toArray.size]!) = (zs z n).toArray := by
        rw [← hmade, hz]; rfl
      rw [hm2, e2, hfill, hcs.eq]
      simp [newRow]
  simp only [wpList]
  rw [if_pos (by simp [Region.wanted])]
  unfold opw
  rw [hex]
  refine (next w.heap.size).all _ _ ?_ ?_
  · have := ha.put (g := []) (v := .slice (some ⟨w.heap.size, 0, none⟩) n n) (d := d) (by simpa using hN)
    simpa [G, satB] using this
  · have hal := hw.alloc cs e
    have : Inv C (box w.heap.size (cs ++ []) e :: H) h (w.alloc (.cells cs.toArray e (0, 0))) := by simpa using hal
    exact Inv.box_row hlen (Nat.le_refl _) (by simpa using hlen) this

/-! ### Handing a row out: it is written no more -/
def PH.add (h : PH) (b : Nat) (o : Obj) : PH := fun k => if k = b then some o else h k
theorem Inv.publish1 {w : World} {b : Nat} {o : Obj} (hw : Inv C ((fun l => l = [(b, o)]) :: H) h w) : h.le (h.add b o) ∧ Inv C H (h.add b o) w := by
  obtain ⟨l, ⟨l1, l2, rfl, e, he⟩, hs, hc⟩ := hw
  have e' : l1 = [(b, o)] := e
  subst e'
  have hn := hs.sep b o (by simp)
  have hnd := hs.nodup
  simp only [List.cons_append, List.nil_append, List.map_cons, List.nodup_cons] at hnd
  have hle : h.le (h.add b o) := fun k o' e9 => by
    unfold PH.add
    split
    · rename_i ek; subst ek; rw [hn] at e9; cases e9
    · exact e9
  refine ⟨hle, l2, he, ⟨hnd.2, fun k o' hm => hs.mem k o' (by simp [hm]), fun k o' e8 => ?_, fun k o' hm => ?_⟩, ⟨hc.os, hc.tape, hc.drawn, hc.output, hc.size, hc.old, PH.le_trans hc.le hle, fun k o' e8 e0 => ?_, fun k o' hm => hc.own k o' (by simp [hm])⟩⟩
  · by_cases ek : k = b
    · subst ek; simp only [PH.add, if_true, Option.some.injEq] at e8; rw [← e8]; exact hs.mem k o (by simp)
    · simp only [PH.add, if_neg ek] at e8; exact hs.pub k o' e8
  · unfold PH.add
    split
    · rename_i ek; subst ek; exact absurd (List.mem_map.2 ⟨(k, o'), hm, rfl⟩) hnd.1
    · exact hs.sep k o' (by simp [hm])
  · by_cases ek : k = b
    · subst ek; exact hc.own k o (by simp)
    · simp only [PH.add, if_neg ek] at e8; exact hc.fresh k o' e8 e0
theorem Inv.publish {w : World} {p : Option Addr} {n c sz : Nat} {e : TypeId} {xss : List (List Value)} (hw : Inv C (row p n c e sz xss.flatten :: H) h w) (hlen : xss.length = n) (heach : ∀ x ∈ xss, x.length = sz) (htop : n ≤ 9223372036854775807) :
    ∃ h', h.le h' ∧ Sl h' sz p n c xss ∧ Inv C H h' w := by
  by_cases hp : p = none
  · subst hp
    have hw2 := hw
    obtain ⟨l, ⟨l1, l2, rfl, ⟨_, hnc, hr⟩, he⟩, hs, hc⟩ := hw2
    rcases hr with ⟨_, hn0, hc0, _⟩ | ⟨b, sp, e2, _⟩
    · subst hn0 hc0
      have : xss = [] := by simpa using hlen
      subst this
      exact ⟨h, PH.le_refl _, Sl.nil h sz, hw.drop1⟩
    · cases e2
  · obtain ⟨b, sp, rfl, h1, h2, h3, hbx⟩ := hw.row_box hp
    obtain ⟨hle, hi⟩ := Inv.publish1 hbx
    refine ⟨_, hle, ⟨hlen, h2, htop, heach, fun _ => ⟨b, 0, rfl, _, _, _, by simp [PH.add]; exact ⟨rfl, rfl, rfl⟩, fun j v hv => ?_⟩⟩, hi⟩
    simp only [Nat.zero_add, List.getElem?_toArray]
    rw [List.getElem?_append_left (List.getElem?_eq_some_iff.1 hv).1]; exact hv
theorem hd_publish {R : Act → World → Prop} {p : Option Addr} {n c sz : Nat} {e : TypeId} {xs : List Value} (xss : List (List Value)) (hpk : Pick H (row p n c e sz xs) H') (hxs : xs = xss.flatten) (hlen : xss.length = n) (heach : ∀ x ∈ xss, x.length = sz) (htop : n ≤ 9223372036854775807)
    (next : ∀ h', h.le h' → Sl h' sz p n c xss → Hd C N L H' h' R) : Hd C N L H h R := by
  refine ⟨fun a w ha hw => ?_⟩
  subst hxs
  obtain ⟨h', hle, hsl, hi⟩ := (hw.pick hpk).publish hlen heach htop
  exact (next h' hle hsl).all a w ha hi
end
end Go.GV

end
