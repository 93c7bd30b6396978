/- What an operation, a list of operations and a piece of code must achieve, in a function's own frame or in a round's of a range over a function: a layer over the kit's fenced weakest preconditions at the widest fence. -/
import Derived.WalkKit
import Derived.Deep.Quiet
import Derived.OrdersIn
import Derived.OrdersHeld
import Derived.TacticsIn
import Derived.LoopIn
import Derived.RangeFuncFrom
import Derived.RangeFuncLeaves
namespace Go.GV
open Go

/-- The widest fence, in a function's own frame (none) or in a round's (some l). -/
def fR (ρ : Option Nat) : Fence := { Fence.wide with round := ρ }
/-- The slots of a frame, and what it has deferred. -/
structure Fr where
  n : Nat
  ds : List Deferred

def up (P : Program) (o : Oper) (a : Act) (K : Act → World → Prop) : Result Next → Prop
  | .ok (.value v) w' => K (a.put o.dst v) w'
  | .ok .skip w' => K (a.put o.dst undef) w'
  | .ok (.enter f args) w' => Calls P f args w' fun e w'' => ∃ v, e = .returned v ∧ K (a.put o.dst v) w''
  | .ok (.round l f tmps assign body) w' => RoundIn Fence.wide 0 P l f tmps assign body w' fun e w'' => ∃ v, e = .returned v ∧ K (a.put o.dst v) w''
  | _ => False
def opw (P : Program) (o : Oper) (a : Act) (w : World) (K : Act → World → Prop) : Prop := up P o a K ((execOp a.eval o).run P w)
theorem up_mono {P : Program} {o : Oper} {a : Act} {K K' : Act → World → Prop} (h : ∀ a w, K a w → K' a w) : ∀ {r : Result Next}, up P o a K r → up P o a K' r
  | .ok (.value _) _, hh => h _ _ hh
  | .ok .skip _, hh => h _ _ hh
  | .ok (.enter _ _) _, hh => Calls.mono hh fun _ _ ⟨v, e, hk⟩ => ⟨v, e, h _ _ hk⟩
  | .ok (.round _ _ _ _ _) _, hh => RoundIn.mono hh fun _ _ ⟨v, e, hk⟩ => ⟨v, e, h _ _ hk⟩
theorem opw_mono {P : Program} {o : Oper} {a : Act} {w : World} {K K' : Act → World → Prop} (h : ∀ a w, K a w → K' a w) (hh : opw P o a w K) : opw P o a w K' := up_mono h hh
theorem opw_defer {P : Program} {o : Oper} {a : Act} {w : World} {K : Act → World → Prop} (hh : opw P o a w K) : ∀ c, o.op ≠ .defer c := by
  intro c e
  unfold opw at hh
  have : (execOp a.eval o).run P w = ((resolve a.eval c o.type).run P w).andThen fun d w' => .ok (.defer d) w' := by
    unfold execOp
    rw [e]
    simp only [Sem.run_bind, Sem.run_pure]
  rw [this] at hh
  cases hr : (resolve a.eval c o.type).run P w with
  | ok d w' => rw [hr] at hh; exact hh
  | halt x w' => rw [hr] at hh; exact hh
theorem calls_in {ρ : Option Nat} {n : Nat} {P : Program} {f : FuncId} {args : Array Value} {w : World} {R : Ending → World → Prop} (h : Calls P f args w R) : CallsIn (fR ρ) n P f args w R := (callsIn_wide (n := n)).2 h
theorem opw_in {ρ : Option Nat} {P : Program} {o : Oper} {a : Act} {w : World} {K : Act → World → Prop} {Q : Exit → Act → World → Prop} (hh : opw P o a w K) : o.wpIn (fR ρ) 0 P a w K Q := by
  refine ⟨fun _ _ => trivial, ?_⟩
  rw [Oper.semAt_eq _ _ _ (opw_defer hh)]
  unfold opw at hh
  generalize (execOp a.eval o).run P w = r at *
  cases r with
  | ok nx w' =>
    cases nx <;> simp only [up] at hh <;> simp only [Oper.uponIn]
    case value v => exact hh
    case skip => exact hh
    case enter f args => exact ⟨fun h => by simp [fR, Fence.wide] at h, calls_in (hh.mono fun e w'' ⟨v, he, hk⟩ => by subst he; exact hk)⟩
    case round l f tmps assign body => exact ⟨fun h => by simp [fR, Fence.wide] at h, RoundIn.mono (F := Fence.wide) hh fun e w'' ⟨v, he, hk⟩ => by subst he; exact hk⟩
  | halt x w' => cases x <;> exact hh.elim

def wpList (P : Program) (ops : Array Oper) (Q : Exit → Act → World → Prop) : List Oper → Act → World → Prop
  | [], a, w => Q .normal a w
  | o :: rest, a, w => if Region.wanted o (yielded ops a.tmps) then opw P o a w (wpList P ops Q rest) else wpList P ops Q rest (a.put o.dst undef) w
def wpOp (P : Program) (ops : Array Oper) (i : Nat) (K : Act → World → Prop) (a : Act) (w : World) : Prop :=
  match ops[i]? with
  | none => K a w
  | some o => if Region.wanted o (yielded ops a.tmps) then opw P o a w K else K (a.put o.dst undef) w
theorem wpList_in {ρ : Option Nat} {P : Program} {ops : Array Oper} {Q : Exit → Act → World → Prop} : ∀ (l : List Oper) (a : Act) (w : World), wpList P ops Q l a w → wpListIn (fR ρ) 0 P ops Q l a w
  | [], _, _, hh => hh
  | o :: rest, a, w, hh => by
    simp only [wpList] at hh
    simp only [wpListIn]
    split
    · rename_i hw
      rw [if_pos hw] at hh
      exact Oper.wpIn_mono (wpList_in rest) (opw_in hh)
    · rename_i hw
      rw [if_neg hw] at hh
      exact ⟨fun _ _ => trivial, wpList_in rest _ _ hh⟩
theorem wpOp_mono {P : Program} {ops : Array Oper} {i : Nat} {a : Act} {w : World} {K K' : Act → World → Prop} (h : ∀ a w, K a w → K' a w) (hh : wpOp P ops i K a w) : wpOp P ops i K' a w := by
  unfold wpOp at *
  split
  · rename_i ho; simp only [ho] at hh; exact h _ _ hh
  · rename_i o ho
    simp only [ho] at hh
    split
    · rename_i hw; rw [if_pos hw] at hh; exact opw_mono h hh
    · rename_i hw; rw [if_neg hw] at hh; exact h _ _ hh
theorem wpOp_in {ρ : Option Nat} {P : Program} {ops : Array Oper} {i : Nat} {a : Act} {w : World} {K : Act → World → Prop} {Q : Exit → Act → World → Prop} (hh : wpOp P ops i K a w) : wpOpIn (fR ρ) 0 P ops Q i K a w := by
  unfold wpOp at hh
  unfold wpOpIn
  split
  · rename_i ho; simp only [ho] at hh; exact hh
  · rename_i o ho
    simp only [ho] at hh
    split
    · rename_i hw; rw [if_pos hw] at hh; exact opw_in hh
    · rename_i hw; rw [if_neg hw] at hh; exact ⟨fun _ _ => trivial, hh⟩
theorem opw_of_quiet {P : Program} {C : World → Prop} {o : Oper} {a : Act} {K : Act → Prop} {K' : Act → World → Prop} {w : World} (hw : C w) (h : ∀ a w', C w' → K a → K' a w') (hh : o.quiet P a C K) : opw P o a w K' := by
  obtain ⟨v, h1, h2⟩ := hh
  have h3 := h1 w hw
  unfold Oper.quietAt at h3
  unfold opw
  generalize (execOp a.eval o).run P w = r at *
  cases r with
  | ok n w' =>
    cases n <;> simp only [Oper.quietUpon] at h3 <;> simp only [up]
    case value u =>
      obtain ⟨e1, e2⟩ := h3
      rw [e1, e2]
      exact h _ _ hw h2
    case skip =>
      obtain ⟨e1, e2⟩ := h3
      rw [e1, ← e2]
      exact h _ _ hw h2
    case enter f args =>
      obtain ⟨e1, hc⟩ := h3
      rw [e1]
      exact hc.mono fun e w'' ⟨he, hw''⟩ => ⟨v, he, h _ _ hw'' h2⟩
  | halt x w' => simp only [Oper.quietUpon] at h3
theorem any_of_quiet {ρ : Option Nat} {P : Program} {ops : Array Oper} {md : Region.Mode} {C : World → Prop} {Q : Act → Prop} {Q' : Exit → Act → World → Prop} (hQ : ∀ a w, C w → Q a → Q' .normal a w) : ∀ (fuel : Nat) (listed : Array Bool) (a : Act) (w : World), C w →
    wpAnyQ P md ops C Q fuel listed a → wpAnyIn (fR ρ) 0 P md ops Q' fuel listed a w
  | 0, _, _, _, hw, h => ⟨h.1, hQ _ _ hw h.2⟩
  | fuel + 1, _, _, _, hw, h => ⟨fun h0 => hQ _ _ hw (h.1 h0), fun i hi => wpOp_in (by
      have h2 := h.2 i hi
      unfold qOp at h2
      unfold wpOp
      split
      · rename_i ho; simp only [ho] at h2; exact any_of_quiet hQ fuel _ _ _ hw h2
      · rename_i o ho
        simp only [ho] at h2
        split
        · rename_i hx; simp only [hx, if_true] at h2; exact opw_of_quiet hw (fun a' w' hw' => any_of_quiet hQ fuel _ a' w' hw') h2
        · rename_i hx; simp only [hx] at h2; exact any_of_quiet hQ fuel _ _ _ hw h2)⟩

/-! ### Code -/
def cw (ρ : Option Nat) (P : Program) (c : Code) (Q : Exit → Act → World → Prop) (a : Act) (w : World) : Prop := c.wpIn (fR ρ) 0 P Q a w
section
variable {ρ : Option Nat} {P : Program} {Q : Exit → Act → World → Prop} {a : Act} {w : World}
theorem cw_mono {c : Code} {Q' : Exit → Act → World → Prop} (h : cw ρ P c Q a w) (hq : ∀ e a w, Q e a w → Q' e a w) : cw ρ P c Q' a w := wpIn_mono h hq
theorem cw_seq {x y : Code} (h : cw ρ P x (Exit.then (cw ρ P y Q) Q) a w) : cw ρ P (Code.seq x y) Q a w := wpIn_seq h
theorem cw_skip (h : Q .normal a w) : cw ρ P Code.skip Q a w := wpIn_skip h
theorem cw_ret (h : Q .ret a w) : cw ρ P Code.ret Q a w := wpIn_ret h
theorem cw_exit {id : Nat} (h : Q (.exit id) a w) : cw ρ P (Code.exit id) Q a w := wpIn_exit h
theorem cw_block {id : Nat} {c : Code} (h : cw ρ P c (Exit.inBlock id Q) a w) : cw ρ P (Code.block id c) Q a w := wpIn_block h
theorem cw_cond_split {c : Operand} {x y : Code} {t : Bool} (hc : a.eval c = .bool t) (ht : t = true → cw ρ P x Q a w) (hf : t = false → cw ρ P y Q a w) : cw ρ P (Code.cond c x y) Q a w :=
  wpIn_cond hc (by cases t <;> simp <;> first | exact ht rfl | exact hf rfl)
theorem cw_region_lit {id : Nat} {l : List Oper} (h : wpList P l.toArray Q l a w) : cw ρ P (Code.region id l.toArray false) Q a w := wpIn_region_lit (wpList_in l a w h)
theorem cw_region_quiet {ops : Array Oper} {C : World → Prop} {id : Nat} (hm : P.follows .mixedOrders = true) (hB : Region.lexB .any ops = true) (hC : C { w with drawn := w.drawn + 1 })
    (h : wpQuiet P ops C (fun a' => ∀ w', C w' → Q .normal a' w') ops.toList a) : cw ρ P (Code.region id ops true) Q a w := by
  simp only [Region.lexB, Bool.and_eq_true] at hB
  refine wpIn_region_any hm (any_of_quiet (Q := fun a' => ∀ w', C w' → Q .normal a' w') (fun _ w' hw' h => h w' hw') _ _ _ _ hC ?_)
  have := wpAnyQ_lex (C := C) (md := .any) hB.1 ops.toList 0 (Array.replicate ops.size false) a (by simp) (by simpa using hB.2) h
  simpa using this
end
/-- What the body of a function must achieve. -/
def bodyPost (P : Program) (fn : Func) (R : Ending → World → Prop) : Exit → Act → World → Prop := bodyPostM Fence.wide 0 P fn R
theorem calls_of_cw {P : Program} {f : FuncId} {fn : Func} {c : Code} {args : Array Value} {w : World} {R : Ending → World → Prop} (hf : P.funcs[f]? = some fn) (hb : fn.body = some c)
    (h : cw none P c (bodyPost P fn R) { tmps := args ++ Array.replicate (fn.ntmps - args.size) undef, defers := [] } w) : Calls P f args w R :=
  (callsIn_wide (n := 0)).1 (callsIn_of_wp_marks hf hb trivial h rfl)
theorem body_ret {P : Program} {fn : Func} {R : Ending → World → Prop} {e : Exit} {a : Act} {w : World} {v : Value} (he : e = .ret ∨ e = .normal) (hd : a.defers = []) (hr : (results fn a.tmps).run P w = .ok v w) (hR : R (.returned v) w) : bodyPost P fn R e a w := by
  rcases he with rfl | rfl <;> (show LeavesInM Fence.wide 0 P fn a.tmps R a.defers .returning w) <;> rw [hd] <;> exact ⟨v, hr, hR⟩
end Go.GV
