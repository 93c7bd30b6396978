/- Regions that draw their order: operations that leave the world alone are taken first, the others in the one order that is left; over the small logic of GvA to GvE. -/
import Derived.Test.YtikkkfamflmgeaaGvE
import Derived.OrdersHeld
namespace Go.GV
open Go

def Qn (R : Act → World → Prop) : Exit → Act → World → Prop := fun e a w => e = .normal ∧ R a w
/-- Number j waits for number i. -/
def waits (ops : Array Oper) (j i : Nat) : Bool :=
  match ops[j]? with
  | some o => o.after.any fun e => Region.binds .any e && Nat.beq e.on i
  | none => false

/-- .. by way of others. -/
def waitsT (ops : Array Oper) : Nat → Nat → Nat → Bool
  | 0, j, i => waits ops j i
  | f + 1, j, i => waits ops j i || (List.range ops.size).any fun k => waits ops j k && waitsT ops f k i
/-- Whatever is listed, so is what it waits for. -/
def shut (ops : Array Oper) (listed : Array Bool) : Prop := ∀ j i, waits ops j i = true → listed.getD j false = true → listed.getD i false = true

section
variable {ρ : Option Nat} {P : Program} {ops : Array Oper} {R : Act → World → Prop} {S : World → Prop} {B : List Nat}

theorem yields_op {i : Nat} {o : Oper} {v : Value} {a : Act} (hi : ops[i]? = some o) (hy : YieldsIf P ops S o v a) {K : Act → World → Prop} {w : World} (hS : S w) (h : K (a.put o.dst v) w) : wpOp P ops i K a w := by
  unfold GV.wpOp
  simp only [hi]
  rcases hy with ⟨hw, hv⟩ | ⟨hw, rfl⟩
  · simp only [hw, if_true, opw, hv w hS, up]; exact h
  · simp only [hw, Bool.false_eq_true, if_false]; exact h
theorem wpO_putIf {j : Nat} {oi oj : Oper} {v : Value} (hj : ops[j]? = some oj) (hap : oi.apart ops oj = true) (hsi : ∀ cs b, oi.op ≠ .select cs b) (hsj : ∀ cs b, oj.op ≠ .select cs b) {K : Act → World → Prop} {a : Act} {w : World}
    (hy : YieldsIf P ops S oi v a) (h : wpOp P ops j K (a.put oi.dst v) w) : wpOp P ops j (fun a' w' => YieldsIf P ops S oi v a' ∧ K (a'.put oi.dst v) w') a w := by
  obtain ⟨h1, h2, h3⟩ := Oper.apart_spec hap
  have keep : ∀ u, YieldsIf P ops S oi v (a.put oj.dst u) := fun u => hy.of_same (execOp_put oi hsi a oj.dst u h3) (wanted_put oi a oj.dst u h3)
  unfold wpOp at *
  simp only [hj] at *
  rw [wanted_put oj a oi.dst v h1] at h
  split
  · rename_i hw
    rw [if_pos hw] at h
    unfold opw at *
    rw [execOp_put oj hsj a oi.dst v h1] at h
    generalize (execOp a.eval oj).run P w = r at *
    cases r with
    | ok n w' =>
      cases n <;> simp only [up] at h ⊢
      case value u => exact ⟨keep u, by rw [← Act.put_comm a v u h2]; exact h⟩
      case skip => exact ⟨keep _, by rw [← Act.put_comm a v undef h2]; exact h⟩
      case enter f args => exact Calls.mono h fun e w'' ⟨u, he, hk⟩ => ⟨u, he, keep u, by rw [← Act.put_comm a v u h2]; exact hk⟩
      case round l f tmps assign body => exact RoundIn.mono h fun e w'' ⟨u, he, hk⟩ => ⟨u, he, keep u, by rw [← Act.put_comm a v u h2]; exact hk⟩
    | halt x w' => exact h
  · rename_i hw
    rw [if_neg hw] at h
    exact ⟨keep _, by rw [← Act.put_comm a v undef h2]; exact h⟩

/-- Whatever order is picked; 'S' holds behind every operation but those of 'B'. -/
def anyX (P : Program) (ops : Array Oper) (R : Act → World → Prop) (S : World → Prop) (B : List Nat) : Nat → Array Bool → Act → World → Prop
  | 0, listed, a, w => Region.ready .any ops listed = [] ∧ R a w
  | f + 1, listed, a, w => (Region.ready .any ops listed = [] → R a w) ∧
    ∀ i ∈ Region.ready .any ops listed, wpOp P ops i (fun a' w' => (i ∉ B → S w') ∧ anyX P ops R S B f (listed.setIfInBounds i true) a' w') a w
theorem any_of_X : ∀ (f : Nat) (listed : Array Bool) (a : Act) (w : World), anyX P ops R S B f listed a w → wpAnyIn (fR ρ) 0 P .any ops (Qn R) f listed a w
  | 0, _, _, _, hh => ⟨hh.1, rfl, hh.2⟩
  | f + 1, _, _, _, hh => ⟨fun e => ⟨rfl, hh.1 e⟩, fun i hi => wpOp_in (wpOp_mono (fun a' w' h' => any_of_X f _ a' w' h'.2) (hh.2 i hi))⟩
theorem waits_ready {listed : Array Bool} {i j : Nat} (hw : waits ops j i = true) (hj : j ∈ Region.ready .any ops listed) : listed.getD i false = true := by
  obtain ⟨_, oj, hoj, hall⟩ := mem_ready.1 hj
  simp only [waits, hoj] at hw
  obtain ⟨e, he, hb⟩ := Array.any_eq_true'.1 hw
  simp only [Bool.and_eq_true] at hb
  have h2 := hall e he hb.1
  rwa [Nat.eq_of_beq_eq_true hb.2] at h2
theorem waitsT_listed {listed : Array Bool} (hc : shut ops listed) : ∀ (f j i : Nat), waitsT ops f j i = true → listed.getD j false = true → listed.getD i false = true
  | 0, j, i, hw, hl => hc j i hw hl
  | f + 1, j, i, hw, hl => by
    simp only [waitsT, Bool.or_eq_true, List.any_eq_true, Bool.and_eq_true] at hw
    rcases hw with hw | ⟨k, _, h1, h2⟩
    · exact hc j i hw hl
    · exact waitsT_listed hc f k i h2 (hc j k h1 hl)
theorem waitsT_ready {listed : Array Bool} (hc : shut ops listed) : ∀ (f j i : Nat), waitsT ops f j i = true → j ∈ Region.ready .any ops listed → listed.getD i false = true
  | 0, j, i, hw, hj => waits_ready hw hj
  | f + 1, j, i, hw, hj => by
    simp only [waitsT, Bool.or_eq_true, List.any_eq_true, Bool.and_eq_true] at hw
    rcases hw with hw | ⟨k, _, h1, h2⟩
    · exact waits_ready hw hj
    · exact waitsT_listed hc f k i h2 (waits_ready h1 hj)
theorem listed_not {listed : Array Bool} {i : Nat} (hl : listed.getD i false = true) (hun : listed.getD i true = false) : False := by
  rcases Nat.lt_or_ge i listed.size with h' | h'
  · simp [h'] at hun hl; rw [hun] at hl; cases hl
  · simp [Array.getElem?_eq_none h'] at hl
theorem shut.set {listed : Array Bool} {i : Nat} (hc : shut ops listed) (hi : i ∈ Region.ready .any ops listed) : shut ops (listed.setIfInBounds i true) := by
  intro j k hw hl
  by_cases hij : i = j
  · subst hij; exact getD_set_true (waits_ready hw hi)
  · rw [getD_set_ne false hij] at hl
    exact getD_set_true (hc j k hw hl)

/-- An operation that leaves the world alone may be taken first. -/
theorem anyX_first {i : Nat} {oi : Oper} {v : Value} (hi : ops[i]? = some oi) (hB : ∀ j ∈ B, waitsT ops 6 j i = true) (hiB : i ∉ B) (hs : Region.noSelect ops = true) :
    ∀ (f : Nat) (listed : Array Bool) (a : Act) (w : World), shut ops listed →
      (∀ j oj, ops[j]? = some oj → j ≠ i → listed.getD j true = false → (∀ e ∈ oj.after, Region.binds .any e = true → e.on ≠ i) → oi.apart ops oj = true) →
      i ∈ Region.ready .any ops listed → YieldsIf P ops S oi v a → S w → anyX P ops R S B f (listed.setIfInBounds i true) (a.put oi.dst v) w → anyX P ops R S B (f + 1) listed a w := by
  intro f
  induction f with
  | zero =>
    intro listed a w _ _ hr hy hS K
    refine ⟨fun e => absurd hr (by rw [e]; simp), fun j hj => ?_⟩
    by_cases hji : j = i
    · subst hji; exact yields_op hi hy hS ⟨fun _ => hS, K⟩
    · exact absurd (ready_mono hj hji) (by rw [K.1]; simp)
  | succ f ih =>
    intro listed a w hc hfree hr hy hS K
    refine ⟨fun e => absurd hr (by rw [e]; simp), fun j hj => ?_⟩
    by_cases hji : j = i
    · subst hji; exact yields_op hi hy hS ⟨fun _ => hS, K⟩
    · have h1 := K.2 j (ready_mono hj hji)
      obtain ⟨hjun, oj, hoj, hall⟩ := mem_ready.1 hj
      have hun := (mem_ready.1 hr).1
      have hjB : j ∉ B := fun hm => listed_not (waitsT_ready hc 6 j i (hB j hm) hj) hun
      have hnot : ∀ e ∈ oj.after, Region.binds .any e = true → e.on ≠ i := fun e he hb heq => by
        have h5 := hall e he hb
        rw [heq] at h5
        exact listed_not h5 hun
      have h2 := wpO_putIf hoj (hfree j oj hoj hji hjun hnot) (fun cs b => Region.noSelect_spec hs i oi cs b hi) (fun cs b => Region.noSelect_spec hs j oj cs b hoj) hy h1
      have hfree' : ∀ k ok, ops[k]? = some ok → k ≠ i → (listed.setIfInBounds j true).getD k true = false → (∀ e ∈ ok.after, Region.binds .any e = true → e.on ≠ i) → oi.apart ops ok = true := by
        intro k ok hk hki hku hno
        refine hfree k ok hk hki ?_ hno
        by_cases hjk : j = k
        · rw [← hjk]; exact hjun
        · rwa [getD_set_ne true hjk] at hku
      refine wpOp_mono (fun a' w' h3 => ⟨fun _ => h3.2.1 hjB, ih (listed.setIfInBounds j true) a' w' (hc.set hj) hfree' (ready_mono hr (Ne.symm hji)) h3.1 (h3.2.1 hjB) ?_⟩) h2
      rw [Array.setIfInBounds_comm _ _ hji]
      exact h3.2.2

/-- One that does not look at the world at all may be taken first, though 'S' be lost meanwhile. -/
theorem anyX_easy {i : Nat} {oi : Oper} {v : Value} (hi : ops[i]? = some oi) (hiB : i ∈ B) (hs : Region.noSelect ops = true) :
    ∀ (f : Nat) (listed : Array Bool) (a : Act) (w : World), shut ops listed →
      (∀ j oj, ops[j]? = some oj → j ≠ i → listed.getD j true = false → (∀ e ∈ oj.after, Region.binds .any e = true → e.on ≠ i) → oi.apart ops oj = true) →
      i ∈ Region.ready .any ops listed → YieldsIf P ops (fun _ => True) oi v a → anyX P ops R S B f (listed.setIfInBounds i true) (a.put oi.dst v) w → anyX P ops R S B (f + 1) listed a w := by
  intro f
  induction f with
  | zero =>
    intro listed a w _ _ hr hy K
    refine ⟨fun e => absurd hr (by rw [e]; simp), fun j hj => ?_⟩
    by_cases hji : j = i
    · subst hji; exact yields_op hi hy trivial ⟨fun hn => absurd hiB hn, K⟩
    · exact absurd (ready_mono hj hji) (by rw [K.1]; simp)
  | succ f ih =>
    intro listed a w hc hfree hr hy K
    refine ⟨fun e => absurd hr (by rw [e]; simp), fun j hj => ?_⟩
    by_cases hji : j = i
    · subst hji; exact yields_op hi hy trivial ⟨fun hn => absurd hiB hn, K⟩
    · have h1 := K.2 j (ready_mono hj hji)
      obtain ⟨hjun, oj, hoj, hall⟩ := mem_ready.1 hj
      have hun := (mem_ready.1 hr).1
      have hnot : ∀ e ∈ oj.after, Region.binds .any e = true → e.on ≠ i := fun e he hb heq => by
        have h5 := hall e he hb
        rw [heq] at h5
        exact listed_not h5 hun
      have h2 := wpO_putIf hoj (hfree j oj hoj hji hjun hnot) (fun cs b => Region.noSelect_spec hs i oi cs b hi) (fun cs b => Region.noSelect_spec hs j oj cs b hoj) hy h1
      have hfree' : ∀ k ok, ops[k]? = some ok → k ≠ i → (listed.setIfInBounds j true).getD k true = false → (∀ e ∈ ok.after, Region.binds .any e = true → e.on ≠ i) → oi.apart ops ok = true := by
        intro k ok hk hki hku hno
        refine hfree k ok hk hki ?_ hno
        by_cases hjk : j = k
        · rw [← hjk]; exact hjun
        · rwa [getD_set_ne true hjk] at hku
      refine wpOp_mono (fun a' w' h3 => ⟨h3.2.1, ih (listed.setIfInBounds j true) a' w' (hc.set hj) hfree' (ready_mono hr (Ne.symm hji)) h3.1 ?_⟩) h2
      rw [Array.setIfInBounds_comm _ _ hji]
      exact h3.2.2
/-- It does not look at the world. -/
def easy (ops : Array Oper) (i : Nat) : Bool :=
  match ops[i]? with
  | some o => o.guard.isNone && (match o.op with | .move _ => true | .assign _ => true | .extract _ _ => true | _ => false)
  | none => false
theorem easy_op {i : Nat} {K : Act → World → Prop} {a : Act} {w : World} (he : easy ops i = true) (hh : wpOp P ops i K a w) : ∃ o v, ops[i]? = some o ∧ YieldsIf P ops (fun _ => True) o v a ∧ K (a.put o.dst v) w := by
  unfold easy at he
  unfold wpOp at hh
  cases ho : ops[i]? with
  | none => simp [ho] at he
  | some o =>
    simp only [ho, Bool.and_eq_true] at he hh
    have hwa : Region.wanted o (yielded ops a.tmps) = true := by
      cases hg : o.guard with
      | none => simp [Region.wanted, hg]
      | some _ => rw [hg] at he; simp at he
    rw [if_pos hwa] at hh
    have key : ∀ v, (∀ w', (execOp a.eval o).run P w' = .ok (.value v) w') → ∃ o' v, some o = some o' ∧ YieldsIf P ops (fun _ => True) o' v a ∧ K (a.put o'.dst v) w := fun v hv => by
      unfold opw at hh
      rw [hv w] at hh
      exact ⟨o, v, rfl, .inl ⟨hwa, fun w' _ => hv w'⟩, hh⟩
    cases hop : o.op <;> simp only [hop] at he <;> try (first | (exact absurd he.2 (by decide)) | (exact he.2.elim) | (exact absurd he.2 Bool.false_ne_true))
    case move x => exact key (a.eval x) fun w' => by simp [execOp, hop]
    case assign x => exact key (a.eval x) fun w' => by simp [execOp, hop]
    case extract x k =>
      cases hv : a.eval x with
      | tuple vs =>
        cases hk : vs[k]? with
        | some v => exact key v fun w' => by simp [execOp, hop, Instr.extract, hv, hk]
        | none =>
          exfalso
          have : (execOp a.eval o).run P w = (stuck "Extract: no such component" : Sem Next).run P w := by simp [execOp, hop, Instr.extract, hv, hk]
          unfold opw at hh
          rw [this] at hh
          exact hh
      | _ =>
        exfalso
        have : (execOp a.eval o).run P w = (stuck "Extract: tuple expected" : Sem Next).run P w := by simp [execOp, hop, Instr.extract, hv]
        unfold opw at hh
        rw [this] at hh
        exact hh

/-- The order in which the operations are walked: 'true': taken first; 'false': the only one that may come up. -/
def planOK (ops : Array Oper) (B : List Nat) : List (Nat × Bool) → Array Bool → Bool
  | [], listed => (Region.ready .any ops listed).isEmpty
  | (i, true) :: r, listed => (Region.ready .any ops listed).contains i && Region.free .any ops listed i && B.all (fun j => waitsT ops 6 j i && !Nat.beq i j) && planOK ops B r (listed.setIfInBounds i true)
  | (i, false) :: r, listed => decide (Region.ready .any ops listed = [i]) && planOK ops B r (listed.setIfInBounds i true)
def wpPl (P : Program) (ops : Array Oper) (R : Act → World → Prop) (S : World → Prop) (B : List Nat) : List (Nat × Bool) → Act → World → Prop
  | [], a, w => R a w
  | (i, true) :: r, a, w => S w ∧ ∃ o v, ops[i]? = some o ∧ YieldsIf P ops S o v a ∧ wpPl P ops R S B r (a.put o.dst v) w
  | (i, false) :: r, a, w => wpOp P ops i (fun a' w' => (i ∉ B → S w') ∧ wpPl P ops R S B r a' w') a w
theorem plan_sound (hs : Region.noSelect ops = true) : ∀ (pl : List (Nat × Bool)) (listed : Array Bool) (a : Act) (w : World), shut ops listed → planOK ops B pl listed = true → wpPl P ops R S B pl a w → anyX P ops R S B pl.length listed a w
  | [], listed, a, w, _, hp, hh => ⟨by simpa [planOK] using hp, hh⟩
  | (i, true) :: r, listed, a, w, hc, hp, ⟨hS, o, v, ho, hy, hh⟩ => by
    simp only [planOK, Bool.and_eq_true] at hp
    obtain ⟨⟨⟨h1, h2⟩, h3⟩, h4⟩ := hp
    have hB : ∀ j ∈ B, waitsT ops 6 j i = true ∧ i ≠ j := fun j hj => by
      have := List.all_eq_true.1 h3 j hj
      simp only [Bool.and_eq_true, Bool.not_eq_true'] at this
      exact ⟨this.1, Nat.ne_of_beq_eq_false this.2⟩
    have hr1 : i ∈ Region.ready .any ops listed := by simpa using h1
    exact anyX_first ho (fun j hj => (hB j hj).1) (fun hm => (hB i hm).2 rfl) hs _ _ _ _ hc (Region.free_spec ho h2) hr1 hy hS (plan_sound hs r _ _ _ (hc.set hr1) h4 hh)
  | (i, false) :: r, listed, a, w, hc, hp, hh => by
    simp only [planOK, Bool.and_eq_true, decide_eq_true_eq] at hp
    refine ⟨fun e => (by rw [hp.1] at e; cases e), fun j hj => ?_⟩
    rw [hp.1] at hj
    have : j = i := by simpa using hj
    subst this
    exact wpOp_mono (fun a' w' hk => ⟨hk.1, plan_sound hs r _ _ _ (hc.set (by rw [hp.1]; simp)) hp.2 hk.2⟩) hh

theorem getD_repl (m j : Nat) : (Array.replicate m false).getD j false = false := by
  rcases Nat.lt_or_ge j m with hh | hh <;> simp [hh]
theorem wp_plan {id : Nat} {l : List Oper} {Q : Exit → Act → World → Prop} {a : Act} {w : World} {pl : List (Nat × Bool)} (hm : P.follows .mixedOrders = true) (hs : Region.noSelect l.toArray = true) (hp : planOK l.toArray B pl (Array.replicate l.length false) = true)
    (hn : Nat.beq pl.length l.length = true) (hh : wpPl P l.toArray (Q .normal) S B pl a { w with drawn := w.drawn + 1 }) : cw ρ P (Code.region id l.toArray true) Q a w := by
  refine cw_mono (Q := Qn (Q .normal)) (wpIn_region_any hm ?_) (fun e a w ⟨e1, e2⟩ => by subst e1; exact e2)
  have := any_of_X (ρ := ρ) _ _ _ _ (plan_sound (P := P) (R := Q .normal) (S := S) hs pl (Array.replicate l.length false) a _ (fun j i _ hl => by rw [getD_repl] at hl; cases hl) hp hh)
  rw [Nat.eq_of_beq_eq_true hn] at this
  simpa using this
end

/-! ### In the logic -/
inductive OKp (P : Program) (C : Ctx) (ops : Array Oper) (o : Oper) (L : En) (H : List HE) (h : PH) : List (Bool × Bool) → Value → Prop
  | plain {v : Value} (hg : o.guard = none) (hv : OP P C o L H h v) : OKp P C ops o L H h [] v
  | guarded {s : Nat} {want : Bool} {g0 : List (Bool × Bool)} {c : Bool} {v : Value} (hg : gslot ops o.guard = some (s, want)) (hs : look L s = some (g0, .bool c))
      (hv : Sat ((c, want) :: g0) → OP P C o L H h v) : OKp P C ops o L H h ((c, want) :: g0) v
section
variable {ρ : Option Nat} {P : Program} {C : Ctx} {N : Fr} {L : En} {H H0 : List HE} {h h0 : PH} {ops : Array Oper} {o : Oper} {Q : Exit → Act → World → Prop} {R : Act → World → Prop} {B : List Nat} {r : List (Nat × Bool)}

/-- 'H' is 'H0' with more in front. -/
inductive More : List HE → List HE → Prop
  | same {H : List HE} : More H H
  | one {e : HE} {H H' : List HE} (hh : More H H') : More H (e :: H')
theorem More.ex {H H' : List HE} (hm : More H H') : ∃ Hx, H' = Hx ++ H := by
  induction hm with
  | same => exact ⟨[], rfl⟩
  | one _ ih => obtain ⟨Hx, rfl⟩ := ih; exact ⟨_ :: Hx, rfl⟩
theorem SS.more {w : World} (hm : More H0 H) (hl : h0.le h) (hw : Inv C H h w) : SS C H0 h0 w := by
  obtain ⟨Hx, rfl⟩ := hm.ex
  exact ⟨Hx, h, hl, hw⟩
theorem hd_plan {id : Nat} {l : List Oper} (B : List Nat) (pl : List (Nat × Bool)) (hm : P.follows .mixedOrders = true) (hs : Region.noSelect l.toArray = true) (hp : planOK l.toArray B pl (Array.replicate l.length false) = true)
    (hn : Nat.beq pl.length l.length = true) (hx : Hd C N L H h (wpPl P l.toArray (Q .normal) (SS C H h) B pl)) : Hd C N L H h (cw ρ P (Code.region id l.toArray true) Q) :=
  ⟨fun a _ ha hw => wp_plan hm hs hp hn (hx.all a _ ha hw.drawn)⟩
theorem is_pl {S : World → Prop} {pl : List (Nat × Bool)} (hx : Hd C N L H h (wpPl P ops R S B pl)) : Hd C N L H h (wpPl P ops R S B pl) := hx
theorem is_on {R' : Act → World → Prop} (hx : Hd C N L H h (wpList P ops (Qn R') [])) : Hd C N L H h (wpList P ops (Qn R') []) := hx
theorem hd_pl_nil (hx : Hd C N L H h R) : Hd C N L H h (wpPl P ops R (SS C H0 h0) B []) := ⟨fun a w ha hw => hx.all a w ha hw⟩
theorem hd_pl_pure {i d : Nat} {g : List (Bool × Bool)} {v : Value} (ho : ops[i]? = some o) (hmo : More H0 H) (hl : h0.le h) (hok : OKp P C ops o L H0 h0 g v) (hd : o.dst = some d) (hN : Nat.blt d N.n = true)
    (next : Hd C N ((d, g, v) :: L) H h (wpPl P ops R (SS C H0 h0) B r)) : Hd C N L H h (wpPl P ops R (SS C H0 h0) B ((i, true) :: r)) := by
  refine ⟨fun a w ha hw => ?_⟩
  have hN' : d < N.n := by simpa using hN
  have hev : ∀ x ∈ o.op.operands, ∀ u, Ev L x u → a.eval x = u := fun x _ u hu => hu.eval ha
  refine ⟨SS.more hmo hl hw, o, G g v, ho, ?_, ?_⟩
  · cases hok with
    | plain hg hv => exact .inl ⟨by simp [Region.wanted, hg], fun w' hw' => by rw [hv.run a.eval w' hev hw']; simp [G, satB]⟩
    | guarded hg hs hv =>
      rename_i s want g0 c
      by_cases hsat : Sat ((c, want) :: g0)
      · exact .inl ⟨by rw [wanted_of ha hg hs]; exact (sat_iff _).1 hsat, fun w' hw' => by rw [(hv hsat).run a.eval w' hev hw', G_sat hsat]⟩
      · refine .inr ⟨?_, G_not hsat⟩
        rw [wanted_of ha hg hs]
        cases e : satB ((c, want) :: g0) with
        | false => rfl
        | true => exact absurd ((sat_iff _).2 e) hsat
  · refine next.all _ _ ?_ hw
    rw [hd]
    exact ha.put hN'
theorem hd_pl_op {i : Nat} (ho : ops[i]? = some o) (hx : Hd C N L H h (wpList P ops (Qn fun a' w' => (i ∉ B → SS C H0 h0 w') ∧ wpPl P ops R (SS C H0 h0) B r a' w') [o])) : Hd C N L H h (wpPl P ops R (SS C H0 h0) B ((i, false) :: r)) := by
  refine ⟨fun a w ha hw => ?_⟩
  have := hx.all a w ha hw
  simp only [wpPl, wpOp, ho]
  simp only [wpList] at this
  split
  · rename_i hwa
    rw [if_pos hwa] at this
    exact opw_mono (fun a' w' hk => hk.2) this
  · rename_i hwa
    rw [if_neg hwa] at this
    exact this.2
theorem hd_pl_on {i : Nat} (hmo : More H0 H) (hl : h0.le h) (hx : Hd C N L H h (wpPl P ops R (SS C H0 h0) B r)) : Hd C N L H h (wpList P ops (Qn fun a' w' => (i ∉ B → SS C H0 h0 w') ∧ wpPl P ops R (SS C H0 h0) B r a' w') []) :=
  ⟨fun a w ha hw => ⟨rfl, fun _ => SS.more hmo hl hw, hx.all a w ha hw⟩⟩
theorem hd_pl_bar {i : Nat} (hm : i ∈ B) (hx : Hd C N L H h (wpPl P ops R (SS C H0 h0) B r)) : Hd C N L H h (wpList P ops (Qn fun a' w' => (i ∉ B → SS C H0 h0 w') ∧ wpPl P ops R (SS C H0 h0) B r a' w') []) :=
  ⟨fun a w ha hw => ⟨rfl, fun hn => absurd hm hn, hx.all a w ha hw⟩⟩
end
end Go.GV
