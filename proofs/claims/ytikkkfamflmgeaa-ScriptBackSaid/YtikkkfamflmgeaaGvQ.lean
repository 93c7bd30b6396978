/- Drawn orders once more: what is known of the world grows with each operation that must come alone; over the small logic of GvA to GvP. -/
import Derived.Test.YtikkkfamflmgeaaGvP
namespace Go.GV
open Go
section
variable {ρ : Option Nat} {P : Program} {ops : Array Oper} {R : Act → World → Prop} {B : List Nat}
theorem anyX_mono {S S' : World → Prop} (hS : ∀ w, S' w → S w) : ∀ (f : Nat) (listed : Array Bool) (a : Act) (w : World), anyX P ops R S' B f listed a w → anyX P ops R S B f listed a w
  | 0, _, _, _, hh => hh
  | f + 1, _, _, _, hh => ⟨hh.1, fun i hi => wpOp_mono (fun a' w' h' => ⟨fun hn => hS w' (h'.1 hn), anyX_mono hS f _ a' w' h'.2⟩) (hh.2 i hi)⟩
def wpPm (P : Program) (ops : Array Oper) (R : Act → World → Prop) (B : List Nat) : List (Nat × Bool) → (World → Prop) → Act → World → Prop
  | [], _, a, w => R a w
  | (i, true) :: r, S, a, w => S w ∧ ∃ o v, ops[i]? = some o ∧ YieldsIf P ops S o v a ∧ wpPm P ops R B r S (a.put o.dst v) w
  | (i, false) :: r, S, a, w => wpOp P ops i (fun a' w' => (i ∉ B → S w') ∧ ∃ S', (∀ w, S' w → S w) ∧ wpPm P ops R B r S' a' w') a w
theorem planM_sound (hs : Region.noSelect ops = true) : ∀ (pl : List (Nat × Bool)) (S : World → Prop) (listed : Array Bool) (a : Act) (w : World), shut ops listed → planOK ops B pl listed = true → wpPm P ops R B pl S a w → anyX P ops R S B pl.length listed a w
  | [], S, listed, a, w, _, hp, hh => ⟨by simpa [planOK] using hp, hh⟩
  | (i, true) :: r, S, listed, a, w, hc, hp, ⟨hS, o, v, ho, hy, hh⟩ => by
    simp only [planOK, Bool.and_eq_true] at hp
    obtain ⟨⟨⟨h1, h2⟩, h3⟩, h4⟩ := hp
    have hB : ∀ j ∈ B, waitsT ops 6 j i = true ∧ i ≠ j := fun j hj => by
      have := List.all_eq_true.1 h3 j hj
      simp only [Bool.and_eq_true, Bool.not_eq_true'] at this
      exact ⟨this.1, Nat.ne_of_beq_eq_false this.2⟩
    have hr1 : i ∈ Region.ready .any ops listed := by simpa using h1
    exact anyX_first ho (fun j hj => (hB j hj).1) (fun hm => (hB i hm).2 rfl) hs _ _ _ _ hc (Region.free_spec ho h2) hr1 hy hS (planM_sound hs r _ _ _ _ (hc.set hr1) h4 hh)
  | (i, false) :: r, S, listed, a, w, hc, hp, hh => by
    simp only [planOK, Bool.and_eq_true, decide_eq_true_eq] at hp
    refine ⟨fun e => (by rw [hp.1] at e; cases e), fun j hj => ?_⟩
    rw [hp.1] at hj
    have : j = i := by simpa using hj
    subst this
    refine wpOp_mono (fun a' w' hk => ⟨hk.1, ?_⟩) hh
    obtain ⟨S', hS', hk2⟩ := hk.2
    exact anyX_mono hS' _ _ _ _ (planM_sound hs r _ _ _ _ (hc.set (by rw [hp.1]; simp)) hp.2 hk2)
theorem wp_planM {S : World → Prop} {id : Nat} {l : List Oper} {Q : Exit → Act → World → Prop} {a : Act} {w : World} {pl : List (Nat × Bool)} (hm : P.follows .mixedOrders = true) (hs : Region.noSelect l.toArray = true) (hp : planOK l.toArray B pl (Array.replicate l.length false) = true)
    (hn : Nat.beq pl.length l.length = true) (hh : wpPm P l.toArray (Q .normal) B pl S a { w with drawn := w.drawn + 1 }) : cw ρ P (Code.region id l.toArray true) Q a w := by
  refine cw_mono (Q := Qn (Q .normal)) (wpIn_region_any hm ?_) (fun e a w ⟨e1, e2⟩ => by subst e1; exact e2)
  have := any_of_X (ρ := ρ) _ _ _ _ (planM_sound (P := P) (R := Q .normal) hs pl S (Array.replicate l.length false) a _ (fun j i _ hl => by rw [getD_repl] at hl; cases hl) hp hh)
  rw [Nat.eq_of_beq_eq_true hn] at this
  simpa using this
end
section
variable {ρ : Option Nat} {P : Program} {C : Ctx} {N : Fr} {L : En} {H H0 : List HE} {h h0 : PH} {ops : Array Oper} {o : Oper} {Q : Exit → Act → World → Prop} {R : Act → World → Prop} {B : List Nat} {r : List (Nat × Bool)} {S : World → Prop}
theorem SS.less {w : World} (hm : More H0 H) (hl : h0.le h) (hw : SS C H h w) : SS C H0 h0 w := by
  obtain ⟨Hx, rfl⟩ := hm.ex
  obtain ⟨Hy, h', hl', hw⟩ := hw
  exact ⟨Hy ++ Hx, h', PH.le_trans hl hl', by rw [List.append_assoc]; exact hw⟩
theorem hd_planM {id : Nat} {l : List Oper} (B : List Nat) (pl : List (Nat × Bool)) (hm : P.follows .mixedOrders = true) (hs : Region.noSelect l.toArray = true) (hp : planOK l.toArray B pl (Array.replicate l.length false) = true)
    (hn : Nat.beq pl.length l.length = true) (hx : Hd C N L H h (wpPm P l.toArray (Q .normal) B pl (SS C H h))) : Hd C N L H h (cw ρ P (Code.region id l.toArray true) Q) :=
  ⟨fun a _ ha hw => wp_planM hm hs hp hn (hx.all a _ ha hw.drawn)⟩
theorem hd_pm_nil (hx : Hd C N L H h R) : Hd C N L H h (wpPm P ops R B [] S) := ⟨fun a w ha hw => hx.all a w ha hw⟩
theorem hd_pm_pure {i d : Nat} {g : List (Bool × Bool)} {v : Value} (ho : ops[i]? = some o) (hok : OKp P C ops o L H h g v) (hd : o.dst = some d) (hN : Nat.blt d N.n = true)
    (next : Hd C N ((d, g, v) :: L) H h (wpPm P ops R B r (SS C H h))) : Hd C N L H h (wpPm P ops R B ((i, true) :: r) (SS C H h)) := by
  refine ⟨fun a w ha hw => ?_⟩
  have hN' : d < N.n := by simpa using hN
  have hev : ∀ x ∈ o.op.operands, ∀ u, Ev L x u → a.eval x = u := fun x _ u hu => hu.eval ha
  refine ⟨SS.of hw, o, G g v, ho, ?_, ?_⟩
  · cases hok with
    | plain hg hv => exact .inl ⟨by simp [Region.wanted, hg], fun w' hw' => by rw [hv.run a.eval w' hev hw']; simp [G, satB]⟩
    | guarded hg hs hv =>
      rename_i s want g0 c
      by_cases hsat : Sat ((c, want) :: g0)
      · exact .inl ⟨by rw [wanted_of ha hg hs]; exact (sat_iff _).1 hsat, fun w' hw' => by rw [(hv hsat).run a.eval w' hev hw', G_sat hsat]⟩
      · refine .inr ⟨?_, G_not hsat⟩
        rw [wanted_of ha hg hs]
        cases e : satB ((c, want) :: g0) with
        | false => rfl
        | true => exact absurd ((sat_iff _).2 e) hsat
  · refine next.all _ _ ?_ hw
    rw [hd]
    exact ha.put hN'
theorem hd_pm_op {i : Nat} (ho : ops[i]? = some o) (hx : Hd C N L H h (wpList P ops (Qn fun a' w' => (i ∉ B → S w') ∧ ∃ S', (∀ w, S' w → S w) ∧ wpPm P ops R B r S' a' w') [o])) : Hd C N L H h (wpPm P ops R B ((i, false) :: r) S) := by
  refine ⟨fun a w ha hw => ?_⟩
  have := hx.all a w ha hw
  simp only [wpPm, wpOp, ho]
  simp only [wpList] at this
  split
  · rename_i hwa
    rw [if_pos hwa] at this
    exact opw_mono (fun a' w' hk => hk.2) this
  · rename_i hwa
    rw [if_neg hwa] at this
    exact this.2
theorem hd_pm_on {i : Nat} (hmo : More H0 H) (hl : h0.le h) (hx : Hd C N L H h (wpPm P ops R B r (SS C H h))) : Hd C N L H h (wpList P ops (Qn fun a' w' => (i ∉ B → SS C H0 h0 w') ∧ ∃ S', (∀ w, S' w → SS C H0 h0 w) ∧ wpPm P ops R B r S' a' w') []) :=
  ⟨fun a w ha hw => ⟨rfl, fun _ => SS.more hmo hl hw, SS C H h, fun _ hw => hw.less hmo hl, hx.all a w ha hw⟩⟩
theorem hd_pm_bar {i : Nat} (hm : i ∈ B) (hx : Hd C N L H h (wpPm P ops R B r S)) : Hd C N L H h (wpList P ops (Qn fun a' w' => (i ∉ B → S w') ∧ ∃ S', (∀ w, S' w → S w) ∧ wpPm P ops R B r S' a' w') []) :=
  ⟨fun a w ha hw => ⟨rfl, fun hn => absurd hm hn, S, fun _ hw => hw, hx.all a w ha hw⟩⟩
/-- Behind a bar the operations come alone: nothing is asked of the world any more. -/
theorem hd_pm_end {i : Nat} (hm : i ∈ B) (hx : Hd C N L H h (wpPm P ops R B r S)) : Hd C N L H h (wpList P ops (Qn fun a' w' => (i ∉ B → S w') ∧ ∃ S', (∀ w, S' w → S w) ∧ wpPm P ops R B r S' a' w') []) := hd_pm_bar hm hx
end
end Go.GV
