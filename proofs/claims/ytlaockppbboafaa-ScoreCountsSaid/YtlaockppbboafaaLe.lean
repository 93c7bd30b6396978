/- A small logic over the kit's weakest preconditions, part 5. -/
import Derived.Test.YtlaockppbboafaaLd
set_option linter.unusedVariables false
set_option linter.unusedSimpArgs false
section
/- Plans that are trees of orders, with up to four operations ready side by side; over the small logic of GvA to GvAM. -/
namespace Go.GV
open Go
inductive PU where
  | nil
  | pre (i : Nat) (r : PU)
  | one (i : Nat) (r : PU)
  | alt2 (i : Nat) (r : PU) (j : Nat) (s : PU)
  | alt3 (i : Nat) (r : PU) (j : Nat) (s : PU) (k : Nat) (t : PU)
  | alt4 (i : Nat) (r : PU) (j : Nat) (s : PU) (k : Nat) (t : PU) (q : Nat) (u : PU)
def puT (T : List Row3) (B : List Nat) : PU → Nat → Nat → Bool
  | .nil, 0, m => (readyT T m).isEmpty
  | .pre i r, n + 1, m => (readyT T m).contains i && freeT T m i && B.all (fun j => waitsTT T 6 j i && !Nat.beq i j) && puT T B r n (m ||| (1 <<< i))
  | .one i r, n + 1, m => decide (readyT T m = [i]) && puT T B r n (m ||| (1 <<< i))
  | .alt2 i r j s, n + 1, m => decide (readyT T m = [i, j]) && puT T B r n (m ||| (1 <<< i)) && puT T B s n (m ||| (1 <<< j))
  | .alt3 i r j s k t, n + 1, m => decide (readyT T m = [i, j, k]) && puT T B r n (m ||| (1 <<< i)) && puT T B s n (m ||| (1 <<< j)) && puT T B t n (m ||| (1 <<< k))
  | .alt4 i r j s k t q u, n + 1, m => decide (readyT T m = [i, j, k, q]) && puT T B r n (m ||| (1 <<< i)) && puT T B s n (m ||| (1 <<< j)) && puT T B t n (m ||| (1 <<< k)) && puT T B u n (m ||| (1 <<< q))
  | _, _, _ => false
def wpPU (P : Program) (ops : Array Oper) (R : Act → World → Prop) (B : List Nat) : PU → (World → Prop) → Act → World → Prop
  | .nil, _, a, w => R a w
  | .pre i r, S, a, w => S w ∧ ∃ o v, ops[i]? = some o ∧ YieldsIf P ops S o v a ∧ wpPU P ops R B r S (a.put o.dst v) w
  | .one i r, S, a, w => wpOp P ops i (ptK B i S (wpPU P ops R B r)) a w
  | .alt2 i r j s, S, a, w => wpOp P ops i (ptK B i S (wpPU P ops R B r)) a w ∧ wpOp P ops j (ptK B j S (wpPU P ops R B s)) a w
  | .alt3 i r j s k t, S, a, w => wpOp P ops i (ptK B i S (wpPU P ops R B r)) a w ∧ wpOp P ops j (ptK B j S (wpPU P ops R B s)) a w ∧ wpOp P ops k (ptK B k S (wpPU P ops R B t)) a w
  | .alt4 i r j s k t q u, S, a, w => wpOp P ops i (ptK B i S (wpPU P ops R B r)) a w ∧ wpOp P ops j (ptK B j S (wpPU P ops R B s)) a w ∧ wpOp P ops k (ptK B k S (wpPU P ops R B t)) a w ∧ wpOp P ops q (ptK B q S (wpPU P ops R B u)) a w
section
variable {ρ : Option Nat} {P : Program} {R : Act → World → Prop} {B : List Nat} {l : List Oper}
theorem pu_sound (hs : Region.noSelect l.toArray = true) : ∀ (pt : PU) (n : Nat) (S : World → Prop) (listed : Array Bool) (m : Nat) (a : Act) (w : World), Same l.length listed m → shut l.toArray listed → puT (tableOf l) B pt n m = true → wpPU P l.toArray R B pt S a w → anyX P l.toArray R S B n listed a w
  | .nil, n, S, listed, m, a, w, hsm, hc, hp, hh => by
    match n, hp with
    | 0, hp =>
      simp only [puT] at hp
      refine ⟨?_, hh⟩
      rw [ready_eq hsm]; simpa using hp
  | .pre i r, n, S, listed, m, a, w, hsm, hc, hp, hh => by
    match n, hp with
    | n + 1, hp =>
      obtain ⟨hS, o, v, ho, hy, hh⟩ := hh
      simp only [puT, Bool.and_eq_true] at hp
      obtain ⟨⟨⟨h1, h2⟩, h3⟩, h4⟩ := hp
      have hB : ∀ j ∈ B, waitsT l.toArray 6 j i = true ∧ i ≠ j := fun j hj => by
        have := List.all_eq_true.1 h3 j hj
        simp only [Bool.and_eq_true, Bool.not_eq_true'] at this
        exact ⟨by rw [waitsT_eq]; exact this.1, Nat.ne_of_beq_eq_false this.2⟩
      have hr0 : i ∈ readyT (tableOf l) m := by simpa using h1
      have hr1 : i ∈ Region.ready .any l.toArray listed := by rw [ready_eq hsm]; exact hr0
      have hfr : Region.free .any l.toArray listed i = true := by rw [free_eq hsm]; exact h2
      exact anyX_first ho (fun j hj => (hB j hj).1) (fun hm => (hB i hm).2 rfl) hs _ _ _ _ hc (Region.free_spec ho hfr) hr1 hy hS (pu_sound hs r n _ _ _ _ _ (hsm.set (ready_lt hr0)) (hc.set hr1) h4 hh)
  | .one i r, n, S, listed, m, a, w, hsm, hc, hp, hh => by
    match n, hp with
    | n + 1, hp =>
      simp only [puT, Bool.and_eq_true, decide_eq_true_eq] at hp
      have hrd := hp.1
      rw [← ready_eq hsm] at hrd
      refine ⟨fun e => (by rw [hrd] at e; cases e), fun j hj => ?_⟩
      have hj2 := hj
      rw [hrd] at hj2
      have : j = i := by simpa using hj2
      subst this
      refine wpOp_mono (fun a' w' hk => ⟨hk.1, ?_⟩) hh
      obtain ⟨S', hS', hk2⟩ := hk.2
      have hlt : j < l.length := ready_lt (by rw [hp.1]; simp)
      exact anyX_mono hS' _ _ _ _ (pu_sound hs r n _ _ _ _ _ (hsm.set hlt) (hc.set hj) hp.2 hk2)
  | .alt2 i r j s, n, S, listed, m, a, w, hsm, hc, hp, hh => by
    match n, hp with
    | n + 1, hp =>
      simp only [puT, Bool.and_eq_true, decide_eq_true_eq] at hp
      have hrd := hp.1.1
      rw [← ready_eq hsm] at hrd
      refine ⟨fun e => (by rw [hrd] at e; cases e), fun q hq => ?_⟩
      have hq2 := hq
      rw [hrd] at hq2
      have hlt : q < l.length := ready_lt (by rw [hp.1.1, ← hrd]; exact hq)
      simp only [List.mem_cons, List.not_mem_nil, or_false] at hq2
      rcases hq2 with rfl | rfl
      · refine wpOp_mono (fun a' w' hk => ⟨hk.1, ?_⟩) hh.1
        obtain ⟨S', hS', hk2⟩ := hk.2
        exact anyX_mono hS' _ _ _ _ (pu_sound hs r n _ _ _ _ _ (hsm.set hlt) (hc.set hq) hp.1.2 hk2)
      · refine wpOp_mono (fun a' w' hk => ⟨hk.1, ?_⟩) hh.2
        obtain ⟨S', hS', hk2⟩ := hk.2
        exact anyX_mono hS' _ _ _ _ (pu_sound hs s n _ _ _ _ _ (hsm.set hlt) (hc.set hq) hp.2 hk2)
  | .alt3 i r j s k t, n, S, listed, m, a, w, hsm, hc, hp, hh => by
    match n, hp with
    | n + 1, hp =>
      simp only [puT, Bool.and_eq_true, decide_eq_true_eq] at hp
      have hrd := hp.1.1.1
      rw [← ready_eq hsm] at hrd
      refine ⟨fun e => (by rw [hrd] at e; cases e), fun q hq => ?_⟩
      have hq2 := hq
      rw [hrd] at hq2
      have hlt : q < l.length := ready_lt (by rw [hp.1.1.1, ← hrd]; exact hq)
      simp only [List.mem_cons, List.not_mem_nil, or_false] at hq2
      rcases hq2 with rfl | rfl | rfl
      · refine wpOp_mono (fun a' w' hk => ⟨hk.1, ?_⟩) hh.1
        obtain ⟨S', hS', hk2⟩ := hk.2
        exact anyX_mono hS' _ _ _ _ (pu_sound hs r n _ _ _ _ _ (hsm.set hlt) (hc.set hq) hp.1.1.2 hk2)
      · refine wpOp_mono (fun a' w' hk => ⟨hk.1, ?_⟩) hh.2.1
        obtain ⟨S', hS', hk2⟩ := hk.2
        exact anyX_mono hS' _ _ _ _ (pu_sound hs s n _ _ _ _ _ (hsm.set hlt) (hc.set hq) hp.1.2 hk2)
      · refine wpOp_mono (fun a' w' hk => ⟨hk.1, ?_⟩) hh.2.2
        obtain ⟨S', hS', hk2⟩ := hk.2
        exact anyX_mono hS' _ _ _ _ (pu_sound hs t n _ _ _ _ _ (hsm.set hlt) (hc.set hq) hp.2 hk2)
  | .alt4 i r j s k t y u, n, S, listed, m, a, w, hsm, hc, hp, hh => by
    match n, hp with
    | n + 1, hp =>
      simp only [puT, Bool.and_eq_true, decide_eq_true_eq] at hp
      have hrd := hp.1.1.1.1
      rw [← ready_eq hsm] at hrd
      refine ⟨fun e => (by rw [hrd] at e; cases e), fun q hq => ?_⟩
      have hq2 := hq
      rw [hrd] at hq2
      have hlt : q < l.length := ready_lt (by rw [hp.1.1.1.1, ← hrd]; exact hq)
      simp only [List.mem_cons, List.not_mem_nil, or_false] at hq2
      rcases hq2 with rfl | rfl | rfl | rfl
      · refine wpOp_mono (fun a' w' hk => ⟨hk.1, ?_⟩) hh.1
        obtain ⟨S', hS', hk2⟩ := hk.2
        exact anyX_mono hS' _ _ _ _ (pu_sound hs r n _ _ _ _ _ (hsm.set hlt) (hc.set hq) hp.1.1.1.2 hk2)
      · refine wpOp_mono (fun a' w' hk => ⟨hk.1, ?_⟩) hh.2.1
        obtain ⟨S', hS', hk2⟩ := hk.2
        exact anyX_mono hS' _ _ _ _ (pu_sound hs s n _ _ _ _ _ (hsm.set hlt) (hc.set hq) hp.1.1.2 hk2)
      · refine wpOp_mono (fun a' w' hk => ⟨hk.1, ?_⟩) hh.2.2.1
        obtain ⟨S', hS', hk2⟩ := hk.2
        exact anyX_mono hS' _ _ _ _ (pu_sound hs t n _ _ _ _ _ (hsm.set hlt) (hc.set hq) hp.1.2 hk2)
      · refine wpOp_mono (fun a' w' hk => ⟨hk.1, ?_⟩) hh.2.2.2
        obtain ⟨S', hS', hk2⟩ := hk.2
        exact anyX_mono hS' _ _ _ _ (pu_sound hs u n _ _ _ _ _ (hsm.set hlt) (hc.set hq) hp.2 hk2)
end
section
variable {ρ : Option Nat} {P : Program} {C : Ctx} {N : Fr} {L : En} {H H0 : List HE} {h h0 : PH} {ops : Array Oper} {o : Oper} {Q : Exit → Act → World → Prop} {R : Act → World → Prop} {B : List Nat} {S : World → Prop}
theorem hd_treeU {id : Nat} {l : List Oper} (T : List Row3) (B : List Nat) (pt : PU) (hm : P.follows .mixedOrders = true) (hs : Region.noSelect l.toArray = true) (hT : tableOf l = T) (hp : puT T B pt l.length 0 = true)
    (hx : Hd C N L H h (wpPU P l.toArray (Q .normal) B pt (SS C H h))) : Hd C N L H h (cw ρ P (Code.region id l.toArray true) Q) := by
  refine ⟨fun a w ha hw => ?_⟩
  refine cw_mono (Q := Qn (Q .normal)) (wpIn_region_any hm ?_) (fun e a w ⟨e1, e2⟩ => by subst e1; exact e2)
  subst hT
  have := any_of_X (ρ := ρ) _ _ _ _ (pu_sound (P := P) (R := Q .normal) (B := B) hs pt l.length (SS C H h) (Array.replicate l.length false) 0 a { w with drawn := w.drawn + 1 } (Same.zero _) (fun j i _ hl => by rw [getD_repl] at hl; cases hl) hp (hx.all a _ ha hw.drawn))
  simpa using this
theorem hd_pu_nil (hx : Hd C N L H h R) : Hd C N L H h (wpPU P ops R B .nil S) := ⟨fun a w ha hw => hx.all a w ha hw⟩
theorem hd_pu_one {i : Nat} {r : PU} (ho : ops[i]? = some o) (hx : Hd C N L H h (wpList P ops (Qn (ptK B i S (wpPU P ops R B r))) [o])) : Hd C N L H h (wpPU P ops R B (.one i r) S) :=
  ⟨fun a w ha hw => (opw_ofList ho hx).all a w ha hw⟩
theorem hd_pu_alt2 {i j : Nat} {r s : PU} {o' : Oper} (ho : ops[i]? = some o) (ho' : ops[j]? = some o') (hx : Hd C N L H h (wpList P ops (Qn (ptK B i S (wpPU P ops R B r))) [o])) (hy : Hd C N L H h (wpList P ops (Qn (ptK B j S (wpPU P ops R B s))) [o'])) : Hd C N L H h (wpPU P ops R B (.alt2 i r j s) S) :=
  ⟨fun a w ha hw => ⟨(opw_ofList ho hx).all a w ha hw, (opw_ofList ho' hy).all a w ha hw⟩⟩
theorem hd_pu_alt3 {i j k : Nat} {r s t : PU} {o' o'' : Oper} (ho : ops[i]? = some o) (ho' : ops[j]? = some o') (ho'' : ops[k]? = some o'') (hx : Hd C N L H h (wpList P ops (Qn (ptK B i S (wpPU P ops R B r))) [o])) (hy : Hd C N L H h (wpList P ops (Qn (ptK B j S (wpPU P ops R B s))) [o'])) (hz : Hd C N L H h (wpList P ops (Qn (ptK B k S (wpPU P ops R B t))) [o''])) : Hd C N L H h (wpPU P ops R B (.alt3 i r j s k t) S) :=
  ⟨fun a w ha hw => ⟨(opw_ofList ho hx).all a w ha hw, (opw_ofList ho' hy).all a w ha hw, (opw_ofList ho'' hz).all a w ha hw⟩⟩
theorem hd_pu_alt4 {i j k q : Nat} {r s t u : PU} {o' o'' o3 : Oper} (ho : ops[i]? = some o) (ho' : ops[j]? = some o') (ho'' : ops[k]? = some o'') (ho3 : ops[q]? = some o3) (hx : Hd C N L H h (wpList P ops (Qn (ptK B i S (wpPU P ops R B r))) [o])) (hy : Hd C N L H h (wpList P ops (Qn (ptK B j S (wpPU P ops R B s))) [o'])) (hz : Hd C N L H h (wpList P ops (Qn (ptK B k S (wpPU P ops R B t))) [o''])) (hu : Hd C N L H h (wpList P ops (Qn (ptK B q S (wpPU P ops R B u))) [o3])) : Hd C N L H h (wpPU P ops R B (.alt4 i r j s k t q u) S) :=
  ⟨fun a w ha hw => ⟨(opw_ofList ho hx).all a w ha hw, (opw_ofList ho' hy).all a w ha hw, (opw_ofList ho'' hz).all a w ha hw, (opw_ofList ho3 hu).all a w ha hw⟩⟩
theorem hd_pu_go {i : Nat} {r : PU} (hmo : More H0 H) (hl : h0.le h) (hx : Hd C N L H h (wpPU P ops R B r (SS C H0 h))) : Hd C N L H h (wpList P ops (Qn (ptK B i (SS C H0 h0) (wpPU P ops R B r))) []) :=
  ⟨fun a w ha hw => ⟨rfl, fun _ => SS.more hmo hl hw, SS C H0 h, fun _ hw => hw.less .same hl, hx.all a w ha hw⟩⟩
theorem hd_pu_run {i d : Nat} {r : PU} {g : List (Bool × Bool)} {v : Value} (ho : ops[i]? = some o) (hmo : More H0 H) (hok : OKp P C ops o L H0 h g v) (hd : o.dst = some d) (hN : Nat.blt d N.n = true)
    (next : Hd C N ((d, g, v) :: L) H h (wpPU P ops R B r (SS C H0 h))) : Hd C N L H h (wpPU P ops R B (.pre i r) (SS C H0 h)) := by
  refine ⟨fun a w ha hw => ?_⟩
  have hN' : d < N.n := by simpa using hN
  have hev : ∀ x ∈ o.op.operands, ∀ u, Ev L x u → a.eval x = u := fun x _ u hu => hu.eval ha
  refine ⟨SS.more hmo (PH.le_refl _) hw, o, G g v, ho, ?_, ?_⟩
  · cases hok with
    | plain hg hv => exact .inl ⟨by simp [Region.wanted, hg], fun w' hw' => by rw [hv.run a.eval w' hev hw']; simp [G, satB]⟩
    | guarded hg hs hv =>
      rename_i s want g0 c
      by_cases hsat : Sat ((c, want) :: g0)
      · exact .inl ⟨by rw [wanted_of ha hg hs]; exact (sat_iff _).1 hsat, fun w' hw' => by rw [(hv hsat).run a.eval w' hev hw', G_sat hsat]⟩
      · refine .inr ⟨?_, G_not hsat⟩
        rw [wanted_of ha hg hs]
        cases e : satB ((c, want) :: g0) with
        | false => rfl
        | true => exact absurd ((sat_iff _).2 e) hsat
  · refine next.all _ _ ?_ hw
    rw [hd]
    exact ha.put hN'
theorem hd_puA {r : PU} {i d : Nat} {g : List (Bool × Bool)} {v : Value} (next : Hd C N ((d, g, v) :: L) H h (wpPU P ops R B r (SS C H0 h))) (ho : ops[i]? = some o := by rfl) (hmo : More H0 H := by ((repeat (first | exact More.same | apply More.one)); done)) (hok : OKp P C ops o L H0 h g v := by (first | (apply OKp.plain; (focus rfl)) | (apply OKp.guarded; (focus rfl); (focus rfl); (intro hg))); exact opA) (hd : o.dst = some d := by rfl) (hN : Nat.blt d N.n = true := by rfl) :
    Hd C N L H h (wpPU P ops R B (.pre i r) (SS C H0 h)) := hd_pu_run ho hmo hok hd hN next
theorem pu_goA {i : Nat} {r : PU} (hx : Hd C N L H h (wpPU P ops R B r (SS C H0 h))) (hmo : More H0 H := by exact aM) (hl : h0.le h := by exact aL) : Hd C N L H h (wpList P ops (Qn (ptK B i (SS C H0 h0) (wpPU P ops R B r))) []) := hd_pu_go hmo hl hx
theorem is_tu {pu : PU} (hx : Hd C N L H h (wpPU P ops R B pu S)) : Hd C N L H h (wpPU P ops R B pu S) := hx
end
end Go.GV

end
