/- Drawn orders, with threads: rows of operations that go on side by side, each with memory of its own; over the small logic of GvA to GvS. -/
import Derived.Test.YtikkkfamflmgeaaGvS
namespace Go.GV
open Go

/-! ### One operation writes one slot -/
section
variable {ρ : Option Nat} {P : Program} {ops : Array Oper}
/-- Slots that operation i does not write. -/
def Away (ops : Array Oper) (i s : Nat) : Prop := ∀ o, ops[i]? = some o → o.dst ≠ some s
theorem put_away {a : Act} {d : Option Tmp} {v : Value} {s : Nat} (h : d ≠ some s) : (a.put d v).tmps[s]? = a.tmps[s]? := by
  cases d with
  | none => rfl
  | some d =>
    simp only [Act.put]
    rw [Array.getElem?_setIfInBounds_ne (fun e => h (by rw [e]))]
theorem wpOp_slots {i : Nat} {K : Act → World → Prop} {a : Act} {w : World} (hh : wpOp P ops i K a w) :
    wpOp P ops i (fun a' w' => K a' w' ∧ ∀ s, Away ops i s → a'.tmps[s]? = a.tmps[s]?) a w := by
  unfold wpOp at *
  split
  · rename_i e; simp only [e] at hh; exact ⟨hh, fun _ _ => rfl⟩
  · rename_i o e
    simp only [e] at hh
    have aw : ∀ v s, Away ops i s → (a.put o.dst v).tmps[s]? = a.tmps[s]? := fun v s hs => put_away (hs o e)
    split
    · rename_i hw
      rw [if_pos hw] at hh
      unfold opw at *
      generalize (execOp a.eval o).run P w = r at *
      cases r with
      | ok nx w' =>
        cases nx <;> simp only [up] at hh ⊢
        case value u => exact ⟨hh, aw _⟩
        case skip => exact ⟨hh, aw _⟩
        case enter f args => exact Calls.mono hh fun e w'' ⟨v, he, hk⟩ => ⟨v, he, hk, aw _⟩
        case round l f tmps assign body => exact RoundIn.mono hh fun e w'' ⟨v, he, hk⟩ => ⟨v, he, hk, aw _⟩
      | halt x w' => exact hh
    · rename_i hw
      rw [if_neg hw] at hh
      exact ⟨hh, aw _⟩
end

/-! ### Private blocks in any order -/
theorem Ents.perm {H H' : List HE} (hp : H.Perm H') : ∀ {l : List Blk}, Ents H l → ∃ l', Ents H' l' ∧ l.Perm l' := by
  induction hp with
  | nil => intro l h; exact ⟨l, h, .refl _⟩
  | cons x _ ih =>
    rintro l ⟨l1, l2, rfl, hx, h2⟩
    obtain ⟨l', h', hp'⟩ := ih h2
    exact ⟨l1 ++ l', ⟨l1, l', rfl, hx, h'⟩, hp'.append_left l1⟩
  | swap x y H =>
    rintro l ⟨l1, l2, rfl, hx, l3, l4, rfl, hy, h4⟩
    refine ⟨l3 ++ (l1 ++ l4), ⟨l3, l1 ++ l4, rfl, hy, l1, l4, rfl, hx, h4⟩, ?_⟩
    rw [← List.append_assoc, ← List.append_assoc]
    exact List.Perm.append_right _ List.perm_append_comm
  | trans _ _ ih1 ih2 =>
    intro l h
    obtain ⟨l1, h1, p1⟩ := ih1 h
    obtain ⟨l2, h2, p2⟩ := ih2 h1
    exact ⟨l2, h2, p1.trans p2⟩
theorem Inv.perm {C : Ctx} {H H' : List HE} {h : PH} {w : World} (hp : H.Perm H') (hw : Inv C H h w) : Inv C H' h w := by
  obtain ⟨l, he, hs, hc⟩ := hw
  obtain ⟨l', he', hpl⟩ := he.perm hp
  exact ⟨l', he', hs.perm hpl, hc.perm hpl⟩

/-! ### Threads -/
/-- A thread's operations, one by one, whatever else there is, and is done, in memory that is not its own. -/
def TS (P : Program) (C : Ctx) (N : Fr) (ops : Array Oper) (L0 : En) (D : List Nat) (Post : En → List HE → PH → Prop) : List Nat → En → List HE → PH → Prop
  | [], L, H, h => Post L H h
  | i :: r, L, H, h => ∀ HF h1, h.le h1 → Hd C N (L ++ L0) (H ++ HF) h1 (wpOp P ops i fun a w => ∃ L' H' h2, h1.le h2 ∧ EnOK a N (L' ++ L0) ∧ (L'.all fun e => D.contains e.1) = true ∧ Inv C (H' ++ HF) h2 w ∧ TS P C N ops L0 D Post r L' H' h2)
structure St where
  T : List Nat
  D : List Nat
  L : En
  H : List HE
  h : PH
  Post : En → List HE → PH → Prop
/-- All orders of the threads' operations; 'S' holds behind each that is not of 'B'. -/
def interS (P : Program) (ops : Array Oper) (S : World → Prop) (B : List Nat) (K : Act → World → Prop) : Nat → List (List Nat) → Act → World → Prop
  | 0, _, a, w => K a w
  | f + 1, ts, a, w => ∀ k i r, ts[k]? = some (i :: r) → wpOp P ops i (fun a' w' => (i ∉ B → S w') ∧ interS P ops S B K f (ts.set k r) a' w') a w
def total (ts : List (List Nat)) : Nat := (ts.map List.length).sum
theorem total_set {ts : List (List Nat)} {k i : Nat} {r : List Nat} (h : ts[k]? = some (i :: r)) : total ts = total (ts.set k r) + 1 := by
  induction ts generalizing k with
  | nil => simp at h
  | cons t ts ih =>
    cases k with
    | zero => simp at h; subst h; simp [total]; omega
    | succ k => simp at h; have := ih h; simp [total] at *; omega
def GoodSt (P : Program) (C : Ctx) (N : Fr) (ops : Array Oper) (L0 : En) (a : Act) (h : PH) (s : St) : Prop :=
  TS P C N ops L0 s.D s.Post s.T s.L s.H s.h ∧ EnOK a N (s.L ++ L0) ∧ (s.L.all fun e => s.D.contains e.1) = true ∧ s.h.le h
def apartB (ops : Array Oper) (L0 : En) (D : List Nat) (i : Nat) : Bool :=
  match ops[i]? with
  | some o => match o.dst with
    | some d => !(D.contains d) && (look L0 d).isNone
    | none => true
  | none => true
theorem look_app {A B : En} {s : Nat} : look (A ++ B) s = match look A s with | some x => some x | none => look B s := by
  induction A with
  | nil => rfl
  | cons e A ih =>
    obtain ⟨k, g⟩ := e
    rw [List.cons_append, look_put, look_put]
    split
    · rfl
    · exact ih
theorem look_dom {A : En} {D : List Nat} (h : (A.all fun e => D.contains e.1) = true) {s : Nat} {x : List (Bool × Bool) × Value} (hl : look A s = some x) : D.contains s = true := by
  induction A with
  | nil => simp [look] at hl
  | cons e A ih =>
    obtain ⟨k, g⟩ := e
    rw [look_put] at hl
    simp only [List.all_cons, Bool.and_eq_true] at h
    split at hl
    · rename_i e; subst e; exact h.1
    · exact ih h.2 hl
theorem away_of {ops : Array Oper} {L0 L : En} {D : List Nat} {i s : Nat} (hA : apartB ops L0 D i = true) (hL : (L.all fun e => D.contains e.1) = true) {x : List (Bool × Bool) × Value} (hl : look (L ++ L0) s = some x) : Away ops i s := by
  intro o ho hd
  simp only [apartB, ho, hd, Bool.and_eq_true, Bool.not_eq_true'] at hA
  rw [look_app] at hl
  cases e : look L s with
  | some y => rw [look_dom hL e] at hA; cases hA.1
  | none =>
    rw [e] at hl
    simp only at hl
    rw [hl] at hA
    simp at hA
theorem EnOK.away {a a' : Act} {N : Fr} {ops : Array Oper} {L0 L : En} {D : List Nat} {i : Nat} (ha : EnOK a N (L ++ L0)) (hs : a'.tmps.size = N.n) (hd : a'.defers = N.ds) (hA : apartB ops L0 D i = true) (hL : (L.all fun e => D.contains e.1) = true)
    (hsl : ∀ s, Away ops i s → a'.tmps[s]? = a.tmps[s]?) : EnOK a' N (L ++ L0) :=
  ⟨hs, hd, fun s g v hl => by rw [hsl s (away_of hA hL hl)]; exact ha.at_ s g v hl⟩
section
variable {ρ : Option Nat} {P : Program} {C : Ctx} {N : Fr} {L0 : En} {H0 : List HE} {h0 : PH} {ops : Array Oper} {B : List Nat} {K : Act → World → Prop}
theorem le_sum_mem {l : List Nat} {n : Nat} (h : n ∈ l) : n ≤ l.sum := by
  induction l with
  | nil => cases h
  | cons x l ih =>
    rcases List.mem_cons.1 h with rfl | h
    · simp
    · have := ih h; simp; omega
theorem flatMap_at {l : List St} {k : Nat} {x : St} (h : l[k]? = some x) : (l.flatMap (·.H)).Perm (x.H ++ (l.eraseIdx k).flatMap (·.H)) := by
  induction l generalizing k with
  | nil => simp at h
  | cons y l ih =>
    cases k with
    | zero => simp at h; subst h; simp
    | succ k =>
      simp only [List.getElem?_cons_succ] at h
      simp only [List.flatMap_cons, List.eraseIdx_cons_succ]
      refine (List.Perm.append_left y.H (ih h)).trans ?_
      rw [← List.append_assoc, ← List.append_assoc]
      exact List.Perm.append_right _ List.perm_append_comm
theorem eraseIdx_set {α : Type} (l : List α) (k : Nat) (x : α) : (l.set k x).eraseIdx k = l.eraseIdx k := by
  induction l generalizing k with
  | nil => rfl
  | cons y l ih =>
    cases k with
    | zero => rfl
    | succ k => simp [ih]
def Apart (ops : Array Oper) (L0 : En) (sts : List St) : Prop := ∀ (k k' : Nat) (s s' : St), sts[k]? = some s → sts[k']? = some s' → k ≠ k' → ∀ i ∈ s.T, apartB ops L0 s'.D i = true
theorem inter_sound (ps : List (En → List HE → PH → Prop))
    (hk : ∀ (sts : List St) (a : Act) (w : World) (h : PH), sts.map (·.Post) = ps → (∀ (k : Nat) (s : St), sts[k]? = some s → s.Post s.L s.H s.h ∧ EnOK a N (s.L ++ L0) ∧ s.h.le h) → h0.le h → Inv C (sts.flatMap (·.H) ++ H0) h w → K a w) :
    ∀ (f : Nat) (sts : List St) (a : Act) (w : World) (h : PH), sts.map (·.Post) = ps → total (sts.map (·.T)) = f → (∀ (k : Nat) (s : St), sts[k]? = some s → GoodSt P C N ops L0 a h s) → Apart ops L0 sts → h0.le h → Inv C (sts.flatMap (·.H) ++ H0) h w → interS P ops (SS C H0 h0) B K f (sts.map (·.T)) a w
  | 0, sts, a, w, h, hps, hf, hg, hap, hl, hw => by
    refine hk sts a w h hps (fun k s hs => ?_) hl hw
    obtain ⟨h1, h2, h3, h4⟩ := hg k s hs
    have : s.T = [] := by
      have hm : s ∈ sts := List.mem_of_getElem? hs
      have h0 : ∀ n ∈ (sts.map (·.T)).map List.length, n = 0 := by
        intro n hn
        have := le_sum_mem hn
        simp only [total] at hf
        omega
      have := h0 s.T.length (by simp only [List.map_map, List.mem_map]; exact ⟨s, hm, rfl⟩)
      exact List.length_eq_zero_iff.1 this
    rw [this] at h1
    exact ⟨h1, h2, h4⟩
  | f + 1, sts, a, w, h, hps, hf, hg, hap, hl, hw => by
    intro k i r hki
    rw [List.getElem?_map] at hki
    cases hs : sts[k]? with
    | none => rw [hs] at hki; simp at hki
    | some s =>
      rw [hs] at hki
      simp at hki
      obtain ⟨h1, h2, h3, h4⟩ := hg k s hs
      rw [hki] at h1
      have hw1 : Inv C (s.H ++ ((sts.eraseIdx k).flatMap (·.H) ++ H0)) h w := by
        rw [← List.append_assoc]
        exact hw.perm (List.Perm.append_right _ (flatMap_at hs))
      have hop := (h1 _ h h4).all a w h2 hw1
      refine wpOp_mono ?_ (wpOp_slots hop)
      rintro a' w' ⟨⟨L', H', h2', hle, hen, hdom, hinv, hts⟩, hsl⟩
      have hk' : k < sts.length := (List.getElem?_eq_some_iff.1 hs).1
      refine ⟨fun _ => ⟨H' ++ (sts.eraseIdx k).flatMap (·.H), h2', PH.le_trans hl hle, by rw [List.append_assoc]; exact hinv⟩, ?_⟩
      have hT : (sts.map (·.T)).set k r = (sts.set k { s with T := r, L := L', H := H', h := h2' }).map (·.T) := by rw [List.map_set]
      rw [hT]
      refine inter_sound ps hk f _ a' w' h2' ?_ ?_ ?_ ?_ (PH.le_trans hl hle) ?_
      · rw [List.map_set, ← hps]
        apply List.ext_getElem?
        intro j
        rw [List.getElem?_set]
        split
        · rename_i hj
          subst hj
          have hsk : sts[k] = s := (List.getElem?_eq_some_iff.1 hs).2
          simp [hk', hsk]
        · rfl
      · have := total_set (ts := sts.map (·.T)) (k := k) (i := i) (r := r) (by rw [List.getElem?_map, hs]; simp [hki])
        rw [hT] at this
        omega
      · intro j t ht
        rw [List.getElem?_set] at ht
        split at ht
        · rename_i hj
          subst hj
          simp at ht
          subst ht
          exact ⟨hts, hen, hdom, PH.le_refl _⟩
        · rename_i hj
          obtain ⟨g1, g2, g3, g4⟩ := hg j t ht
          exact ⟨g1, g2.away hen.size hen.defers (hap k j s t hs ht hj i (by rw [hki]; simp)) g3 hsl, g3, PH.le_trans g4 hle⟩
      · intro j j' t t' ht ht' hne i' hi'
        rw [List.getElem?_set] at ht ht'
        have e1 : ∃ t0, sts[j]? = some t0 ∧ (∀ x ∈ t.T, x ∈ t0.T) := by
          split at ht
          · rename_i hj
            subst hj
            simp at ht; subst ht
            exact ⟨s, hs, fun x hx => by rw [hki]; simp [hx]⟩
          · exact ⟨t, ht, fun x hx => hx⟩
        have e2 : ∃ t0, sts[j']? = some t0 ∧ t'.D = t0.D := by
          split at ht'
          · rename_i hj
            subst hj
            simp at ht'; subst ht'
            exact ⟨s, hs, rfl⟩
          · exact ⟨t', ht', rfl⟩
        obtain ⟨t0, q1, q2⟩ := e1
        obtain ⟨t1, q3, q4⟩ := e2
        rw [q4]
        exact hap j j' t0 t1 q1 q3 hne i' (q2 i' hi')
      · have hset : (sts.set k { s with T := r, L := L', H := H', h := h2' })[k]? = some { s with T := r, L := L', H := H', h := h2' } := by rw [List.getElem?_set]; simp [hk']
        refine hinv.perm ?_
        rw [← List.append_assoc]
        refine List.Perm.append_right _ ?_
        have := (flatMap_at hset).symm
        rwa [eraseIdx_set] at this
end

/-! ### Plans with threads -/
inductive PI where
  | one (i : Nat) (b : Bool)
  | par (ts : List (List Nat))
def parOK (ops : Array Oper) (B : List Nat) (next : Array Bool → Bool) : Nat → List (List Nat) → Array Bool → Bool
  | 0, _, listed => next listed
  | f + 1, ts, listed => ((List.range ts.length).any fun k =>
    match ts[k]? with
    | some (i :: r) => B.contains i && easy ops i && (Region.ready .any ops listed).contains i && Region.free .any ops listed i && parOK ops B next f (ts.set k r) (listed.setIfInBounds i true)
    | _ => false) ||
    (!(Region.ready .any ops listed).isEmpty && (Region.ready .any ops listed).all fun j => (List.range ts.length).any fun k =>
    match ts[k]? with
    | some (i :: r) => Nat.beq i j && parOK ops B next f (ts.set k r) (listed.setIfInBounds j true)
    | _ => false)
def planOKn (ops : Array Oper) (B : List Nat) : List PI → Array Bool → Bool
  | [], listed => (Region.ready .any ops listed).isEmpty
  | .one i true :: r, listed => (Region.ready .any ops listed).contains i && Region.free .any ops listed i && B.all (fun j => waitsT ops 6 j i && !Nat.beq i j) && planOKn ops B r (listed.setIfInBounds i true)
  | .one i false :: r, listed => decide (Region.ready .any ops listed = [i]) && planOKn ops B r (listed.setIfInBounds i true)
  | .par ts :: r, listed => parOK ops B (planOKn ops B r) (total ts) ts listed
def sizeN : List PI → Nat
  | [] => 0
  | .one _ _ :: r => sizeN r + 1
  | .par ts :: r => sizeN r + total ts
def wpPn (P : Program) (ops : Array Oper) (R : Act → World → Prop) (B : List Nat) : List PI → (World → Prop) → Act → World → Prop
  | [], _, a, w => R a w
  | .one i true :: r, S, a, w => S w ∧ ∃ o v, ops[i]? = some o ∧ YieldsIf P ops S o v a ∧ wpPn P ops R B r S (a.put o.dst v) w
  | .one i false :: r, S, a, w => wpOp P ops i (fun a' w' => (i ∉ B → S w') ∧ ∃ S', (∀ w, S' w → S w) ∧ wpPn P ops R B r S' a' w') a w
  | .par ts :: r, S, a, w => interS P ops S B (fun a w => ∃ S', (∀ w, S' w → S w) ∧ wpPn P ops R B r S' a w) (total ts) ts a w
section
variable {ρ : Option Nat} {P : Program} {ops : Array Oper} {R : Act → World → Prop} {B : List Nat}
theorem par_sound {S : World → Prop} {K : Act → World → Prop} {next : Array Bool → Bool} {m : Nat} (hs : Region.noSelect ops = true) (hnext : ∀ listed a w, shut ops listed → next listed = true → K a w → anyX P ops R S B m listed a w) :
    ∀ (f : Nat) (ts : List (List Nat)) (listed : Array Bool) (a : Act) (w : World), shut ops listed → parOK ops B next f ts listed = true → interS P ops S B K f ts a w → anyX P ops R S B (m + f) listed a w
  | 0, ts, listed, a, w, hc, hp, hh => hnext listed a w hc hp hh
  | f + 1, ts, listed, a, w, hc, hp, hh => by
    simp only [parOK, Bool.or_eq_true] at hp
    rcases hp with hp | hp
    · obtain ⟨k, _, hk⟩ := List.any_eq_true.1 hp
      split at hk
      · rename_i i r hts
        simp only [Bool.and_eq_true] at hk
        obtain ⟨⟨⟨⟨h1, h2⟩, h3⟩, h4⟩, h5⟩ := hk
        have hr1 : i ∈ Region.ready .any ops listed := by simpa using h3
        obtain ⟨o, v, ho, hy, hk2⟩ := easy_op h2 (hh k i r hts)
        exact anyX_easy ho (by simpa using h1) hs _ _ _ _ hc (Region.free_spec ho h4) hr1 hy (par_sound hs hnext f _ _ _ w (hc.set hr1) h5 hk2.2)
      · cases hk
    · simp only [Bool.and_eq_true, Bool.not_eq_true', List.all_eq_true, List.any_eq_true] at hp
      refine ⟨fun e => (by rw [e] at hp; simp at hp), fun j hj => ?_⟩
      obtain ⟨k, _, hk⟩ := hp.2 j hj
      split at hk
      · rename_i i r hts
        simp only [Bool.and_eq_true] at hk
        have hij : i = j := Nat.eq_of_beq_eq_true hk.1
        subst hij
        exact wpOp_mono (fun a' w' h' => ⟨h'.1, par_sound hs hnext f _ _ a' w' (hc.set hj) hk.2 h'.2⟩) (hh k i r hts)
      · cases hk
theorem planN_sound (hs : Region.noSelect ops = true) : ∀ (pl : List PI) (S : World → Prop) (listed : Array Bool) (a : Act) (w : World), shut ops listed → planOKn ops B pl listed = true → wpPn P ops R B pl S a w → anyX P ops R S B (sizeN pl) listed a w
  | [], S, listed, a, w, _, hp, hh => ⟨by simpa [planOKn] using hp, hh⟩
  | .one i true :: r, S, listed, a, w, hc, hp, ⟨hS, o, v, ho, hy, hh⟩ => by
    simp only [planOKn, Bool.and_eq_true] at hp
    obtain ⟨⟨⟨h1, h2⟩, h3⟩, h4⟩ := hp
    have hB : ∀ j ∈ B, waitsT ops 6 j i = true ∧ i ≠ j := fun j hj => by
      have := List.all_eq_true.1 h3 j hj
      simp only [Bool.and_eq_true, Bool.not_eq_true'] at this
      exact ⟨this.1, Nat.ne_of_beq_eq_false this.2⟩
    have hr1 : i ∈ Region.ready .any ops listed := by simpa using h1
    exact anyX_first ho (fun j hj => (hB j hj).1) (fun hm => (hB i hm).2 rfl) hs _ _ _ _ hc (Region.free_spec ho h2) hr1 hy hS (planN_sound hs r _ _ _ _ (hc.set hr1) h4 hh)
  | .one i false :: r, S, listed, a, w, hc, hp, hh => by
    simp only [planOKn, Bool.and_eq_true, decide_eq_true_eq] at hp
    refine ⟨fun e => (by rw [hp.1] at e; cases e), fun j hj => ?_⟩
    rw [hp.1] at hj
    have : j = i := by simpa using hj
    subst this
    refine wpOp_mono (fun a' w' hk => ⟨hk.1, ?_⟩) hh
    obtain ⟨S', hS', hk2⟩ := hk.2
    exact anyX_mono hS' _ _ _ _ (planN_sound hs r _ _ _ _ (hc.set (by rw [hp.1]; simp)) hp.2 hk2)
  | .par ts :: r, S, listed, a, w, hc, hp, hh => by
    refine par_sound (next := planOKn ops B r) hs (fun listed a w hc hn ⟨S', hS', hk⟩ => ?_) _ _ _ _ _ hc hp hh
    exact anyX_mono hS' _ _ _ _ (planN_sound hs r _ _ _ _ hc hn hk)
theorem wp_planN {S : World → Prop} {id : Nat} {l : List Oper} {Q : Exit → Act → World → Prop} {a : Act} {w : World} {pl : List PI} (hm : P.follows .mixedOrders = true) (hs : Region.noSelect l.toArray = true) (hp : planOKn l.toArray B pl (Array.replicate l.length false) = true)
    (hn : Nat.beq (sizeN pl) l.length = true) (hh : wpPn P l.toArray (Q .normal) B pl S a { w with drawn := w.drawn + 1 }) : cw ρ P (Code.region id l.toArray true) Q a w := by
  refine cw_mono (Q := Qn (Q .normal)) (wpIn_region_any hm ?_) (fun e a w ⟨e1, e2⟩ => by subst e1; exact e2)
  have := any_of_X (ρ := ρ) _ _ _ _ (planN_sound (P := P) (R := Q .normal) hs pl S (Array.replicate l.length false) a _ (fun j i _ hl => by rw [getD_repl] at hl; cases hl) hp hh)
  rw [Nat.eq_of_beq_eq_true hn] at this
  simpa using this
end

/-! ### In the logic -/
section
variable {ρ : Option Nat} {P : Program} {C : Ctx} {N : Fr} {L L0 L' : En} {H H0 HF H' : List HE} {h h0 h1 : PH} {ops : Array Oper} {o : Oper} {Q : Exit → Act → World → Prop} {R : Act → World → Prop} {B : List Nat} {r : List PI} {S : World → Prop} {D : List Nat} {Post : En → List HE → PH → Prop} {T : List Nat}
theorem hd_planN {id : Nat} {l : List Oper} (B : List Nat) (pl : List PI) (hm : P.follows .mixedOrders = true) (hs : Region.noSelect l.toArray = true) (hp : planOKn l.toArray B pl (Array.replicate l.length false) = true)
    (hn : Nat.beq (sizeN pl) l.length = true) (hx : Hd C N L H h (wpPn P l.toArray (Q .normal) B pl (SS C H h))) : Hd C N L H h (cw ρ P (Code.region id l.toArray true) Q) :=
  ⟨fun a _ ha hw => wp_planN hm hs hp hn (hx.all a _ ha hw.drawn)⟩
theorem hd_pn_nil (hx : Hd C N L H h R) : Hd C N L H h (wpPn P ops R B [] S) := ⟨fun a w ha hw => hx.all a w ha hw⟩
theorem hd_pn_pure {i d : Nat} {g : List (Bool × Bool)} {v : Value} (ho : ops[i]? = some o) (hok : OKp P C ops o L H h g v) (hd : o.dst = some d) (hN : Nat.blt d N.n = true)
    (next : Hd C N ((d, g, v) :: L) H h (wpPn P ops R B r (SS C H h))) : Hd C N L H h (wpPn P ops R B (.one i true :: r) (SS C H h)) := by
  refine ⟨fun a w ha hw => ?_⟩
  have hN' : d < N.n := by simpa using hN
  have hev : ∀ x ∈ o.op.operands, ∀ u, Ev L x u → a.eval x = u := fun x _ u hu => hu.eval ha
  refine ⟨SS.of hw, o, G g v, ho, ?_, ?_⟩
  · cases hok with
    | plain hg hv => exact .inl ⟨by simp [Region.wanted, hg], fun w' hw' => by rw [hv.run a.eval w' hev hw']; simp [G, satB]⟩
    | guarded hg hs hv =>
      rename_i s want g0 c
      by_cases hsat : Sat ((c, want) :: g0)
      · exact .inl ⟨by rw [wanted_of ha hg hs]; exact (sat_iff _).1 hsat, fun w' hw' => by rw [(hv hsat).run a.eval w' hev hw', G_sat hsat]⟩
      · refine .inr ⟨?_, G_not hsat⟩
        rw [wanted_of ha hg hs]
        cases e : satB ((c, want) :: g0) with
        | false => rfl
        | true => exact absurd ((sat_iff _).2 e) hsat
  · refine next.all _ _ ?_ hw
    rw [hd]
    exact ha.put hN'
theorem hd_pn_op {i : Nat} (ho : ops[i]? = some o) (hx : Hd C N L H h (wpList P ops (Qn fun a' w' => (i ∉ B → S w') ∧ ∃ S', (∀ w, S' w → S w) ∧ wpPn P ops R B r S' a' w') [o])) : Hd C N L H h (wpPn P ops R B (.one i false :: r) S) := by
  refine ⟨fun a w ha hw => ?_⟩
  have := hx.all a w ha hw
  simp only [wpPn, wpOp, ho]
  simp only [wpList] at this
  split
  · rename_i hwa
    rw [if_pos hwa] at this
    exact opw_mono (fun a' w' hk => hk.2) this
  · rename_i hwa
    rw [if_neg hwa] at this
    exact this.2
theorem hd_pn_on {i : Nat} (hmo : More H0 H) (hl : h0.le h) (hx : Hd C N L H h (wpPn P ops R B r (SS C H h))) : Hd C N L H h (wpList P ops (Qn fun a' w' => (i ∉ B → SS C H0 h0 w') ∧ ∃ S', (∀ w, S' w → SS C H0 h0 w) ∧ wpPn P ops R B r S' a' w') []) :=
  ⟨fun a w ha hw => ⟨rfl, fun _ => SS.more hmo hl hw, SS C H h, fun _ hw => hw.less hmo hl, hx.all a w ha hw⟩⟩
theorem hd_pn_keep {i : Nat} (hmo : More H0 H) (hl : h0.le h) (hx : Hd C N L H h (wpPn P ops R B r (SS C H0 h0))) : Hd C N L H h (wpList P ops (Qn fun a' w' => (i ∉ B → SS C H0 h0 w') ∧ ∃ S', (∀ w, S' w → SS C H0 h0 w) ∧ wpPn P ops R B r S' a' w') []) :=
  ⟨fun a w ha hw => ⟨rfl, fun _ => SS.more hmo hl hw, SS C H0 h0, fun _ hw => hw, hx.all a w ha hw⟩⟩
theorem hd_pn_bar {i : Nat} (hm : i ∈ B) (hx : Hd C N L H h (wpPn P ops R B r S)) : Hd C N L H h (wpList P ops (Qn fun a' w' => (i ∉ B → S w') ∧ ∃ S', (∀ w, S' w → S w) ∧ wpPn P ops R B r S' a' w') []) :=
  ⟨fun a w ha hw => ⟨rfl, fun hn => absurd hm hn, S, fun _ hw => hw, hx.all a w ha hw⟩⟩
/-- What stands ahead of a known rest. -/
inductive Pre {α : Type} (X : List α) : List α → List α → Prop
  | nil : Pre X X []
  | cons {e : α} {Y Z : List α} (hh : Pre X Y Z) : Pre X (e :: Y) (e :: Z)
theorem Pre.eq {α : Type} {X Y Z : List α} (hh : Pre X Y Z) : Y = Z ++ X := by
  induction hh with
  | nil => rfl
  | cons _ ih => rw [ih]; rfl
theorem ts_done (hp : Post L H h) : TS P C N ops L0 D Post [] L H h := hp
theorem ts_step {i : Nat} (ho : ops[i]? = some o) (hx : ∀ HF h1, h.le h1 → Hd C N (L ++ L0) (H ++ HF) h1 (wpList P ops (Qn fun a w => ∃ L' H' h2, h1.le h2 ∧ EnOK a N (L' ++ L0) ∧ (L'.all fun e => D.contains e.1) = true ∧ Inv C (H' ++ HF) h2 w ∧ TS P C N ops L0 D Post T L' H' h2) [o])) :
    TS P C N ops L0 D Post (i :: T) L H h := by
  intro HF h1 hle
  refine ⟨fun a w ha hw => ?_⟩
  have := (hx HF h1 hle).all a w ha hw
  simp only [wpOp, ho]
  simp only [wpList] at this
  split
  · rename_i hwa
    rw [if_pos hwa] at this
    exact opw_mono (fun a' w' hk => hk.2) this
  · rename_i hwa
    rw [if_neg hwa] at this
    exact this.2
theorem ts_on {Lc : En} {Hc : List HE} (hL : Pre L0 Lc L') (hH : Pre HF Hc H') (hl : h1.le h) (hD : (L'.all fun e => D.contains e.1) = true) (next : TS P C N ops L0 D Post T L' H' h) :
    Hd C N Lc Hc h (wpList P ops (Qn fun a w => ∃ L' H' h2, h1.le h2 ∧ EnOK a N (L' ++ L0) ∧ (L'.all fun e => D.contains e.1) = true ∧ Inv C (H' ++ HF) h2 w ∧ TS P C N ops L0 D Post T L' H' h2) []) :=
  ⟨fun a w ha hw => ⟨rfl, L', H', h, hl, by rw [← hL.eq]; exact ha, hD, by rw [← hH.eq]; exact hw, next⟩⟩
theorem EnOK.join {a : Act} {A B' X : En} (hA : EnOK a N (A ++ X)) (hB : EnOK a N (B' ++ X)) : EnOK a N (A ++ (B' ++ X)) :=
  ⟨hA.size, hA.defers, fun s g v hl => by
    rw [look_app] at hl
    cases e : look A s with
    | some x =>
      rw [e] at hl
      simp only [Option.some.injEq] at hl
      subst hl
      exact hA.at_ s g v (by rw [look_app, e])
    | none =>
      rw [e] at hl
      exact hB.at_ s g v hl⟩
def apartTs (ops : Array Oper) (L0 : En) (T D : List Nat) : Bool := T.all fun i => apartB ops L0 D i
/-- 2 threads. -/
theorem hd_par2 {T1 T2 D1 D2 : List Nat} (Post1 Post2 : En → List HE → PH → Prop) (ha12 : apartTs ops L0 T1 D2 = true) (ha21 : apartTs ops L0 T2 D1 = true) (t1 : TS P C N ops L0 D1 Post1 T1 [] [] h) (t2 : TS P C N ops L0 D2 Post2 T2 [] [] h)
    (next : ∀ L1 H1 h1 L2 H2 h2 h', Post1 L1 H1 h1 → Post2 L2 H2 h2 → h1.le h' → h2.le h' → h.le h' → Hd C N (L1 ++ (L2 ++ L0)) (H1 ++ (H2 ++ H0)) h' (wpPn P ops R B r (SS C (H1 ++ (H2 ++ H0)) h'))) :
    Hd C N L0 H0 h (wpPn P ops R B (.par [T1, T2] :: r) (SS C H0 h)) := by
  refine ⟨fun a w ha hw => ?_⟩
  refine inter_sound (P := P) (ops := ops) (B := B) (N := N) (L0 := L0) (H0 := H0) (h0 := h) [Post1, Post2] ?_ _ [⟨T1, D1, [], [], h, Post1⟩, ⟨T2, D2, [], [], h, Post2⟩] a w h rfl rfl ?_ ?_ (PH.le_refl _) ?_
  · intro sts a' w' h' hps hg hl hw'
    match sts, hps with
    | [s1, s2], hps =>
      simp only [List.map_cons, List.map_nil, List.cons.injEq, and_true] at hps
      obtain ⟨e1, e2⟩ := hps
      obtain ⟨p1, q1, r1⟩ := hg 0 s1 rfl
      rw [e1] at p1
      obtain ⟨p2, q2, r2⟩ := hg 1 s2 rfl
      rw [e2] at p2
      have hinv : Inv C (s1.H ++ (s2.H ++ H0)) h' w' := by simpa [List.append_assoc] using hw'
      have hen : EnOK a' N (s1.L ++ (s2.L ++ L0)) := by
        have z2 : EnOK a' N (s2.L ++ L0) := q2
        have z1 : EnOK a' N ((s1.L ++ s2.L) ++ L0) := by rw [List.append_assoc]; exact q1.join z2
        simpa [List.append_assoc] using z1
      refine ⟨SS C (s1.H ++ (s2.H ++ H0)) h', fun w2 ⟨Hy, hy, l1, l2⟩ => ⟨Hy ++ (s1.H ++ s2.H), hy, PH.le_trans hl l1, by simpa [List.append_assoc] using l2⟩, ?_⟩
      exact (next _ _ _ _ _ _ h' p1 p2 r1 r2 hl).all a' w' hen hinv
  · intro k s hs
    match k, hs with
    | 0, hs => simp at hs; subst hs; exact ⟨t1, ha, rfl, PH.le_refl _⟩
    | 1, hs => simp at hs; subst hs; exact ⟨t2, ha, rfl, PH.le_refl _⟩
  · intro k k' s s' hs hs' hne i hi
    match k, k', hs, hs' with
    | 0, 0, _, _ => exact absurd rfl hne
    | 0, 1, hs, hs' => simp at hs hs'; subst hs hs'; exact List.all_eq_true.1 ha12 i hi
    | 1, 0, hs, hs' => simp at hs hs'; subst hs hs'; exact List.all_eq_true.1 ha21 i hi
    | 1, 1, _, _ => exact absurd rfl hne
  · simpa using hw
/-- 3 threads. -/
theorem hd_par3 {T1 T2 T3 D1 D2 D3 : List Nat} (Post1 Post2 Post3 : En → List HE → PH → Prop) (ha12 : apartTs ops L0 T1 D2 = true) (ha13 : apartTs ops L0 T1 D3 = true) (ha21 : apartTs ops L0 T2 D1 = true) (ha23 : apartTs ops L0 T2 D3 = true) (ha31 : apartTs ops L0 T3 D1 = true) (ha32 : apartTs ops L0 T3 D2 = true) (t1 : TS P C N ops L0 D1 Post1 T1 [] [] h) (t2 : TS P C N ops L0 D2 Post2 T2 [] [] h) (t3 : TS P C N ops L0 D3 Post3 T3 [] [] h)
    (next : ∀ L1 H1 h1 L2 H2 h2 L3 H3 h3 h', Post1 L1 H1 h1 → Post2 L2 H2 h2 → Post3 L3 H3 h3 → h1.le h' → h2.le h' → h3.le h' → h.le h' → Hd C N (L1 ++ (L2 ++ (L3 ++ L0))) (H1 ++ (H2 ++ (H3 ++ H0))) h' (wpPn P ops R B r (SS C (H1 ++ (H2 ++ (H3 ++ H0))) h'))) :
    Hd C N L0 H0 h (wpPn P ops R B (.par [T1, T2, T3] :: r) (SS C H0 h)) := by
  refine ⟨fun a w ha hw => ?_⟩
  refine inter_sound (P := P) (ops := ops) (B := B) (N := N) (L0 := L0) (H0 := H0) (h0 := h) [Post1, Post2, Post3] ?_ _ [⟨T1, D1, [], [], h, Post1⟩, ⟨T2, D2, [], [], h, Post2⟩, ⟨T3, D3, [], [], h, Post3⟩] a w h rfl rfl ?_ ?_ (PH.le_refl _) ?_
  · intro sts a' w' h' hps hg hl hw'
    match sts, hps with
    | [s1, s2, s3], hps =>
      simp only [List.map_cons, List.map_nil, List.cons.injEq, and_true] at hps
      obtain ⟨e1, e2, e3⟩ := hps
      obtain ⟨p1, q1, r1⟩ := hg 0 s1 rfl
      rw [e1] at p1
      obtain ⟨p2, q2, r2⟩ := hg 1 s2 rfl
      rw [e2] at p2
      obtain ⟨p3, q3, r3⟩ := hg 2 s3 rfl
      rw [e3] at p3
      have hinv : Inv C (s1.H ++ (s2.H ++ (s3.H ++ H0))) h' w' := by simpa [List.append_assoc] using hw'
      have hen : EnOK a' N (s1.L ++ (s2.L ++ (s3.L ++ L0))) := by
        have z3 : EnOK a' N (s3.L ++ L0) := q3
        have z2 : EnOK a' N ((s2.L ++ s3.L) ++ L0) := by rw [List.append_assoc]; exact q2.join z3
        have z1 : EnOK a' N ((s1.L ++ (s2.L ++ s3.L)) ++ L0) := by rw [List.append_assoc]; exact q1.join z2
        simpa [List.append_assoc] using z1
      refine ⟨SS C (s1.H ++ (s2.H ++ (s3.H ++ H0))) h', fun w2 ⟨Hy, hy, l1, l2⟩ => ⟨Hy ++ (s1.H ++ s2.H ++ s3.H), hy, PH.le_trans hl l1, by simpa [List.append_assoc] using l2⟩, ?_⟩
      exact (next _ _ _ _ _ _ _ _ _ h' p1 p2 p3 r1 r2 r3 hl).all a' w' hen hinv
  · intro k s hs
    match k, hs with
    | 0, hs => simp at hs; subst hs; exact ⟨t1, ha, rfl, PH.le_refl _⟩
    | 1, hs => simp at hs; subst hs; exact ⟨t2, ha, rfl, PH.le_refl _⟩
    | 2, hs => simp at hs; subst hs; exact ⟨t3, ha, rfl, PH.le_refl _⟩
  · intro k k' s s' hs hs' hne i hi
    match k, k', hs, hs' with
    | 0, 0, _, _ => exact absurd rfl hne
    | 0, 1, hs, hs' => simp at hs hs'; subst hs hs'; exact List.all_eq_true.1 ha12 i hi
    | 0, 2, hs, hs' => simp at hs hs'; subst hs hs'; exact List.all_eq_true.1 ha13 i hi
    | 1, 0, hs, hs' => simp at hs hs'; subst hs hs'; exact List.all_eq_true.1 ha21 i hi
    | 1, 1, _, _ => exact absurd rfl hne
    | 1, 2, hs, hs' => simp at hs hs'; subst hs hs'; exact List.all_eq_true.1 ha23 i hi
    | 2, 0, hs, hs' => simp at hs hs'; subst hs hs'; exact List.all_eq_true.1 ha31 i hi
    | 2, 1, hs, hs' => simp at hs hs'; subst hs hs'; exact List.all_eq_true.1 ha32 i hi
    | 2, 2, _, _ => exact absurd rfl hne
  · simpa using hw
/-- 4 threads. -/
theorem hd_par4 {T1 T2 T3 T4 D1 D2 D3 D4 : List Nat} (Post1 Post2 Post3 Post4 : En → List HE → PH → Prop) (ha12 : apartTs ops L0 T1 D2 = true) (ha13 : apartTs ops L0 T1 D3 = true) (ha14 : apartTs ops L0 T1 D4 = true) (ha21 : apartTs ops L0 T2 D1 = true) (ha23 : apartTs ops L0 T2 D3 = true) (ha24 : apartTs ops L0 T2 D4 = true) (ha31 : apartTs ops L0 T3 D1 = true) (ha32 : apartTs ops L0 T3 D2 = true) (ha34 : apartTs ops L0 T3 D4 = true) (ha41 : apartTs ops L0 T4 D1 = true) (ha42 : apartTs ops L0 T4 D2 = true) (ha43 : apartTs ops L0 T4 D3 = true) (t1 : TS P C N ops L0 D1 Post1 T1 [] [] h) (t2 : TS P C N ops L0 D2 Post2 T2 [] [] h) (t3 : TS P C N ops L0 D3 Post3 T3 [] [] h) (t4 : TS P C N ops L0 D4 Post4 T4 [] [] h)
    (next : ∀ L1 H1 h1 L2 H2 h2 L3 H3 h3 L4 H4 h4 h', Post1 L1 H1 h1 → Post2 L2 H2 h2 → Post3 L3 H3 h3 → Post4 L4 H4 h4 → h1.le h' → h2.le h' → h3.le h' → h4.le h' → h.le h' → Hd C N (L1 ++ (L2 ++ (L3 ++ (L4 ++ L0)))) (H1 ++ (H2 ++ (H3 ++ (H4 ++ H0)))) h' (wpPn P ops R B r (SS C (H1 ++ (H2 ++ (H3 ++ (H4 ++ H0)))) h'))) :
    Hd C N L0 H0 h (wpPn P ops R B (.par [T1, T2, T3, T4] :: r) (SS C H0 h)) := by
  refine ⟨fun a w ha hw => ?_⟩
  refine inter_sound (P := P) (ops := ops) (B := B) (N := N) (L0 := L0) (H0 := H0) (h0 := h) [Post1, Post2, Post3, Post4] ?_ _ [⟨T1, D1, [], [], h, Post1⟩, ⟨T2, D2, [], [], h, Post2⟩, ⟨T3, D3, [], [], h, Post3⟩, ⟨T4, D4, [], [], h, Post4⟩] a w h rfl rfl ?_ ?_ (PH.le_refl _) ?_
  · intro sts a' w' h' hps hg hl hw'
    match sts, hps with
    | [s1, s2, s3, s4], hps =>
      simp only [List.map_cons, List.map_nil, List.cons.injEq, and_true] at hps
      obtain ⟨e1, e2, e3, e4⟩ := hps
      obtain ⟨p1, q1, r1⟩ := hg 0 s1 rfl
      rw [e1] at p1
      obtain ⟨p2, q2, r2⟩ := hg 1 s2 rfl
      rw [e2] at p2
      obtain ⟨p3, q3, r3⟩ := hg 2 s3 rfl
      rw [e3] at p3
      obtain ⟨p4, q4, r4⟩ := hg 3 s4 rfl
      rw [e4] at p4
      have hinv : Inv C (s1.H ++ (s2.H ++ (s3.H ++ (s4.H ++ H0)))) h' w' := by simpa [List.append_assoc] using hw'
      have hen : EnOK a' N (s1.L ++ (s2.L ++ (s3.L ++ (s4.L ++ L0)))) := by
        have z4 : EnOK a' N (s4.L ++ L0) := q4
        have z3 : EnOK a' N ((s3.L ++ s4.L) ++ L0) := by rw [List.append_assoc]; exact q3.join z4
        have z2 : EnOK a' N ((s2.L ++ (s3.L ++ s4.L)) ++ L0) := by rw [List.append_assoc]; exact q2.join z3
        have z1 : EnOK a' N ((s1.L ++ (s2.L ++ (s3.L ++ s4.L))) ++ L0) := by rw [List.append_assoc]; exact q1.join z2
        simpa [List.append_assoc] using z1
      refine ⟨SS C (s1.H ++ (s2.H ++ (s3.H ++ (s4.H ++ H0)))) h', fun w2 ⟨Hy, hy, l1, l2⟩ => ⟨Hy ++ (s1.H ++ s2.H ++ s3.H ++ s4.H), hy, PH.le_trans hl l1, by simpa [List.append_assoc] using l2⟩, ?_⟩
      exact (next _ _ _ _ _ _ _ _ _ _ _ _ h' p1 p2 p3 p4 r1 r2 r3 r4 hl).all a' w' hen hinv
  · intro k s hs
    match k, hs with
    | 0, hs => simp at hs; subst hs; exact ⟨t1, ha, rfl, PH.le_refl _⟩
    | 1, hs => simp at hs; subst hs; exact ⟨t2, ha, rfl, PH.le_refl _⟩
    | 2, hs => simp at hs; subst hs; exact ⟨t3, ha, rfl, PH.le_refl _⟩
    | 3, hs => simp at hs; subst hs; exact ⟨t4, ha, rfl, PH.le_refl _⟩
  · intro k k' s s' hs hs' hne i hi
    match k, k', hs, hs' with
    | 0, 0, _, _ => exact absurd rfl hne
    | 0, 1, hs, hs' => simp at hs hs'; subst hs hs'; exact List.all_eq_true.1 ha12 i hi
    | 0, 2, hs, hs' => simp at hs hs'; subst hs hs'; exact List.all_eq_true.1 ha13 i hi
    | 0, 3, hs, hs' => simp at hs hs'; subst hs hs'; exact List.all_eq_true.1 ha14 i hi
    | 1, 0, hs, hs' => simp at hs hs'; subst hs hs'; exact List.all_eq_true.1 ha21 i hi
    | 1, 1, _, _ => exact absurd rfl hne
    | 1, 2, hs, hs' => simp at hs hs'; subst hs hs'; exact List.all_eq_true.1 ha23 i hi
    | 1, 3, hs, hs' => simp at hs hs'; subst hs hs'; exact List.all_eq_true.1 ha24 i hi
    | 2, 0, hs, hs' => simp at hs hs'; subst hs hs'; exact List.all_eq_true.1 ha31 i hi
    | 2, 1, hs, hs' => simp at hs hs'; subst hs hs'; exact List.all_eq_true.1 ha32 i hi
    | 2, 2, _, _ => exact absurd rfl hne
    | 2, 3, hs, hs' => simp at hs hs'; subst hs hs'; exact List.all_eq_true.1 ha34 i hi
    | 3, 0, hs, hs' => simp at hs hs'; subst hs hs'; exact List.all_eq_true.1 ha41 i hi
    | 3, 1, hs, hs' => simp at hs hs'; subst hs hs'; exact List.all_eq_true.1 ha42 i hi
    | 3, 2, hs, hs' => simp at hs hs'; subst hs hs'; exact List.all_eq_true.1 ha43 i hi
    | 3, 3, _, _ => exact absurd rfl hne
  · simpa using hw
/-- 2 threads. -/
theorem hd_par2k {T1 T2 D1 D2 : List Nat} (Post1 Post2 : En → List HE → PH → Prop) (ha12 : apartTs ops L0 T1 D2 = true) (ha21 : apartTs ops L0 T2 D1 = true) (t1 : TS P C N ops L0 D1 Post1 T1 [] [] h) (t2 : TS P C N ops L0 D2 Post2 T2 [] [] h)
    (next : ∀ L1 H1 h1 L2 H2 h2 h', Post1 L1 H1 h1 → Post2 L2 H2 h2 → h1.le h' → h2.le h' → h.le h' → Hd C N (L1 ++ (L2 ++ L0)) (H1 ++ (H2 ++ H0)) h' (wpPn P ops R B r (SS C H0 h))) :
    Hd C N L0 H0 h (wpPn P ops R B (.par [T1, T2] :: r) (SS C H0 h)) := by
  refine ⟨fun a w ha hw => ?_⟩
  refine inter_sound (P := P) (ops := ops) (B := B) (N := N) (L0 := L0) (H0 := H0) (h0 := h) [Post1, Post2] ?_ _ [⟨T1, D1, [], [], h, Post1⟩, ⟨T2, D2, [], [], h, Post2⟩] a w h rfl rfl ?_ ?_ (PH.le_refl _) ?_
  · intro sts a' w' h' hps hg hl hw'
    match sts, hps with
    | [s1, s2], hps =>
      simp only [List.map_cons, List.map_nil, List.cons.injEq, and_true] at hps
      obtain ⟨e1, e2⟩ := hps
      obtain ⟨p1, q1, r1⟩ := hg 0 s1 rfl
      rw [e1] at p1
      obtain ⟨p2, q2, r2⟩ := hg 1 s2 rfl
      rw [e2] at p2
      have hinv : Inv C (s1.H ++ (s2.H ++ H0)) h' w' := by simpa [List.append_assoc] using hw'
      have hen : EnOK a' N (s1.L ++ (s2.L ++ L0)) := by
        have z2 : EnOK a' N (s2.L ++ L0) := q2
        have z1 : EnOK a' N ((s1.L ++ s2.L) ++ L0) := by rw [List.append_assoc]; exact q1.join z2
        simpa [List.append_assoc] using z1
      refine ⟨SS C H0 h, fun _ hw2 => hw2, ?_⟩
      exact (next _ _ _ _ _ _ h' p1 p2 r1 r2 hl).all a' w' hen hinv
  · intro k s hs
    match k, hs with
    | 0, hs => simp at hs; subst hs; exact ⟨t1, ha, rfl, PH.le_refl _⟩
    | 1, hs => simp at hs; subst hs; exact ⟨t2, ha, rfl, PH.le_refl _⟩
  · intro k k' s s' hs hs' hne i hi
    match k, k', hs, hs' with
    | 0, 0, _, _ => exact absurd rfl hne
    | 0, 1, hs, hs' => simp at hs hs'; subst hs hs'; exact List.all_eq_true.1 ha12 i hi
    | 1, 0, hs, hs' => simp at hs hs'; subst hs hs'; exact List.all_eq_true.1 ha21 i hi
    | 1, 1, _, _ => exact absurd rfl hne
  · simpa using hw
/-- 3 threads. -/
theorem hd_par3k {T1 T2 T3 D1 D2 D3 : List Nat} (Post1 Post2 Post3 : En → List HE → PH → Prop) (ha12 : apartTs ops L0 T1 D2 = true) (ha13 : apartTs ops L0 T1 D3 = true) (ha21 : apartTs ops L0 T2 D1 = true) (ha23 : apartTs ops L0 T2 D3 = true) (ha31 : apartTs ops L0 T3 D1 = true) (ha32 : apartTs ops L0 T3 D2 = true) (t1 : TS P C N ops L0 D1 Post1 T1 [] [] h) (t2 : TS P C N ops L0 D2 Post2 T2 [] [] h) (t3 : TS P C N ops L0 D3 Post3 T3 [] [] h)
    (next : ∀ L1 H1 h1 L2 H2 h2 L3 H3 h3 h', Post1 L1 H1 h1 → Post2 L2 H2 h2 → Post3 L3 H3 h3 → h1.le h' → h2.le h' → h3.le h' → h.le h' → Hd C N (L1 ++ (L2 ++ (L3 ++ L0))) (H1 ++ (H2 ++ (H3 ++ H0))) h' (wpPn P ops R B r (SS C H0 h))) :
    Hd C N L0 H0 h (wpPn P ops R B (.par [T1, T2, T3] :: r) (SS C H0 h)) := by
  refine ⟨fun a w ha hw => ?_⟩
  refine inter_sound (P := P) (ops := ops) (B := B) (N := N) (L0 := L0) (H0 := H0) (h0 := h) [Post1, Post2, Post3] ?_ _ [⟨T1, D1, [], [], h, Post1⟩, ⟨T2, D2, [], [], h, Post2⟩, ⟨T3, D3, [], [], h, Post3⟩] a w h rfl rfl ?_ ?_ (PH.le_refl _) ?_
  · intro sts a' w' h' hps hg hl hw'
    match sts, hps with
    | [s1, s2, s3], hps =>
      simp only [List.map_cons, List.map_nil, List.cons.injEq, and_true] at hps
      obtain ⟨e1, e2, e3⟩ := hps
      obtain ⟨p1, q1, r1⟩ := hg 0 s1 rfl
      rw [e1] at p1
      obtain ⟨p2, q2, r2⟩ := hg 1 s2 rfl
      rw [e2] at p2
      obtain ⟨p3, q3, r3⟩ := hg 2 s3 rfl
      rw [e3] at p3
      have hinv : Inv C (s1.H ++ (s2.H ++ (s3.H ++ H0))) h' w' := by simpa [List.append_assoc] using hw'
      have hen : EnOK a' N (s1.L ++ (s2.L ++ (s3.L ++ L0))) := by
        have z3 : EnOK a' N (s3.L ++ L0) := q3
        have z2 : EnOK a' N ((s2.L ++ s3.L) ++ L0) := by rw [List.append_assoc]; exact q2.join z3
        have z1 : EnOK a' N ((s1.L ++ (s2.L ++ s3.L)) ++ L0) := by rw [List.append_assoc]; exact q1.join z2
        simpa [List.append_assoc] using z1
      refine ⟨SS C H0 h, fun _ hw2 => hw2, ?_⟩
      exact (next _ _ _ _ _ _ _ _ _ h' p1 p2 p3 r1 r2 r3 hl).all a' w' hen hinv
  · intro k s hs
    match k, hs with
    | 0, hs => simp at hs; subst hs; exact ⟨t1, ha, rfl, PH.le_refl _⟩
    | 1, hs => simp at hs; subst hs; exact ⟨t2, ha, rfl, PH.le_refl _⟩
    | 2, hs => simp at hs; subst hs; exact ⟨t3, ha, rfl, PH.le_refl _⟩
  · intro k k' s s' hs hs' hne i hi
    match k, k', hs, hs' with
    | 0, 0, _, _ => exact absurd rfl hne
    | 0, 1, hs, hs' => simp at hs hs'; subst hs hs'; exact List.all_eq_true.1 ha12 i hi
    | 0, 2, hs, hs' => simp at hs hs'; subst hs hs'; exact List.all_eq_true.1 ha13 i hi
    | 1, 0, hs, hs' => simp at hs hs'; subst hs hs'; exact List.all_eq_true.1 ha21 i hi
    | 1, 1, _, _ => exact absurd rfl hne
    | 1, 2, hs, hs' => simp at hs hs'; subst hs hs'; exact List.all_eq_true.1 ha23 i hi
    | 2, 0, hs, hs' => simp at hs hs'; subst hs hs'; exact List.all_eq_true.1 ha31 i hi
    | 2, 1, hs, hs' => simp at hs hs'; subst hs hs'; exact List.all_eq_true.1 ha32 i hi
    | 2, 2, _, _ => exact absurd rfl hne
  · simpa using hw
/-- 4 threads. -/
theorem hd_par4k {T1 T2 T3 T4 D1 D2 D3 D4 : List Nat} (Post1 Post2 Post3 Post4 : En → List HE → PH → Prop) (ha12 : apartTs ops L0 T1 D2 = true) (ha13 : apartTs ops L0 T1 D3 = true) (ha14 : apartTs ops L0 T1 D4 = true) (ha21 : apartTs ops L0 T2 D1 = true) (ha23 : apartTs ops L0 T2 D3 = true) (ha24 : apartTs ops L0 T2 D4 = true) (ha31 : apartTs ops L0 T3 D1 = true) (ha32 : apartTs ops L0 T3 D2 = true) (ha34 : apartTs ops L0 T3 D4 = true) (ha41 : apartTs ops L0 T4 D1 = true) (ha42 : apartTs ops L0 T4 D2 = true) (ha43 : apartTs ops L0 T4 D3 = true) (t1 : TS P C N ops L0 D1 Post1 T1 [] [] h) (t2 : TS P C N ops L0 D2 Post2 T2 [] [] h) (t3 : TS P C N ops L0 D3 Post3 T3 [] [] h) (t4 : TS P C N ops L0 D4 Post4 T4 [] [] h)
    (next : ∀ L1 H1 h1 L2 H2 h2 L3 H3 h3 L4 H4 h4 h', Post1 L1 H1 h1 → Post2 L2 H2 h2 → Post3 L3 H3 h3 → Post4 L4 H4 h4 → h1.le h' → h2.le h' → h3.le h' → h4.le h' → h.le h' → Hd C N (L1 ++ (L2 ++ (L3 ++ (L4 ++ L0)))) (H1 ++ (H2 ++ (H3 ++ (H4 ++ H0)))) h' (wpPn P ops R B r (SS C H0 h))) :
    Hd C N L0 H0 h (wpPn P ops R B (.par [T1, T2, T3, T4] :: r) (SS C H0 h)) := by
  refine ⟨fun a w ha hw => ?_⟩
  refine inter_sound (P := P) (ops := ops) (B := B) (N := N) (L0 := L0) (H0 := H0) (h0 := h) [Post1, Post2, Post3, Post4] ?_ _ [⟨T1, D1, [], [], h, Post1⟩, ⟨T2, D2, [], [], h, Post2⟩, ⟨T3, D3, [], [], h, Post3⟩, ⟨T4, D4, [], [], h, Post4⟩] a w h rfl rfl ?_ ?_ (PH.le_refl _) ?_
  · intro sts a' w' h' hps hg hl hw'
    match sts, hps with
    | [s1, s2, s3, s4], hps =>
      simp only [List.map_cons, List.map_nil, List.cons.injEq, and_true] at hps
      obtain ⟨e1, e2, e3, e4⟩ := hps
      obtain ⟨p1, q1, r1⟩ := hg 0 s1 rfl
      rw [e1] at p1
      obtain ⟨p2, q2, r2⟩ := hg 1 s2 rfl
      rw [e2] at p2
      obtain ⟨p3, q3, r3⟩ := hg 2 s3 rfl
      rw [e3] at p3
      obtain ⟨p4, q4, r4⟩ := hg 3 s4 rfl
      rw [e4] at p4
      have hinv : Inv C (s1.H ++ (s2.H ++ (s3.H ++ (s4.H ++ H0)))) h' w' := by simpa [List.append_assoc] using hw'
      have hen : EnOK a' N (s1.L ++ (s2.L ++ (s3.L ++ (s4.L ++ L0)))) := by
        have z4 : EnOK a' N (s4.L ++ L0) := q4
        have z3 : EnOK a' N ((s3.L ++ s4.L) ++ L0) := by rw [List.append_assoc]; exact q3.join z4
        have z2 : EnOK a' N ((s2.L ++ (s3.L ++ s4.L)) ++ L0) := by rw [List.append_assoc]; exact q2.join z3
        have z1 : EnOK a' N ((s1.L ++ (s2.L ++ (s3.L ++ s4.L))) ++ L0) := by rw [List.append_assoc]; exact q1.join z2
        simpa [List.append_assoc] using z1
      refine ⟨SS C H0 h, fun _ hw2 => hw2, ?_⟩
      exact (next _ _ _ _ _ _ _ _ _ _ _ _ h' p1 p2 p3 p4 r1 r2 r3 r4 hl).all a' w' hen hinv
  · intro k s hs
    match k, hs with
    | 0, hs => simp at hs; subst hs; exact ⟨t1, ha, rfl, PH.le_refl _⟩
    | 1, hs => simp at hs; subst hs; exact ⟨t2, ha, rfl, PH.le_refl _⟩
    | 2, hs => simp at hs; subst hs; exact ⟨t3, ha, rfl, PH.le_refl _⟩
    | 3, hs => simp at hs; subst hs; exact ⟨t4, ha, rfl, PH.le_refl _⟩
  · intro k k' s s' hs hs' hne i hi
    match k, k', hs, hs' with
    | 0, 0, _, _ => exact absurd rfl hne
    | 0, 1, hs, hs' => simp at hs hs'; subst hs hs'; exact List.all_eq_true.1 ha12 i hi
    | 0, 2, hs, hs' => simp at hs hs'; subst hs hs'; exact List.all_eq_true.1 ha13 i hi
    | 0, 3, hs, hs' => simp at hs hs'; subst hs hs'; exact List.all_eq_true.1 ha14 i hi
    | 1, 0, hs, hs' => simp at hs hs'; subst hs hs'; exact List.all_eq_true.1 ha21 i hi
    | 1, 1, _, _ => exact absurd rfl hne
    | 1, 2, hs, hs' => simp at hs hs'; subst hs hs'; exact List.all_eq_true.1 ha23 i hi
    | 1, 3, hs, hs' => simp at hs hs'; subst hs hs'; exact List.all_eq_true.1 ha24 i hi
    | 2, 0, hs, hs' => simp at hs hs'; subst hs hs'; exact List.all_eq_true.1 ha31 i hi
    | 2, 1, hs, hs' => simp at hs hs'; subst hs hs'; exact List.all_eq_true.1 ha32 i hi
    | 2, 2, _, _ => exact absurd rfl hne
    | 2, 3, hs, hs' => simp at hs hs'; subst hs hs'; exact List.all_eq_true.1 ha34 i hi
    | 3, 0, hs, hs' => simp at hs hs'; subst hs hs'; exact List.all_eq_true.1 ha41 i hi
    | 3, 1, hs, hs' => simp at hs hs'; subst hs hs'; exact List.all_eq_true.1 ha42 i hi
    | 3, 2, hs, hs' => simp at hs hs'; subst hs hs'; exact List.all_eq_true.1 ha43 i hi
    | 3, 3, _, _ => exact absurd rfl hne
  · simpa using hw
end
end Go.GV
