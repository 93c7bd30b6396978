/- What was published, and given, as maps; how many events a life published. -/
import Derived.Test.YtogepedlalfpjaaMdWp
import Derived.Test.YtogepedlalfpjaaMdMp
namespace Go.Proofs.Ytogepedlalfpjaa
open Go Go.GV
attribute [local irreducible] cw Go.GV.SpecM Go.GV.wpList Exit.then Exit.inBlock Go.GV.bodyPost wpPl wpPm wpPn TS rnd rPost YieldsB wpPT ptK
set_option linter.unusedVariables false
set_option linter.unusedSimpArgs false
/-! ### Maps whose keys are ids -/
def csI (i : IDt) : List Value := [.int .u8 i.1, .int .u16 i.2.1, .int .u32 i.2.2]
theorem csI_eq (a b : IDt) : eqL (csI a) (csI b) = decide (a = b) := id_eq
def KeyI (m : KVs) : Prop := ∀ e ∈ m, ∃ i : IDt, e.1 = csI i
theorem keyI_put (g : IDt) (v : Value) : ∀ (m : KVs), KeyI m → KeyI (putM (csI g) v m)
  | [], _ => fun e he => by simp [putM] at he; subst he; exact ⟨g, rfl⟩
  | x :: m, h => by
    unfold putM
    split
    · intro e he
      rcases List.mem_cons.1 he with rfl | he
      · exact h x (by simp)
      · exact h e (by simp [he])
    · intro e he
      rcases List.mem_cons.1 he with rfl | he
      · exact h e (by simp)
      · exact keyI_put g v m (fun e he => h e (by simp [he])) e he
theorem lookI_put (g x : IDt) (v : Value) : ∀ (m : KVs), KeyI m → lookM (csI x) (putM (csI g) v m) = if g = x then some v else lookM (csI x) m
  | [], _ => by
    simp only [putM, lookM, csI_eq]
    by_cases h : x = g
    · subst h; simp
    · have h2 : ¬ g = x := fun e => h e.symm
      simp [h, h2]
  | (yk, yv) :: m, h => by
    obtain ⟨z, hz⟩ := h (yk, yv) (by simp)
    simp only at hz
    subst hz
    have ih := lookI_put g x v m (fun e he => h e (by simp [he]))
    unfold putM
    rw [csI_eq]
    by_cases e1 : g = z
    · subst e1
      simp only [decide_true, if_true, lookM, csI_eq]
      by_cases e2 : x = g
      · subst e2; simp
      · have h2 : ¬ g = x := fun e => e2 e.symm
        simp [e2, h2]
    · rw [decide_eq_false e1]
      simp only [Bool.false_eq_true, if_false, lookM, csI_eq]
      by_cases e2 : x = z
      · subst e2; simp [e1]
      · rw [decide_eq_false e2]; simpa using ih
theorem lenI_put (g : IDt) (v : Value) : ∀ (m : KVs), KeyI m → (putM (csI g) v m).length = if (lookM (csI g) m).isSome then m.length else m.length + 1
  | [], _ => by simp [putM, lookM]
  | (yk, yv) :: m, h => by
    obtain ⟨z, hz⟩ := h (yk, yv) (by simp)
    simp only at hz
    subst hz
    have ih := lenI_put g v m (fun e he => h e (by simp [he]))
    unfold putM
    rw [csI_eq]
    by_cases e1 : g = z
    · subst e1
      simp [lookM, csI_eq]
    · rw [decide_eq_false e1]
      simp only [Bool.false_eq_true, if_false, lookM, csI_eq, decide_eq_false e1, List.length_cons, ih]
      split <;> rfl
/-! ### What was published -/
structure HavM (h : PH) (m : KVs) (evs : List EvD) : Prop where
  key : KeyI m
  none_ : ∀ i, findE evs i = none → lookM (csI i) m = none
  some_ : ∀ i e, findE evs i = some e → ∃ p n c, lookM (csI i) m = some (.slice (some p) n c) ∧ SlV h (some p) n c e.2.1
  len : m.length = evs.length
theorem HavM.nil (h : PH) : HavM h [] [] := ⟨(fun e he => by cases he), (fun i _ => rfl), (fun i e he => by simp [findE] at he), rfl⟩
theorem HavM.mono {h h' : PH} {m : KVs} {evs : List EvD} (hm : HavM h m evs) (hl : h.le h') : HavM h' m evs :=
  ⟨hm.key, hm.none_, fun i e he => by obtain ⟨p, n, c, h1, h2⟩ := hm.some_ i e he; exact ⟨p, n, c, h1, h2.mono hl⟩, hm.len⟩
theorem HavM.put {h : PH} {m : KVs} {evs : List EvD} (hm : HavM h m evs) {i : IDt} {v : List Int × List Int} {p : Addr} {n c : Nat} (hi : findE evs i = none) (hv : SlV h (some p) n c v.1) : HavM h (putM (csI i) (.slice (some p) n c) m) (evs ++ [(i, v)]) := by
  have hf : ∀ j, findE (evs ++ [(i, v)]) j = (findE evs j).or (if i = j then some (i, v) else none) := by
    intro j
    simp only [findE, List.find?_append]
    congr 1
    by_cases h1 : i = j <;> simp [h1]
  refine ⟨keyI_put _ _ _ hm.key, fun j hj => ?_, fun j e hj => ?_, ?_⟩
  · rw [hf] at hj
    rw [lookI_put _ _ _ _ hm.key]
    by_cases h1 : i = j
    · subst h1
      simp [hi] at hj
    · rw [if_neg h1]
      rw [if_neg h1, Option.or_none] at hj
      exact hm.none_ j hj
  · rw [hf] at hj
    rw [lookI_put _ _ _ _ hm.key]
    by_cases h1 : i = j
    · subst h1
      rw [hi] at hj
      simp at hj
      subst hj
      exact ⟨p, n, c, by simp, hv⟩
    · rw [if_neg h1]
      rw [if_neg h1, Option.or_none] at hj
      exact hm.some_ j e hj
  · rw [lenI_put _ _ _ hm.key, hm.none_ i hi]
    simp [hm.len]
/-! ### What was given -/
structure GavM (m : KVs) (gs : List GD) : Prop where
  key : KeyG m
  look : ∀ x, lookM (csG x) m = if x ∈ gs then some (.int .i64 1) else none
  len : m.length = gs.length
theorem GavM.nil : GavM [] [] := ⟨(fun e he => by cases he), (fun x => by simp [lookM]), rfl⟩
theorem GavM.cnt {m : KVs} {gs : List GD} (hm : GavM m gs) : CntM .i64 m (once gs) := ⟨hm.key, fun x => by
  rw [hm.look x]
  unfold once
  by_cases h : x ∈ gs <;> simp [h]⟩
theorem GavM.put {m : KVs} {gs : List GD} (hm : GavM m gs) {g : GD} (hg : g ∉ gs) : GavM (putM (csG g) (.int .i64 1) (putM (csG g) ((lookM (csG g) m).getD (.int .i64 0)) m)) (gs ++ [g]) := by
  have hk := keyG_put g ((lookM (csG g) m).getD (.int .i64 0)) m hm.key
  have hl : lookM (csG g) m = none := by rw [hm.look, if_neg hg]
  refine ⟨keyG_put _ _ _ hk, fun x => ?_, ?_⟩
  · rw [look_put _ _ _ _ hk, look_put _ _ _ _ hm.key, hm.look x]
    by_cases h1 : g = x
    · subst h1; simp
    · have h2 : x ≠ g := fun e => h1 e.symm
      simp [h1, h2]
  · rw [len_put _ _ _ hk, look_put _ _ _ _ hm.key, if_pos rfl, len_put _ _ _ hm.key, hl]
    simp [hm.len]
/-! ### How many events a life published -/
def cntS (s : SvD) (f : GD → Int) : Prop := ∀ (k : Nat) x, s.lives[k]? = some x → f ⟨k, x.inc, (0, 0, 0)⟩ = x.seq ∧ ∀ i, x.inc < i → f ⟨k, i, (0, 0, 0)⟩ = 0
theorem newS_cnt (nodes last : Int) (sc : List Sp) : cntS (newS nodes sc last) fun _ => 0 := by
  intro k x hx
  have := List.mem_of_getElem? hx
  simp only [newS] at this
  rw [List.eq_of_mem_replicate this]
  simp [LD.zero]
theorem doS_last (s : SvD) (d : DeD) : (doS s d).last = s.last := by
  unfold doS
  split
  · rfl
  · split <;> rfl
theorem newS_last (nodes last : Int) (sc : List Sp) : (newS nodes sc last).last = last := rfl
theorem cnt_stay {s : SvD} {f : GD → Int} {d : DeD} {x : LD} (hs : cntS s f) (h0 : doE s d = 0) (hn : 0 ≤ d.node) (hx : s.lives[d.node.toNat]? = some x) (hw : d.what ≠ 4) : cntS (doS s d) f := by
  rw [(doS_ok h0 hx).1]
  intro k y hy
  have hk := (List.getElem?_eq_some_iff.1 hx).1
  simp only [effS] at hy
  by_cases h1 : d.node.toNat = k
  · subst h1
    rw [List.getElem?_set_self hk] at hy
    cases hy
    have h2 := hs _ x hx
    unfold nextL
    split
    · exact ⟨h2.2 _ (by simp only; omega), fun i hi => h2.2 i (by simp only at hi; omega)⟩
    · split
      · exact h2
      · split
        · exact h2
        · first | exact h2 | (rw [if_neg hw]; exact h2)
  · rw [List.getElem?_set_ne h1] at hy
    exact hs k y hy
theorem cnt_more {s : SvD} {f : GD → Int} {d : DeD} {x : LD} (hs : cntS s f) (h0 : doE s d = 0) (hn : 0 ≤ d.node) (hx : s.lives[d.node.toNat]? = some x) (hw : d.what = 4) : cntS (doS s d) fun y => if (⟨d.node, x.inc, (0, 0, 0)⟩ : GD) = y then f ⟨d.node, x.inc, (0, 0, 0)⟩ + 1 else f y := by
  rw [(doS_ok h0 hx).1]
  intro k y hy
  have hk := (List.getElem?_eq_some_iff.1 hx).1
  simp only [effS] at hy
  have hdk : d.node = (d.node.toNat : Int) := by omega
  by_cases h1 : d.node.toNat = k
  · subst h1
    rw [List.getElem?_set_self hk] at hy
    cases hy
    have h2 := hs _ x hx
    rw [← hdk] at h2
    have h3 : nextL s x d = ⟨x.inc, x.up, x.filter, x.seq + 1⟩ := by simp [nextL, hw]
    rw [h3, ← hdk]
    refine ⟨by simp [h2.1], fun i hi => ?_⟩
    simp only at hi
    have h4 : ¬ (⟨d.node, x.inc, (0, 0, 0)⟩ : GD) = ⟨d.node, i, (0, 0, 0)⟩ := by
      intro e
      have := congrArg GD.inc e
      simp only at this
      omega
    simp only [if_neg h4]
    exact h2.2 i hi
  · rw [List.getElem?_set_ne h1] at hy
    have h2 := hs k y hy
    have hne : ∀ i, ¬ (⟨d.node, x.inc, (0, 0, 0)⟩ : GD) = ⟨(k : Int), i, (0, 0, 0)⟩ := by
      intro i e
      have := congrArg GD.node e
      simp only at this
      omega
    refine ⟨by simp only [if_neg (hne _)]; exact h2.1, fun i hi => by simp only [if_neg (hne _)]; exact h2.2 i hi⟩
/-- The next id is new. -/
theorem id_new {s : SvD} (hs : Iv s) {d : DeD} {x : LD} (hx : s.lives[d.node.toNat]? = some x) : findE s.events (d.node, x.inc, x.seq + 1) = none := by
  simp only [findE, List.find?_eq_none, decide_eq_true_eq]
  intro e he h1
  obtain ⟨h0, y, hy, hyy⟩ := hs.ev e he
  rw [h1] at hy hyy
  simp only at hy hyy
  rw [hx] at hy
  cases hy
  omega
theorem doE_life {s : SvD} {d : DeD} (h : doE s d = 0) : ∃ x, s.lives[d.node.toNat]? = some x := by
  unfold doE at h
  split at h
  · cases h
  · cases hx : s.lives[d.node.toNat]? with
    | none => rw [hx] at h; cases h
    | some x => exact ⟨x, rfl⟩
theorem doS_noI {s : SvD} {d : DeD} (h : doE s d ≠ 0) : doS s d = s ∧ doI s d = (0, 0, 0) := by
  unfold doS doI
  rw [if_pos h, if_pos h]
  exact ⟨rfl, rfl⟩
/-- What is published is new, and fits; the numbers go on. -/
theorem pub_law {xs : List Sp} {s : SvD} {d : DeD} {x : LD} (hs : Iw xs s) (h0 : doE s d = 0) (hx : s.lives[d.node.toNat]? = some x) (hw : d.what = 4) : doI s d = (d.node, x.inc, x.seq + 1) ∧ x.seq < s.last ∧ x.up = true ∧ fits xs d.ev.2.1 = true ∧ findE s.events (d.node, x.inc, x.seq + 1) = none ∧ (doS s d).events = s.events ++ [((d.node, x.inc, x.seq + 1), d.ev.2)] ∧ (doS s d).given = s.given := by
  have hr := ref_of h0 hx
  obtain ⟨h1, h2, h3⟩ := refE_pub hr hw
  rw [hs.sc] at h1
  refine ⟨by rw [(doS_ok h0 hx).2]; simp [effId, hw, pubId], h2, refE_up hr (by omega), h1, id_new hs.iv hx, ?_, ?_⟩
  · rw [(doS_ok h0 hx).1]; simp [effS, hw, pubId]
  · rw [(doS_ok h0 hx).1]; simp [effS, hw]
theorem dlv_law {xs : List Sp} {s : SvD} {d : DeD} {x : LD} (hs : Iw xs s) (h0 : doE s d = 0) (hx : s.lives[d.node.toNat]? = some x) (hw : d.what = 5) : ∃ e, findE s.events d.id = some e ∧ matchF x.filter e.2.1 = true ∧ x.up = true ∧ (⟨d.node, x.inc, d.id⟩ : GD) ∉ s.given ∧ (doS s d).events = s.events ∧ (doS s d).given = s.given ++ [⟨d.node, x.inc, d.id⟩] := by
  have hr := ref_of h0 hx
  obtain ⟨e, h1, h2, h3, h4⟩ := dlv_ok (refE_dlv hr hw)
  refine ⟨e, by rw [← h2]; exact find_of hs.iv.un h1, h3, refE_up hr (by omega), h4, ?_, ?_⟩
  · rw [(doS_ok h0 hx).1]; simp [effS, hw]
  · rw [(doS_ok h0 hx).1]; simp [effS, hw]
theorem oth_law {s : SvD} {d : DeD} {x : LD} (h0 : doE s d = 0) (hx : s.lives[d.node.toNat]? = some x) (hw : d.what ≠ 4) (hw2 : d.what ≠ 5) : (doS s d).events = s.events ∧ (doS s d).given = s.given := by
  rw [(doS_ok h0 hx).1]
  simp [effS, hw, hw2]
end Go.Proofs.Ytogepedlalfpjaa
