/- What is owed to whoever wants all that there is. -/
import Derived.Test.YtogepedlalfpjaaMdOp
namespace Go.Proofs.Ytogepedlalfpjaa
open Go Go.GV
attribute [local irreducible] cw Go.GV.SpecM Go.GV.wpList Exit.then Exit.inBlock Go.GV.bodyPost wpPl wpPm wpPn TS rnd rPost YieldsB wpPT ptK
set_option linter.unusedVariables false
set_option linter.unusedSimpArgs false
/-- What is known of a service that came about: events fit, what was given is of events, each once. -/
structure Iw (xs : List Sp) (s : SvD) : Prop where
  iv : Iv s
  sc : s.schema = xs
  fit : ∀ e ∈ s.events, fits xs e.2.1 = true
  nd : s.given.Nodup
  src : ∀ g ∈ s.given, ∃ e ∈ s.events, e.1 = g.id
theorem ref_of {s : SvD} {d : DeD} {x : LD} (h : doE s d = 0) (hx : s.lives[d.node.toNat]? = some x) : refE s x d = 0 := by
  unfold doE at h
  rw [hx] at h
  split at h
  · cases h
  · exact h
theorem dlv_ok {s : SvD} {x : LD} {d : DeD} (h : dlvE s x d = 0) : ∃ e ∈ s.events, e.1 = d.id ∧ matchF x.filter e.2.1 = true ∧ (⟨d.node, x.inc, d.id⟩ : GD) ∉ s.given := by
  unfold dlvE at h
  split at h
  · cases h
  · rename_i e he
    by_cases h1 : matchF x.filter e.2.1 = false
    · rw [if_pos h1] at h; cases h
    · rw [if_neg h1] at h
      by_cases h2 : (s.given.any fun g => decide (g = (⟨d.node, x.inc, d.id⟩ : GD))) = true
      · rw [if_pos h2] at h; cases h
      · refine ⟨e, List.mem_of_find?_eq_some he, by simpa using List.find?_some he, by simpa using h1, fun hm => h2 ?_⟩
        rw [List.any_eq_true]
        exact ⟨_, hm, by simp⟩
theorem newS_iw (nodes last : Int) (sc : List Sp) : Iw sc (newS nodes sc last) := ⟨newS_iv _ _ _, rfl, (fun e he => by simp [newS] at he), (by simp [newS]), (fun g hg => by simp [newS] at hg)⟩
theorem refE_up {s : SvD} {x : LD} {d : DeD} (h : refE s x d = 0) (h1 : d.what ≠ 1) : x.up = true := by
  unfold refE at h
  rw [if_neg h1] at h
  by_cases hu : x.up = false
  · rw [if_pos hu] at h; cases h
  · simpa using hu
theorem refE_pub {s : SvD} {x : LD} {d : DeD} (h : refE s x d = 0) (h1 : d.what = 4) : fits s.schema d.ev.2.1 = true ∧ x.seq < s.last ∧ d.ev.2.2.length ≤ 64 := by
  have hu := refE_up h (by omega)
  unfold refE at h
  rw [if_neg (by omega), if_neg (by simp [hu]), if_neg (by omega), if_pos h1] at h
  by_cases h2 : fits s.schema d.ev.2.1 = false ∨ 64 < d.ev.2.2.length
  · rw [if_pos h2] at h; cases h
  · rw [if_neg h2] at h
    by_cases h3 : s.last ≤ x.seq
    · rw [if_pos h3] at h; cases h
    · exact ⟨by by_cases hf : fits s.schema d.ev.2.1 = true; exact hf; exact absurd (.inl (eq_false_of_ne_true hf)) h2, by omega, by by_cases hf : 64 < d.ev.2.2.length; exact absurd (.inr hf) h2; omega⟩
theorem refE_dlv {s : SvD} {x : LD} {d : DeD} (h : refE s x d = 0) (h1 : d.what = 5) : dlvE s x d = 0 := by
  have hu := refE_up h (by omega)
  unfold refE at h
  rw [if_neg (by omega), if_neg (by simp [hu]), if_neg (by omega), if_neg (by omega), if_pos h1] at h
  exact h
theorem doS_iw {xs : List Sp} {s : SvD} {d : DeD} (hs : Iw xs s) (hn : 0 ≤ d.node) : Iw xs (doS s d) := by
  refine ⟨doS_iv hs.iv hn, by rw [doS_schema]; exact hs.sc, ?_, ?_, ?_⟩
  all_goals
    by_cases h0 : doE s d ≠ 0
    · have h1 : doS s d = s := by unfold doS; rw [if_pos h0]
      rw [h1]
      first | exact hs.fit | exact hs.nd | exact hs.src
  all_goals
    have h0' : doE s d = 0 := by omega
    cases hx : s.lives[d.node.toNat]? with
    | none =>
      have h1 : doS s d = s := by unfold doS; rw [if_neg h0, hx]
      rw [h1]
      first | exact hs.fit | exact hs.nd | exact hs.src
    | some x =>
      have hr := ref_of h0' hx
      rw [(doS_ok h0' hx).1]
      simp only [effS]
      try
        intro e he
        split at he
        · rename_i hw
          rcases List.mem_append.1 he with h1 | h1
          · exact hs.fit e h1
          · simp at h1
            subst h1
            have := (refE_pub hr hw).1
            rw [hs.sc] at this
            exact this
        · exact hs.fit e he
      try
        split
        · rename_i hw
          obtain ⟨e, he, h1, h2, h3⟩ := dlv_ok (refE_dlv hr hw)
          rw [List.nodup_append]
          exact ⟨hs.nd, by simp, fun a ha b hb e => by simp at hb; subst hb; subst e; exact h3 ha⟩
        · exact hs.nd
      try
        intro g hg
        have key : ∀ e ∈ s.events, e ∈ (if d.what = 4 then s.events ++ [(pubId x d, d.ev.2)] else s.events) := by
          intro e he
          split
          · exact List.mem_append_left _ he
          · exact he
        split at hg
        · rename_i hw
          rcases List.mem_append.1 hg with h1 | h1
          · obtain ⟨e, he, h2⟩ := hs.src g h1
            exact ⟨e, key e he, h2⟩
          · simp at h1
            subst h1
            obtain ⟨e, he, h1, h2, h3⟩ := dlv_ok (refE_dlv hr hw)
            exact ⟨e, key e he, h1⟩
        · obtain ⟨e, he, h2⟩ := hs.src g hg
          exact ⟨e, key e he, h2⟩
theorem runD_iw {nodes last : Int} {sc : List Sp} : ∀ (ds : List DeD), (∀ d ∈ ds, 0 ≤ d.node) → Iw sc (runD (newS nodes sc last) ds) := by
  suffices H : ∀ (ds : List DeD) (s : SvD), Iw sc s → (∀ d ∈ ds, 0 ≤ d.node) → Iw sc (runD s ds) from fun ds hd => H ds _ (newS_iw _ _ _) hd
  intro ds
  induction ds with
  | nil => intro s hs _; exact hs
  | cons d ds ih => intro s hs hd; exact ih _ (doS_iw hs (hd d (by simp))) fun e he => hd e (by simp [he])
/-- How many of them are of a node. -/
def cntN (k : Int) (l : List GD) : Nat := (l.filter fun g => decide (g.node = k)).length
theorem cntN_app (k : Int) (a b : List GD) : cntN k (a ++ b) = cntN k a + cntN k b := by simp [cntN]
theorem cntN_step {k : Int} {l : List GD} {i : Nat} {g : GD} (h : l[i]? = some g) : cntN k (l.take (i + 1)) = cntN k (l.take i) + if g.node = k then 1 else 0 := by
  rw [take_step h, cntN_app]
  congr 1
  by_cases hk : g.node = k <;> simp [cntN, hk]
theorem cntN_le (k : Int) (l : List GD) : cntN k l ≤ l.length := List.length_filter_le _ _
theorem cnt_L (s : SvD) (j k : Nat) (x : LD) : cntN k (owedL s j x) = if j = k then (owedL s k x).length else 0 := by
  by_cases h : j = k
  · subst h
    rw [if_pos rfl]
    unfold cntN
    rw [List.filter_eq_self.2]
    intro g hg
    obtain ⟨_, e, _, _, _, rfl⟩ := mem_owedL.1 hg
    simp
  · rw [if_neg h]
    unfold cntN
    rw [List.filter_eq_nil_iff.2, List.length_nil]
    intro g hg
    obtain ⟨_, e, _, _, _, rfl⟩ := mem_owedL.1 hg
    simp
    omega
theorem cnt_I {s : SvD} {k : Nat} {x : LD} (hx : s.lives[k]? = some x) : ∀ {i : Nat}, i ≤ s.lives.length → cntN k (owI s i) = if k < i then (owedL s k x).length else 0
  | 0, _ => by simp [owI, cntN]
  | i + 1, h => by
    have hi := List.getElem?_eq_getElem (show i < s.lives.length by omega)
    rw [owI_step hi, cntN_app, cnt_I hx (show i ≤ s.lives.length by omega), cnt_L]
    by_cases h1 : i = k
    · subst h1
      rw [hx] at hi; cases hi
      simp
    · rw [if_neg h1]
      by_cases h2 : k < i
      · rw [if_pos h2, if_pos (by omega)]; rfl
      · rw [if_neg h2, if_neg (by omega)]
theorem cnt_owed {s : SvD} {k : Nat} {x : LD} (hx : s.lives[k]? = some x) : cntN k (owedS s) = (owedL s k x).length := by
  rw [← owI_end, cnt_I hx (Nat.le_refl _), if_pos (List.getElem?_eq_some_iff.1 hx).1]
theorem sub_ok {s : SvD} {k : Nat} {x : LD} {f : List Sp} (hx : s.lives[k]? = some x) (hu : x.up = true) : doE s (dd 3 k f [] (0, 0, 0)) = normE s.schema f ∧ (normE s.schema f = 0 → cntN k (owedS (doS s (dd 3 k f [] (0, 0, 0)))) = (s.events.filter fun e => matchF (normF s.schema f) e.2.1 && !(s.given.any fun g => decide (g = ⟨k, x.inc, e.1⟩))).length) := by
  have h1 : doE s (dd 3 k f [] (0, 0, 0)) = normE s.schema f := by
    rw [show doE s (dd 3 k f [] (0, 0, 0)) = refE s x (dd 3 k f [] (0, 0, 0)) from doE_at (by simp [kn, dd]) (dd_at (w := 3) (id := (0, 0, 0)) hx)]
    simp [refE, dd, hu]
  refine ⟨h1, fun h0 => ?_⟩
  rw [h0] at h1
  have hk := (List.getElem?_eq_some_iff.1 hx).1
  have h3 : doS s (dd 3 k f [] (0, 0, 0)) = ⟨s.lives.set k ⟨x.inc, true, normF s.schema f, x.seq⟩, s.schema, s.last, s.events, s.given⟩ := by
    rw [(doS_ok h1 (x := x) (dd_at (w := 3) (id := (0, 0, 0)) hx)).1]; simp [effS, nextL, dd, hu]
  rw [h3]
  have h4 : (s.lives.set k (⟨x.inc, true, normF s.schema f, x.seq⟩ : LD))[k]? = some ⟨x.inc, true, normF s.schema f, x.seq⟩ := List.getElem?_set_self hk
  rw [cnt_owed (s := ⟨s.lives.set k ⟨x.inc, true, normF s.schema f, x.seq⟩, s.schema, s.last, s.events, s.given⟩) h4, owedL_up _ _ _ rfl, List.length_map]
  rfl
/-- How much was given to a life. -/
def mineN (k inc : Int) (l : List GD) : Nat := (l.filter fun g => decide (g.node = k) && decide (g.inc = inc)).length
theorem mineN_step {k inc : Int} {l : List GD} {i : Nat} {g : GD} (h : l[i]? = some g) : mineN k inc (l.take (i + 1)) = mineN k inc (l.take i) + if g.node = k ∧ g.inc = inc then 1 else 0 := by
  rw [take_step h]
  simp only [mineN, List.filter_append, List.length_append]
  congr 1
  by_cases h1 : g.node = k <;> by_cases h2 : g.inc = inc <;> simp [h1, h2]
theorem mineN_le (k inc : Int) (l : List GD) : mineN k inc l ≤ l.length := List.length_filter_le _ _
theorem flt_not {α : Type} (p : α → Bool) : ∀ l : List α, (l.filter fun e => !p e).length + (l.filter p).length = l.length
  | [] => rfl
  | a :: l => by
    have := flt_not p l
    cases h : p a <;> simp [List.filter_cons, h] <;> omega
theorem mine_cnt {xs : List Sp} {s : SvD} (hs : Iw xs s) (k inc : Int) : (s.events.filter fun e => !(s.given.any fun g => decide (g = ⟨k, inc, e.1⟩))).length + mineN k inc s.given = s.events.length := by
  rw [← flt_not (fun e => s.given.any fun g => decide (g = (⟨k, inc, e.1⟩ : GD))) s.events]
  congr 1
  have hC : ((s.events.filter fun e => s.given.any fun g => decide (g = (⟨k, inc, e.1⟩ : GD))).map fun e => (⟨k, inc, e.1⟩ : GD)).Nodup := by
    have h1 : ((s.events.filter fun e => s.given.any fun g => decide (g = (⟨k, inc, e.1⟩ : GD))).map fun e => (⟨k, inc, e.1⟩ : GD)) = ((s.events.filter fun e => s.given.any fun g => decide (g = (⟨k, inc, e.1⟩ : GD))).map (·.1)).map (fun i => (⟨k, inc, i⟩ : GD)) := by rw [List.map_map]; rfl
    rw [h1]
    have h2 : ((s.events.filter fun e => s.given.any fun g => decide (g = (⟨k, inc, e.1⟩ : GD))).map (·.1)).Nodup := (List.filter_sublist.map _).nodup hs.iv.un
    exact List.Pairwise.map _ (fun a b hab h => hab (by cases h; rfl)) h2
  have hD : (s.given.filter fun g => decide (g.node = k) && decide (g.inc = inc)).Nodup := List.filter_sublist.nodup hs.nd
  have hp : ((s.events.filter fun e => s.given.any fun g => decide (g = (⟨k, inc, e.1⟩ : GD))).map fun e => (⟨k, inc, e.1⟩ : GD)).Perm (s.given.filter fun g => decide (g.node = k) && decide (g.inc = inc)) := by
    rw [List.perm_ext_iff_of_nodup hC hD]
    intro g
    simp only [List.mem_map, List.mem_filter, List.any_eq_true, decide_eq_true_eq, Bool.and_eq_true]
    constructor
    · rintro ⟨e, ⟨he, g', hg', rfl⟩, rfl⟩
      exact ⟨hg', rfl, rfl⟩
    · rintro ⟨hg, rfl, rfl⟩
      obtain ⟨e, he, h1⟩ := hs.src g hg
      exact ⟨e, ⟨he, g, hg, by rw [h1]⟩, by rw [h1]⟩
  have := hp.length_eq
  rw [List.length_map] at this
  rw [mineN, this]
/-- Who wants all is owed all but what was given; who wants nothing nothing; who wants less no more. -/
theorem wide_law {xs : List Sp} {s : SvD} {k : Nat} {x : LD} (hs : Iw xs s) (hr : right xs = true) (hx : s.lives[k]? = some x) (hu : x.up = true) (f : List Sp) :
    (decide (doE s (dd 3 k xs [] (0, 0, 0)) = 0) = true ∧ cntN k (owedS (doS s (dd 3 k xs [] (0, 0, 0)))) + mineN k x.inc s.given = s.events.length) ∧
    (decide (doE s (dd 3 k [] [] (0, 0, 0)) = 0) = true ∧ cntN k (owedS (doS s (dd 3 k [] [] (0, 0, 0)))) = 0) ∧
    (decide (doE s (dd 3 k f [] (0, 0, 0)) = 0) = true → cntN k (owedS (doS s (dd 3 k f [] (0, 0, 0)))) ≤ cntN k (owedS (doS s (dd 3 k xs [] (0, 0, 0))))) := by
  have h0 : xs.length ≠ 0 := by
    simp only [right, Bool.and_eq_true, decide_eq_true_eq] at hr
    omega
  have nx : normE xs xs = 0 := by simp [normE]
  have nn : normE xs [] = 0 := by simp [normE]
  obtain ⟨a1, a2⟩ := sub_ok (f := xs) hx hu
  obtain ⟨b1, b2⟩ := sub_ok (f := []) hx hu
  obtain ⟨c1, c2⟩ := sub_ok (f := f) hx hu
  rw [hs.sc] at a1 a2 b1 b2 c1 c2
  have a3 : (s.events.filter fun e => matchF (normF xs xs) e.2.1 && !(s.given.any fun g => decide (g = ⟨k, x.inc, e.1⟩))) = (s.events.filter fun e => !(s.given.any fun g => decide (g = ⟨k, x.inc, e.1⟩))) := by
    apply List.filter_congr
    intro e he
    rw [match_norm (hs.fit e he) h0 (.inr rfl), fits_match _ _ (hs.fit e he) h0, Bool.true_and]
  refine ⟨⟨by rw [a1, nx]; rfl, ?_⟩, ⟨by rw [b1, nn]; rfl, ?_⟩, fun hc => ?_⟩
  · rw [a2 nx, a3]; exact mine_cnt hs k x.inc
  · rw [b2 nn]
    have : normF xs [] = [] := by simp [normF]
    rw [this]
    simp [matchF_nil]
  · rw [a2 nx, a3]
    rw [c1] at hc
    rw [c2 (by simpa using hc)]
    have h5 : (s.events.filter fun e => matchF (normF xs f) e.2.1 && !(s.given.any fun g => decide (g = ⟨k, x.inc, e.1⟩))) = (s.events.filter fun e => !(s.given.any fun g => decide (g = ⟨k, x.inc, e.1⟩))).filter fun e => matchF (normF xs f) e.2.1 := by rw [List.filter_filter]
    rw [h5]
    exact List.length_filter_le _ _
end Go.Proofs.Ytogepedlalfpjaa
