/- Which services may come about: events' ids are unlike, and of lives that were; what is owed. -/
import Derived.Test.YtogepedlalfpjaaMdW
namespace Go.Proofs.Ytogepedlalfpjaa
set_option linter.unusedVariables false
set_option linter.unusedSimpArgs false
/-- A service that came about by deeds. -/
structure Iv (s : SvD) : Prop where
  un : (s.events.map (·.1)).Nodup
  ev : ∀ e ∈ s.events, 0 ≤ e.1.1 ∧ ∃ x, s.lives[e.1.1.toNat]? = some x ∧ (e.1.2.1 < x.inc ∨ (e.1.2.1 = x.inc ∧ e.1.2.2 ≤ x.seq))
theorem newS_iv (nodes last : Int) (sc : List Sp) : Iv (newS nodes sc last) := ⟨by simp [newS], fun e he => by simp [newS] at he⟩
theorem nextL_grow (s : SvD) (x : LD) (d : DeD) : x.inc < (nextL s x d).inc ∨ (x.inc = (nextL s x d).inc ∧ x.seq ≤ (nextL s x d).seq) := by
  unfold nextL
  split
  · exact .inl (by simp only; omega)
  · split
    · exact .inr ⟨rfl, Int.le_refl _⟩
    · split
      · exact .inr ⟨rfl, Int.le_refl _⟩
      · split
        · exact .inr ⟨rfl, by simp only; omega⟩
        · exact .inr ⟨rfl, Int.le_refl _⟩
theorem doS_iv {s : SvD} {d : DeD} (hs : Iv s) (hn : 0 ≤ d.node) : Iv (doS s d) := by
  unfold doS
  split
  · exact hs
  split
  · exact hs
  rename_i x hx
  have hxl := (List.getElem?_eq_some_iff.1 hx).1
  have key : ∀ e ∈ s.events, 0 ≤ e.1.1 ∧ ∃ y, (s.lives.set d.node.toNat (nextL s x d))[e.1.1.toNat]? = some y ∧ (e.1.2.1 < y.inc ∨ (e.1.2.1 = y.inc ∧ e.1.2.2 ≤ y.seq)) := by
    intro e he
    obtain ⟨h0, y, hy, hyy⟩ := hs.ev e he
    refine ⟨h0, ?_⟩
    by_cases hd : d.node.toNat = e.1.1.toNat
    · refine ⟨nextL s x d, by rw [← hd, List.getElem?_set_self hxl], ?_⟩
      rw [← hd, hx] at hy
      cases hy
      rcases nextL_grow s x d with h1 | ⟨h1, h2⟩ <;> rcases hyy with h3 | ⟨h3, h4⟩ <;> omega
    · exact ⟨y, by rw [List.getElem?_set_ne hd]; exact hy, hyy⟩
  constructor
  · simp only [effS]
    split
    · rename_i hw
      rw [List.map_append, List.nodup_append]
      refine ⟨hs.un, by simp, ?_⟩
      intro a ha b hb
      obtain ⟨e, he, rfl⟩ := List.mem_map.1 ha
      simp at hb
      subst hb
      obtain ⟨h0, y, hy, hyy⟩ := hs.ev e he
      intro heq
      rw [heq] at hy hyy
      simp only [pubId] at hy hyy
      rw [hx] at hy
      cases hy
      omega
    · exact hs.un
  · intro e he
    simp only [effS] at he ⊢
    split at he
    · rename_i hw
      rcases List.mem_append.1 he with h1 | h1
      · exact key e h1
      · simp at h1
        subst h1
        refine ⟨hn, nextL s x d, by simp only [pubId]; rw [List.getElem?_set_self hxl], .inr ?_⟩
        simp [pubId, nextL, hw]
    · exact key e he
theorem runD_iv {nodes last : Int} {sc : List Sp} : ∀ (ds : List DeD), (∀ d ∈ ds, 0 ≤ d.node) → Iv (runD (newS nodes sc last) ds) := by
  suffices H : ∀ (ds : List DeD) (s : SvD), Iv s → (∀ d ∈ ds, 0 ≤ d.node) → Iv (runD s ds) from fun ds hd => H ds _ (newS_iv _ _ _) hd
  intro ds
  induction ds with
  | nil => intro s hs _; exact hs
  | cons d ds ih => intro s hs hd; exact ih _ (doS_iv hs (hd d (by simp))) fun e he => hd e (by simp [he])
theorem find_of {l : List EvD} (hn : (l.map (·.1)).Nodup) : ∀ {e : EvD}, e ∈ l → findE l e.1 = some e := by
  induction l with
  | nil => intro e he; cases he
  | cons a l ih =>
    intro e he
    simp only [List.map_cons, List.nodup_cons] at hn
    rcases List.mem_cons.1 he with rfl | h
    · simp [findE]
    · have hne : a.1 ≠ e.1 := fun h' => hn.1 (by rw [h']; exact List.mem_map_of_mem h)
      simp only [findE, List.find?_cons]
      rw [decide_eq_false hne]
      exact ih hn.2 h
theorem dlv_in {s : SvD} {x : LD} {d : DeD} {e : EvD} (hn : (s.events.map (·.1)).Nodup) (he : e ∈ s.events) (hd : d.id = e.1) : dlvE s x d = if matchF x.filter e.2.1 = false then 263 else if (s.given.any fun g => decide (g = ⟨d.node, x.inc, d.id⟩)) then 262 else 0 := by
  have := find_of hn he
  simp only [dlvE, hd, this]
end Go.Proofs.Ytogepedlalfpjaa
