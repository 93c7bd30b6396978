/- What is owed, when some of it is given. -/
import Derived.Test.YtogepedlalfpjaaMdA
import Derived.Test.YtogepedlalfpjaaMdQ
namespace Go.Proofs.Ytogepedlalfpjaa
open Go Go.GV
attribute [local irreducible] cw Go.GV.SpecM Go.GV.wpList Exit.then Exit.inBlock Go.GV.bodyPost wpPl wpPm wpPn TS rnd rPost YieldsB wpPT ptK
set_option linter.unusedVariables false
set_option linter.unusedSimpArgs false
/-- The service with so many given. -/
def gvS (s : SvD) (gs : List GD) : SvD := ⟨s.lives, s.schema, s.last, s.events, s.given ++ gs⟩
theorem owedL_gv (s : SvD) (gs : List GD) (k : Nat) (x : LD) : owedL (gvS s gs) k x = (owedL s k x).filter fun g => !gs.any fun g' => decide (g' = g) := by
  cases hu : x.up with
  | false => simp [owedL, hu]
  | true =>
    rw [owedL_up _ k x hu, owedL_up _ k x hu, List.filter_map, List.filter_filter]
    congr 1
    apply List.filter_congr
    intro e _
    simp only [owP, gvS, List.any_append, Bool.not_or, Function.comp, owG]
    cases matchF x.filter e.2.1 <;> (try simp [Bool.and_comm]) <;> (try rfl)
theorem owedS_gv (s : SvD) (gs : List GD) : owedS (gvS s gs) = (owedS s).filter fun g => !gs.any fun g' => decide (g' = g) := by
  simp only [owedS, List.filter_flatten, List.map_map]
  congr 1
  show s.lives.zipIdx.map _ = _
  apply List.map_congr_left
  intro p _
  exact owedL_gv s gs p.2 p.1
theorem mem_owedL {s : SvD} {k : Nat} {x : LD} {g : GD} : g ∈ owedL s k x ↔ x.up = true ∧ ∃ e ∈ s.events, matchF x.filter e.2.1 = true ∧ (s.given.any fun g' => decide (g' = g)) = false ∧ g = ⟨k, x.inc, e.1⟩ := by
  cases hu : x.up with
  | false => simp [owedL, hu]
  | true =>
    rw [owedL_up _ k x hu]
    simp only [List.mem_map, List.mem_filter, owP, Bool.and_eq_true, Bool.not_eq_true', owG, true_and]
    constructor
    · rintro ⟨e, ⟨h1, h2, h3⟩, rfl⟩; exact ⟨e, h1, h2, h3, rfl⟩
    · rintro ⟨e, h1, h2, h3, rfl⟩; exact ⟨e, ⟨h1, h2, h3⟩, rfl⟩
theorem mem_owI {s : SvD} {g : GD} : ∀ {i : Nat}, i ≤ s.lives.length → (g ∈ owI s i ↔ ∃ k x, k < i ∧ s.lives[k]? = some x ∧ g ∈ owedL s k x)
  | 0, _ => by simp [owI]
  | i + 1, h => by
    have hx := List.getElem?_eq_getElem (show i < s.lives.length by omega)
    rw [owI_step hx, List.mem_append, mem_owI (show i ≤ s.lives.length by omega)]
    constructor
    · rintro (⟨k, x, h1, h2, h3⟩ | h1)
      · exact ⟨k, x, by omega, h2, h3⟩
      · exact ⟨i, _, by omega, hx, h1⟩
    · rintro ⟨k, x, h1, h2, h3⟩
      rcases Nat.lt_or_ge k i with h4 | h4
      · exact .inl ⟨k, x, h4, h2, h3⟩
      · have : k = i := by omega
        subst this
        rw [hx] at h2; cases h2
        exact .inr h3
theorem mem_owed {s : SvD} {g : GD} : g ∈ owedS s ↔ ∃ k x, s.lives[k]? = some x ∧ g ∈ owedL s k x := by
  rw [← owI_end, mem_owI (Nat.le_refl _)]
  constructor
  · rintro ⟨k, x, _, h2, h3⟩; exact ⟨k, x, h2, h3⟩
  · rintro ⟨k, x, h2, h3⟩; exact ⟨k, x, (List.getElem?_eq_some_iff.1 h2).1, h2, h3⟩
theorem owedL_nodup {s : SvD} (hs : Iv s) (k : Nat) (x : LD) : (owedL s k x).Nodup := by
  cases hu : x.up with
  | false => simp [owedL, hu]
  | true =>
    rw [owedL_up _ k x hu]
    have h1 : (s.events.filter (owP s k x)).map (owG k x) = ((s.events.filter (owP s k x)).map (·.1)).map (fun i => (⟨k, x.inc, i⟩ : GD)) := by rw [List.map_map]; rfl
    rw [h1]
    have h2 : ((s.events.filter (owP s k x)).map (·.1)).Nodup := (List.filter_sublist.map _).nodup hs.un
    exact List.Pairwise.map _ (fun a b hab h => hab (by cases h; rfl)) h2
theorem owI_nodup {s : SvD} (hs : Iv s) : ∀ {i : Nat}, i ≤ s.lives.length → (owI s i).Nodup
  | 0, _ => by simp [owI]
  | i + 1, h => by
    have hx := List.getElem?_eq_getElem (show i < s.lives.length by omega)
    rw [owI_step hx, List.nodup_append]
    refine ⟨owI_nodup hs (by omega), owedL_nodup hs i _, fun a ha b hb e => ?_⟩
    subst e
    obtain ⟨k, y, h1, h2, h3⟩ := (mem_owI (by omega)).1 ha
    obtain ⟨_, e1, _, _, _, g1⟩ := mem_owedL.1 h3
    obtain ⟨_, e2, _, _, _, g2⟩ := mem_owedL.1 hb
    rw [g1] at g2
    have := congrArg GD.node g2
    simp only at this
    omega
theorem owed_nodup {s : SvD} (hs : Iv s) : (owedS s).Nodup := by rw [← owI_end]; exact owI_nodup hs (Nat.le_refl _)
/-- May it be given? -/
theorem may_owed {s : SvD} (hs : Iv s) {k : Nat} {x : LD} {e : EvD} (hx : s.lives[k]? = some x) (he : e ∈ s.events) : doE s (dd 5 k [] [] e.1) = 0 ↔ (⟨k, x.inc, e.1⟩ : GD) ∈ owedS s := by
  have h1 : doE s (dd 5 k [] [] e.1) = refE s x (dd 5 k [] [] e.1) := doE_at (by simp [kn, dd]) (dd_at hx)
  rw [h1, mem_owed]
  have h2 : refE s x (dd 5 k [] [] e.1) = if x.up = false then 53 else dlvE s x (dd 5 k [] [] e.1) := by simp [refE, dd]
  rw [h2, dlv_in (d := dd 5 k [] [] e.1) hs.un he rfl]
  show (if x.up = false then (53 : Int) else if matchF x.filter e.2.1 = false then 263 else if (s.given.any fun g => decide (g = (⟨(k : Int), x.inc, e.1⟩ : GD))) = true then 262 else 0) = 0 ↔ _
  constructor
  · intro h
    refine ⟨k, x, hx, mem_owedL.2 ?_⟩
    by_cases a1 : x.up = false
    · simp [a1] at h
    · by_cases a2 : matchF x.filter e.2.1 = false
      · simp [a1, a2] at h
      · by_cases a3 : (s.given.any fun g => decide (g = (⟨(k : Int), x.inc, e.1⟩ : GD))) = true
        · rw [if_neg a1, if_neg a2, if_pos a3] at h; cases h
        · exact ⟨by simpa using a1, e, he, by simpa using a2, eq_false_of_ne_true a3, rfl⟩
  · rintro ⟨k', x', h3, h4⟩
    obtain ⟨u1, e', he', u2, u3, u4⟩ := mem_owedL.1 h4
    have hk : k = k' := by have := congrArg GD.node u4; simp only at this; omega
    subst hk
    rw [hx] at h3; cases h3
    have hee : e = e' := by
      have hid : e.1 = e'.1 := congrArg GD.id u4
      have f1 := find_of hs.un he
      have f2 := find_of hs.un he'
      rw [hid, f2] at f1
      cases f1; rfl
    subst hee
    rw [if_neg (by simp [u1]), if_neg (by simp [u2]), if_neg (by rw [u3]; decide)]
/-- What is owed is of nodes, lives and events. -/
theorem owed_of {s : SvD} {g : GD} (hg : g ∈ owedS s) : ∃ (k : Nat) (x : LD) (e : EvD), s.lives[k]? = some x ∧ e ∈ s.events ∧ g = ⟨k, x.inc, e.1⟩ := by
  obtain ⟨k, x, h1, h2⟩ := mem_owed.1 hg
  obtain ⟨_, e, h3, _, _, h4⟩ := mem_owedL.1 h2
  exact ⟨k, x, e, h1, h3, h4⟩
theorem gvS_iv {s : SvD} (hs : Iv s) (gs : List GD) : Iv (gvS s gs) := ⟨hs.un, hs.ev⟩
/-- One more is given. -/
theorem give_one {s : SvD} (hs : Iv s) {gs : List GD} {g : GD} (hg : g ∈ owedS s) (hn : g ∉ gs) : doE (gvS s gs) (dd 5 g.node [] [] g.id) = 0 ∧ doS (gvS s gs) (dd 5 g.node [] [] g.id) = gvS s (gs ++ [g]) ∧ (owedS (gvS s (gs ++ [g]))).length + 1 = (owedS (gvS s gs)).length := by
  obtain ⟨k, x, e, hx, he, rfl⟩ := owed_of hg
  have hm : (⟨k, x.inc, e.1⟩ : GD) ∈ owedS (gvS s gs) := by
    rw [owedS_gv, List.mem_filter]
    refine ⟨hg, ?_⟩
    simp only [Bool.not_eq_true', List.any_eq_false, decide_eq_true_eq]
    intro y hy e'
    subst e'
    exact hn hy
  have h0 : doE (gvS s gs) (dd 5 (k : Int) [] [] e.1) = 0 := (may_owed (gvS_iv hs gs) (x := x) hx he).2 hm
  refine ⟨h0, ?_, ?_⟩
  · rw [(doS_ok h0 (x := x) (dd_at hx)).1]
    have h1 : nextL (gvS s gs) x (dd 5 (k : Int) [] [] e.1) = x := by simp [nextL, dd]
    simp only [effS, h1]
    have h2 : (gvS s gs).lives.set (dd 5 (k : Int) [] [] e.1).node.toNat x = s.lives := by
      obtain ⟨a, b⟩ := List.getElem?_eq_some_iff.1 hx
      show s.lives.set ((k : Int).toNat) x = s.lives
      rw [Int.toNat_natCast, ← b, List.set_getElem_self]
    rw [h2]
    simp [gvS, dd]
  · have h3 : owedS (gvS s (gs ++ [⟨k, x.inc, e.1⟩])) = (owedS (gvS s gs)).erase ⟨k, x.inc, e.1⟩ := by
      have h4 : gvS s (gs ++ [⟨k, x.inc, e.1⟩]) = gvS (gvS s gs) [⟨k, x.inc, e.1⟩] := by simp [gvS]
      rw [h4, owedS_gv, List.Nodup.erase_eq_filter (owed_nodup (gvS_iv hs gs))]
      apply List.filter_congr
      intro y _
      simp only [List.any_cons, List.any_nil, Bool.or_false]
      by_cases hy : (⟨k, x.inc, e.1⟩ : GD) = y
      · subst hy; simp
      · rw [decide_eq_false hy]
        have hy2 : y ≠ ⟨k, x.inc, e.1⟩ := fun e => hy e.symm
        simp [hy2]
    rw [h3, List.length_erase_of_mem hm]
    have := List.length_pos_of_mem hm
    omega
/-- Given one by one, turned. -/
def turn (l : List GD) (k : Nat) : List GD := l.drop k ++ l.take k
theorem turn_nodup {l : List GD} (h : l.Nodup) (k : Nat) : (turn l k).Nodup := by
  rw [← List.take_append_drop k l, List.nodup_append] at h
  rw [turn, List.nodup_append]
  exact ⟨h.2.1, h.1, fun a ha b hb e => h.2.2 b hb a ha e.symm⟩
theorem turn_mem {l : List GD} {k : Nat} {g : GD} : g ∈ turn l k ↔ g ∈ l := by
  conv => rhs; rw [← List.take_append_drop k l]
  simp only [turn, List.mem_append]
  exact Or.comm
theorem turn_len (l : List GD) (k : Nat) : (turn l k).length = l.length := by
  simp only [turn, List.length_append, List.length_drop, List.length_take]
  omega
theorem give_at {s : SvD} (hs : Iv s) {k j : Nat} {g : GD} (hg : (turn (owedS s) k)[j]? = some g) : doE (gvS s ((turn (owedS s) k).take j)) (dd 5 g.node [] [] g.id) = 0 ∧ doS (gvS s ((turn (owedS s) k).take j)) (dd 5 g.node [] [] g.id) = gvS s ((turn (owedS s) k).take (j + 1)) ∧ (owedS (gvS s ((turn (owedS s) k).take (j + 1)))).length + 1 = (owedS (gvS s ((turn (owedS s) k).take j))).length := by
  have hmem : g ∈ owedS s := turn_mem.1 (List.mem_of_getElem? hg)
  have hnd := turn_nodup (owed_nodup hs) k
  have hn : g ∉ (turn (owedS s) k).take j := by
    intro hc
    obtain ⟨i, hi⟩ := List.getElem?_of_mem hc
    rw [List.getElem?_take] at hi
    split at hi
    · rename_i hij
      obtain ⟨a1, a2⟩ := List.getElem?_eq_some_iff.1 hi
      obtain ⟨b1, b2⟩ := List.getElem?_eq_some_iff.1 hg
      have := List.pairwise_iff_getElem.1 hnd i j a1 b1 hij
      exact this (a2.trans b2.symm)
    · cases hi
  have := give_one hs (gs := (turn (owedS s) k).take j) hmem hn
  rwa [← take_step hg] at this
theorem gv_len {s : SvD} (hs : Iv s) (k : Nat) : ∀ j, j ≤ (owedS s).length → (owedS (gvS s ((turn (owedS s) k).take j))).length + j = (owedS s).length
  | 0, _ => by
    have : gvS s ((turn (owedS s) k).take 0) = s := by simp [gvS]
    rw [this]; rfl
  | j + 1, h => by
    have h1 : j < (turn (owedS s) k).length := by rw [turn_len]; omega
    have h2 := (give_at hs (List.getElem?_eq_getElem h1)).2.2
    have h3 := gv_len hs k j (by omega)
    omega
theorem gv_end {s : SvD} (hs : Iv s) (k : Nat) : (owedS (gvS s (turn (owedS s) k))).length = 0 := by
  have := gv_len hs k (owedS s).length (Nat.le_refl _)
  rw [List.take_of_length_le (by rw [turn_len]; exact Nat.le_refl _)] at this
  omega
/-- There is no more owed than events for all lives. -/
theorem owed_len (s : SvD) : (owedS s).length ≤ s.lives.length * s.events.length := by rw [← owI_end]; exact owI_len _ _ (Nat.le_refl _)
theorem gvS_B {k : Nat} {s : SvD} (hs : SvB k s) (gs : List GD) {m : Nat} (h : gs.length ≤ m) : SvB (k + m) (gvS s gs) := ⟨hs.lives, hs.filt, hs.schema, by have := hs.events; show s.events.length ≤ _; omega, hs.vals, by have := hs.given; show (s.given ++ gs).length ≤ _; rw [List.length_append]; omega⟩
theorem gvS_id (s : SvD) (gs : List GD) : (⟨(gvS s gs).lives, (gvS s gs).schema, (gvS s gs).last, (gvS s gs).events, s.given⟩ : SvD) = s := rfl
end Go.Proofs.Ytogepedlalfpjaa
