/- Scripts cut at a place: a part that ends between two steps is one, any other is none. -/
import Derived.Test.YtikkkfamflmgeaaStP
namespace Go.Proofs.Ytikkkfamflmgeaa
open Go Go.GV
attribute [local irreducible] cw Go.GV.SpecM Go.GV.wpList Exit.then Exit.inBlock Go.GV.bodyPost wpPl wpPm wpPn TS rnd rPost YieldsB wpPT ptK
set_option linter.unusedVariables false
set_option linter.unusedSimpArgs false
theorem rdN_more {t : Bool} {n : Nat} {b r : List Int} {v : Int} (s : List Int) (h : rdN t n b = some (v, r)) : rdN t n (b ++ s) = some (v, r ++ s) := by
  cases t with
  | false => simp only [rdN, Bool.false_eq_true, if_false, Option.some.injEq, Prod.mk.injEq] at h ⊢; obtain ⟨rfl, rfl⟩ := h; exact ⟨rfl, rfl⟩
  | true =>
    simp only [rdN, if_true] at h ⊢
    split at h
    · cases h
    · rename_i hl
      simp only [Option.some.injEq, Prod.mk.injEq] at h
      obtain ⟨rfl, rfl⟩ := h
      rw [if_neg (by simp only [List.length_append]; omega), List.take_append_of_le_length (by omega), List.drop_append_of_le_length (by omega)]
theorem rdSpans_more (s : List Int) : ∀ (k : Nat) (b r : List Int) (l : List Sp), rdSpans k b = some (l, r) → rdSpans k (b ++ s) = some (l, r ++ s)
  | 0, b, r, l, h => by simp only [rdSpans, Option.some.injEq, Prod.mk.injEq] at h ⊢; obtain ⟨rfl, rfl⟩ := h; exact ⟨rfl, rfl⟩
  | k + 1, b, r, l, h => by
    simp only [rdSpans, Option.bind_eq_some_iff, Prod.exists, Option.some.injEq, Prod.mk.injEq] at h ⊢
    obtain ⟨v, b1, h1, u, b2, h2, l', r', h3, rfl, rfl⟩ := h
    exact ⟨v, b1 ++ s, rdN_more s h1, u, b2 ++ s, rdN_more s h2, l', r' ++ s, rdSpans_more s k b2 r' l' h3, rfl, rfl⟩
theorem rdVals_more (s : List Int) : ∀ (k : Nat) (b r : List Int) (l : List Int), rdVals k b = some (l, r) → rdVals k (b ++ s) = some (l, r ++ s)
  | 0, b, r, l, h => by simp only [rdVals, Option.some.injEq, Prod.mk.injEq] at h ⊢; obtain ⟨rfl, rfl⟩ := h; exact ⟨rfl, rfl⟩
  | k + 1, b, r, l, h => by
    simp only [rdVals, Option.bind_eq_some_iff, Prod.exists, Option.some.injEq, Prod.mk.injEq] at h ⊢
    obtain ⟨v, b1, h1, l', r', h3, rfl, rfl⟩ := h
    exact ⟨v, b1 ++ s, rdN_more s h1, l', r' ++ s, rdVals_more s k b1 r' l' h3, rfl, rfl⟩
theorem rdText_more {t : Bool} {b d r : List Int} (s : List Int) (h : rdText t b = some (d, r)) : rdText t (b ++ s) = some (d, r ++ s) := by
  cases t with
  | false => simp only [rdText, Bool.false_eq_true, if_false, Option.some.injEq, Prod.mk.injEq] at h ⊢; obtain ⟨rfl, rfl⟩ := h; exact ⟨rfl, rfl⟩
  | true =>
    simp only [rdText, if_true] at h ⊢
    split at h
    · rename_i hk
      simp only [Option.some.injEq, Prod.mk.injEq] at h
      obtain ⟨rfl, rfl⟩ := h
      have hk1 := hk
      simp only [tkOk, Bool.and_eq_true, decide_eq_true_eq] at hk1
      have hl : 2 ≤ b.length := by omega
      have e2 : two (b ++ s) = two b := by simp only [two, List.getD_eq_getElem?_getD]; rw [List.getElem?_append_left (by omega), List.getElem?_append_left (by omega)]
      have hk2 : tkOk (b ++ s) 65535 = true := by
        simp only [tkOk, e2, List.length_append, Bool.and_eq_true, decide_eq_true_eq]; omega
      rw [if_pos hk2]
      simp only [tkT, tkR, hk, hk2, if_true, e2, Option.some.injEq, Prod.mk.injEq]
      rw [List.drop_append_of_le_length (by omega), List.take_append_of_le_length (by simp only [List.length_drop]; omega), List.drop_append_of_le_length (by simp only [List.length_drop]; omega)]
      exact ⟨rfl, rfl⟩
    · cases h
theorem rd_more {b r : List Int} {x : SD} (s : List Int) (h : rd b = some (x, r)) : rd (b ++ s) = some (x, r ++ s) := by
  simp only [rd, Option.bind_eq_some_iff, Prod.exists] at h ⊢
  obtain ⟨k, b0, h0, h⟩ := h
  refine ⟨k, b0 ++ s, rdN_more s h0, ?_⟩
  cases hk : known k with
  | false => simp [hk] at h
  | true =>
    simp only [hk, cond_true, Option.bind_eq_some_iff, Prod.exists, Option.some.injEq, Prod.mk.injEq] at h ⊢
    obtain ⟨nd, b1, h1, ot, b2, h2, a, b3, h3, t, b4, h4, f, b5, h5, u, b6, h6, cf, b7, h7, fl, b8, h8, cv, b9, h9, vs, b10, h10, da, b11, h11, rfl, rfl⟩ := h
    exact ⟨nd, _, rdN_more s h1, ot, _, rdN_more s h2, a, _, rdN_more s h3, t, _, rdN_more s h4, f, _, rdN_more s h5, u, _, rdN_more s h6, cf, _, rdN_more s h7, fl, _, rdSpans_more s _ _ _ _ h8, cv, _, rdN_more s h9, vs, _, rdVals_more s _ _ _ _ h10, da, _, rdText_more s h11, rfl, rfl⟩
/-- A step that is cut is none. -/
theorem rd_cut {x : SD} (hr : SdR x) (hk : stepOk x = true) {k : Nat} (h : k < (wr x).length) : rd ((wr x).take k) = none := by
  cases e : rd ((wr x).take k) with
  | none => rfl
  | some p =>
    obtain ⟨y, r⟩ := p
    have h1 := rd_more ((wr x).drop k) e
    rw [List.take_append_drop] at h1
    have h2 := rd_wr hr hk []
    rw [List.append_nil, h1] at h2
    simp only [Option.some.injEq, Prod.mk.injEq, List.append_eq_nil_iff, List.drop_eq_nil_iff] at h2
    omega
theorem wr_two {x : SD} (hk : stepOk x = true) : 2 ≤ (wr x).length := by
  have h0 : known x.kind = true := by simp only [stepOk, Bool.and_eq_true] at hk; exact hk.1.1.1.1.1.1.1.1.1
  simp only [known, Bool.and_eq_true, decide_eq_true_eq] at h0
  by_cases hc : hAt x.kind = true
  · simp [wr, putIf, putB_len, hc]; omega
  · have : hNode x.kind = true := by simp only [hAt, hNode, Bool.and_eq_true, Bool.or_eq_true, decide_eq_true_eq] at hc ⊢; omega
    simp [wr, putIf, putB_len, this]; omega
/-- What a script says, cut anywhere. -/
theorem parse_take : ∀ (l : List SD) (k : Nat), (∀ x ∈ l, SdR x) → l.all stepOk = true → k ≤ (wrs l).length → ((∃ i, i ≤ l.length ∧ k = (wrs (l.take i)).length ∧ parse ((wrs l).take k) = (l.take i, 0)) ∨ parse ((wrs l).take k) = ([], 10))
  | [], k, _, _, hk => .inl ⟨0, by simp, by simpa [wrs] using hk, by simp [wrs, parse_nil]⟩
  | x :: l, k, hr, hs, hk => by
    simp only [List.all_cons, Bool.and_eq_true] at hs
    have hx := hr x (by simp)
    have hr' : ∀ y ∈ l, SdR y := fun y hy => hr y (by simp [hy])
    by_cases h0 : k = 0
    · subst h0; exact .inl ⟨0, by simp, by simp [wrs], by simp [parse_nil]⟩
    · rw [wrs_cons, List.length_append] at hk
      by_cases hlt : k < (wr x).length
      · right
        rw [wrs_cons, List.take_append_of_le_length (by omega), parse_step ((wr_b8 hx).take k) (by intro e; have := congrArg List.length e; rw [List.length_take, List.length_nil] at this; omega), rd_cut hx hs.1 hlt]
      · have e1 : (wr x ++ wrs l).take k = wr x ++ (wrs l).take (k - (wr x).length) := by rw [List.take_append, List.take_of_length_le (by omega)]
        have hb : B8 ((wrs l).take (k - (wr x).length)) := (wrs_b8 hr').take _
        have e2 : parse ((wrs (x :: l)).take k) = comb [x] (parse ((wrs l).take (k - (wr x).length))) := by
          rw [wrs_cons, e1, parse_step ((wr_b8 hx).append hb) (by intro e; have := wr_pos x; rw [List.append_eq_nil_iff] at e; rw [e.1] at this; simp at this), rd_wr hx hs.1]
          simp only
          rw [if_pos hs.1]
        rw [e2]
        rcases parse_take l (k - (wr x).length) hr' hs.2 (by omega) with ⟨i, hi, hki, hp⟩ | hp
        · left
          refine ⟨i + 1, by simp; omega, ?_, ?_⟩
          · rw [List.take_succ_cons, wrs_cons, List.length_append, ← hki]; omega
          · rw [hp]; simp [comb]
        · right; rw [hp]; simp [comb]
theorem wrs_split (l : List SD) (i : Nat) : wrs l = wrs (l.take i) ++ wrs (l.drop i) := by rw [← wrs_append, List.take_append_drop]
theorem parse_drop {l : List SD} {k i : Nat} (hr : ∀ x ∈ l, SdR x) (hs : l.all stepOk = true) (hki : k = (wrs (l.take i)).length) : parse ((wrs l).drop k) = (l.drop i, 0) := by
  have : (wrs l).drop k = wrs (l.drop i) := by rw [wrs_split l i, hki, List.drop_left]
  rw [this]
  refine parse_back (fun x hx => hr x (List.mem_of_mem_drop hx)) ?_
  rw [List.all_eq_true] at hs ⊢
  exact fun x hx => hs x (List.mem_of_mem_drop hx)
theorem wrs_one {l : List SD} (hs : l.all stepOk = true) : (wrs l).length ≠ 1 := by
  cases l with
  | nil => simp [wrs]
  | cons x l =>
    simp only [List.all_cons, Bool.and_eq_true] at hs
    rw [wrs_cons, List.length_append]
    have := wr_two hs.1
    omega
/-- Without its last byte a script is none. -/
theorem parse_short {l : List SD} (hr : ∀ x ∈ l, SdR x) (hs : l.all stepOk = true) (h0 : l ≠ []) : parse ((wrs l).take ((wrs l).length - 1)) = ([], 10) := by
  have hl : 0 < (wrs l).length := by
    cases l with
    | nil => exact absurd rfl h0
    | cons x l => rw [wrs_cons, List.length_append]; have := wr_pos x; omega
  rcases parse_take l ((wrs l).length - 1) hr hs (by omega) with ⟨i, hi, hki, _⟩ | hp
  · have e := congrArg List.length (wrs_split l i)
    rw [List.length_append] at e
    have h1 : (wrs (l.drop i)).length ≠ 1 := wrs_one (by rw [List.all_eq_true] at hs ⊢; exact fun x hx => hs x (List.mem_of_mem_drop hx))
    omega
  · exact hp
/-- What the law ScriptParts asks of a cut. -/
theorem parts_cut {l : List SD} {k : Nat} (hr : ∀ x ∈ l, SdR x) (hs : l.all stepOk = true) (hk : k ≤ (wrs l).length) :
    ((parse ((wrs l).take k)).2 = 0 ∧ (parse ((wrs l).drop k)).2 = 0 ∧ (parse ((wrs l).take k)).1 ++ (parse ((wrs l).drop k)).1 = l) ∨ (parse ((wrs l).take k)).2 = 10 := by
  rcases parse_take l k hr hs hk with ⟨i, hi, hki, hp⟩ | hp
  · left
    rw [hp, parse_drop hr hs hki]
    exact ⟨rfl, rfl, by simp⟩
  · right; rw [hp]
end Go.Proofs.Ytikkkfamflmgeaa
