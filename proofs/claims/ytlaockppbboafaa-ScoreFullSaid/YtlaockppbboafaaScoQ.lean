/- Plain laws on overlaps. -/
import Derived.Test.YtlaockppbboafaaScoreP
namespace Go.Proofs.Ytlaockppbboafaa
open Go Go.GV
attribute [local irreducible] cw Go.GV.wpList Exit.then Exit.inBlock Go.GV.bodyPost wpPl wpPm wpPn TS rnd rPost YieldsB wpPT ptK
set_option linter.unusedVariables false
set_option linter.unusedSimpArgs false
theorem ovl_comm (a b : List Sp) : ovl a b = ovl b a := by rw [ovl, ovl, meetF_comm]
theorem mulS_mono {n n' : Int} {s s' : Sp} (hn : 0 ≤ n) (h1 : n ≤ n') (h2 : lnS s ≤ lnS s') : mulS n s ≤ mulS n' s' := by
  have h3 := (ln_bd s.1 s.2).1
  have := Int.mul_le_mul h1 h2 h3 (by omega)
  unfold mulS; omega
def LeL (x y : Sp) : Prop := lnS x ≤ lnS y
theorem fold_mono : ∀ (l m : List Sp) (n n' : Int), All2 LeL l m → 0 ≤ n → n ≤ n' → l.foldl mulS n ≤ m.foldl mulS n'
  | [], [], _, _, _, _, h => h
  | [], _ :: _, _, _, h, _, _ => h.elim
  | _ :: _, [], _, _, h, _, _ => h.elim
  | x :: l, y :: m, n, n', h, h0, h1 => by
    simp only [List.foldl_cons]
    refine fold_mono l m _ _ h.2 ?_ (mulS_mono h0 h1 h.1)
    have := Int.mul_nonneg h0 (ln_bd x.1 x.2).1
    unfold mulS lnS; omega
theorem prodS_mono {l m : List Sp} (h : All2 LeL l m) : prodS l ≤ prodS m := fold_mono l m 1 1 h (by decide) (by decide)
theorem fold_pos : ∀ (l : List Sp) (n : Int), (∀ x ∈ l, 1 ≤ lnS x) → 1 ≤ n → 1 ≤ l.foldl mulS n
  | [], _, _, h => h
  | x :: l, n, h, h1 => by
    simp only [List.foldl_cons]
    refine fold_pos l _ (fun y hy => h y (by simp [hy])) ?_
    have h2 := h x (by simp)
    have := Int.mul_le_mul h1 h2 (by decide) (by omega)
    unfold mulS; omega
theorem mtb_ln {x y : Sp} (h : mtb (x, y) = true) : 1 ≤ lnS (mtp (x, y)) ∧ lnS (mtp (x, y)) ≤ lnS x ∧ lnS (mtp (x, y)) ≤ lnS y ∧ mtb (x, x) = true ∧ mtp (x, x) = x := by
  obtain ⟨x1, x2⟩ := x
  obtain ⟨y1, y2⟩ := y
  simp only [mtb, mtp, mtOk, mt1, mt2, lnS, ln, decide_eq_true_eq, Prod.mk.injEq] at *
  rw [if_pos h, if_pos h]
  refine ⟨?_, ?_, ?_, ?_, ?_⟩
  · split <;> omega
  · repeat' split
    all_goals omega
  · repeat' split
    all_goals omega
  · omega
  · constructor
    · rw [if_pos (by omega)]; omega
    · rw [if_pos (by omega)]; omega
theorem meet_ln : ∀ (a b : List Sp), a.length = b.length → (a.zip b).all mtb = true → All2 LeL ((a.zip b).map mtp) a ∧ (a.zip a).all mtb = true ∧ (a.zip a).map mtp = a ∧ ∀ x ∈ (a.zip b).map mtp, 1 ≤ lnS x
  | [], [], _, _ => ⟨trivial, by simp, by simp, by simp⟩
  | [], _ :: _, h, _ => by simp at h
  | _ :: _, [], h, _ => by simp at h
  | x :: a, y :: b, hl, h => by
    simp only [List.zip_cons_cons, List.all_cons, Bool.and_eq_true, List.map_cons] at *
    have ih := meet_ln a b (by simpa using hl) h.2
    have k := mtb_ln h.1
    refine ⟨⟨k.2.1, ih.1⟩, ⟨k.2.2.2.1, ih.2.1⟩, by rw [ih.2.2.1, k.2.2.2.2], fun z hz => ?_⟩
    rcases List.mem_cons.1 hz with rfl | hz
    · exact k.1
    · exact ih.2.2.2 z hz
theorem ovl_zero (a b : List Sp) : (ovl a b == 0) = decide ((meetF a b).length = 0) := by
  unfold ovl ovlM
  split
  · rename_i h; simp [h]
  · rename_i h
    have : 1 ≤ prodS (meetF a b) := by
      unfold meetF at *
      split
      · rename_i h2
        exact fold_pos _ 1 (meet_ln a b h2.1 h2.2).2.2.2 (by decide)
      · decide
    rw [decide_eq_false h]
    simp; omega
theorem ovl_nonneg (a b : List Sp) : 0 ≤ ovl a b := (ovlM_bd _).1
theorem ovl_le_self (a b : List Sp) : ovl a b ≤ ovl a a := by
  unfold ovl
  unfold meetF
  by_cases h : a.length = b.length ∧ (a.zip b).all mtb = true
  · have k := meet_ln a b h.1 h.2
    rw [if_pos h, if_pos ⟨rfl, k.2.1⟩, k.2.2.1]
    unfold ovlM
    by_cases h0 : a.length = 0
    · rw [if_pos (by rw [List.length_map, List.length_zip]; omega), if_pos h0]; exact Int.le_refl _
    · rw [if_neg (by rw [List.length_map, List.length_zip]; omega), if_neg h0]
      exact prodS_mono k.1
  · rw [if_neg h]
    exact (ovlM_bd _).1
theorem mtp_ok {x y : Sp} (h : mtb (x, y) = true) : mtb (mtp (x, y), mtp (x, y)) = true ∧ mtp (mtp (x, y), mtp (x, y)) = mtp (x, y) := by
  obtain ⟨x1, x2⟩ := x
  obtain ⟨y1, y2⟩ := y
  simp only [mtb, mtp, mtOk, mt1, mt2, decide_eq_true_eq, Prod.mk.injEq] at *
  simp only [if_pos h]
  grind
theorem meet_idem_aux : ∀ (a b : List Sp), a.length = b.length → (a.zip b).all mtb = true → (((a.zip b).map mtp).zip ((a.zip b).map mtp)).all mtb = true ∧ (((a.zip b).map mtp).zip ((a.zip b).map mtp)).map mtp = (a.zip b).map mtp
  | [], [], _, _ => by simp
  | [], _ :: _, h, _ => by simp at h
  | _ :: _, [], h, _ => by simp at h
  | x :: a, y :: b, hl, h => by
    simp only [List.zip_cons_cons, List.all_cons, Bool.and_eq_true, List.map_cons] at *
    have ih := meet_idem_aux a b (by simpa using hl) h.2
    have k := mtp_ok h.1
    exact ⟨⟨k.1, ih.1⟩, by rw [ih.2, k.2]⟩
theorem meet_idem (a b : List Sp) : meetF (meetF a b) (meetF a b) = meetF a b := by
  by_cases h : a.length = b.length ∧ (a.zip b).all mtb = true
  · have e : meetF a b = (a.zip b).map mtp := by unfold meetF; rw [if_pos h]
    have k := meet_idem_aux a b h.1 h.2
    rw [e]
    unfold meetF
    rw [if_pos ⟨rfl, k.1⟩, k.2]
  · have e : meetF a b = [] := by unfold meetF; rw [if_neg h]
    rw [e]; rfl
theorem ovl_mm (a b : List Sp) : ovl (meetF a b) (meetF a b) = ovl a b := by unfold ovl; rw [meet_idem]
theorem mtp3 {x y z : Sp} (h1 : mtb (x, z) = true) (h : mtb (mtp (x, z), y) = true) : mtb (x, y) = true ∧ lnS (mtp (mtp (x, z), y)) ≤ lnS (mtp (x, y)) := by
  obtain ⟨x1, x2⟩ := x
  obtain ⟨y1, y2⟩ := y
  obtain ⟨z1, z2⟩ := z
  simp only [mtb, mtp, mtOk, mt1, mt2, lnS, ln, decide_eq_true_eq] at *
  simp only [if_pos h1] at *
  simp only [if_pos h] at *
  have : max x1 y1 ≤ min x2 y2 := by omega
  simp only [if_pos this]
  refine ⟨this, ?_⟩
  repeat' split
  all_goals omega
theorem grow_aux : ∀ (a b c : List Sp), a.length = c.length → a.length = b.length → (a.zip c).all mtb = true → (((a.zip c).map mtp).zip b).all mtb = true → (a.zip b).all mtb = true ∧ All2 LeL ((((a.zip c).map mtp).zip b).map mtp) ((a.zip b).map mtp)
  | [], [], [], _, _, _, _ => by simp [All2]
  | _ :: _, _, [], h, _, _, _ => by simp at h
  | [], _, _ :: _, h, _, _, _ => by simp at h
  | _ :: _, [], _, _, h, _, _ => by simp at h
  | [], _ :: _, _, _, h, _, _ => by simp at h
  | x :: a, y :: b, z :: c, h1, h2, h3, h4 => by
    simp only [List.zip_cons_cons, List.all_cons, Bool.and_eq_true, List.map_cons] at *
    have ih := grow_aux a b c (by simpa using h1) (by simpa using h2) h3.2 h4.2
    have k := mtp3 h3.1 h4.1
    exact ⟨⟨k.1, ih.1⟩, k.2, ih.2⟩
theorem ovl_grow (a b c : List Sp) : ovl (meetF a c) b ≤ ovl a b := by
  by_cases h : a.length = c.length ∧ (a.zip c).all mtb = true
  · have e : meetF a c = (a.zip c).map mtp := by unfold meetF; rw [if_pos h]
    rw [e]
    unfold ovl
    by_cases h2 : ((a.zip c).map mtp).length = b.length ∧ (((a.zip c).map mtp).zip b).all mtb = true
    · have hl : a.length = b.length := by have := h2.1; simp at this; omega
      have k := grow_aux a b c h.1 hl h.2 h2.2
      have e2 : meetF ((a.zip c).map mtp) b = (((a.zip c).map mtp).zip b).map mtp := by unfold meetF; rw [if_pos h2]
      have e3 : meetF a b = (a.zip b).map mtp := by unfold meetF; rw [if_pos ⟨hl, k.1⟩]
      rw [e2, e3]
      unfold ovlM
      by_cases h0 : a.length = 0
      · rw [if_pos (by simp only [List.length_map, List.length_zip]; omega), if_pos (by simp only [List.length_map, List.length_zip]; omega)]; exact Int.le_refl _
      · rw [if_neg (by simp only [List.length_map, List.length_zip]; omega), if_neg (by simp only [List.length_map, List.length_zip]; omega)]
        exact prodS_mono k.2
    · have e2 : meetF ((a.zip c).map mtp) b = [] := by unfold meetF; rw [if_neg h2]
      rw [e2]
      exact (ovlM_bd _).1
  · have e : meetF a c = [] := by unfold meetF; rw [if_neg h]
    rw [e]
    have : ovl [] b = 0 := by
      unfold ovl meetF ovlM
      split <;> simp
    rw [this]
    exact (ovlM_bd _).1
theorem cov_mtp {x y : Sp} (h : covb (y, x) = true) : mtb (x, y) = mtb (x, x) ∧ (mtb (x, x) = true → mtp (x, y) = mtp (x, x)) := by
  obtain ⟨x1, x2⟩ := x
  obtain ⟨y1, y2⟩ := y
  simp only [mtb, mtp, mtOk, mt1, mt2, covb, cov, Bool.or_eq_true, Bool.and_eq_true, decide_eq_true_eq, Prod.mk.injEq] at *
  constructor
  · rw [Bool.eq_iff_iff]; simp; omega
  · intro hx
    rw [if_pos hx, if_pos (by omega), if_pos (by omega)]
    omega
theorem cov_aux : ∀ (a b : List Sp), a.length = b.length → (b.zip a).all covb = true → (a.zip b).all mtb = (a.zip a).all mtb ∧ ((a.zip a).all mtb = true → (a.zip b).map mtp = (a.zip a).map mtp)
  | [], [], _, _ => by simp
  | [], _ :: _, h, _ => by simp at h
  | _ :: _, [], h, _ => by simp at h
  | x :: a, y :: b, hl, h => by
    simp only [List.zip_cons_cons, List.all_cons, Bool.and_eq_true, List.map_cons] at *
    have ih := cov_aux a b (by simpa using hl) h.2
    have k := cov_mtp h.1
    refine ⟨by rw [ih.1, k.1], fun hh => by rw [ih.2 hh.2, k.2 hh.1]⟩
theorem ovl_cov {a b : List Sp} (h : coversF b a = true) : ovl a b = ovl a a := by
  simp only [coversF, Bool.or_eq_true, decide_eq_true_eq, Bool.and_eq_true] at h
  rcases h with h | h
  · have : a = [] := List.length_eq_zero_iff.1 h
    subst this
    unfold ovl meetF ovlM
    split <;> simp
  · have k := cov_aux a b h.1.symm h.2
    unfold ovl
    congr 1
    unfold meetF
    rw [k.1]
    by_cases ha : (a.zip a).all mtb = true
    · rw [if_pos ⟨h.1.symm, ha⟩, if_pos ⟨rfl, ha⟩, k.2 ha]
    · rw [if_neg (fun e => ha e.2), if_neg (fun e => ha e.2)]
theorem meet_snoc {a b : List Sp} {v : Int} (hl : a.length = b.length) : meetF (a ++ [(v, v)]) (b ++ [(v, v)]) = if (a.zip b).all mtb = true then (a.zip b).map mtp ++ [(v, v)] else [] := by
  have hv : mtb ((v, v), (v, v)) = true ∧ mtp ((v, v), (v, v)) = (v, v) := by simp [mtb, mtp, mtOk, mt1, mt2]
  unfold meetF
  rw [List.zip_append hl]
  simp only [List.length_append, hl, List.all_append, List.zip_cons_cons, List.zip_nil_right, List.all_cons, hv.1, List.all_nil, Bool.and_true, true_and, List.map_append, List.map_cons, hv.2, List.map_nil]
theorem ovl_snoc {a b : List Sp} {v : Int} (hl : a.length = b.length) (h0 : 0 < a.length) : ovl (a ++ [(v, v)]) (b ++ [(v, v)]) = ovl a b := by
  unfold ovl
  rw [meet_snoc hl]
  unfold meetF
  by_cases h : (a.zip b).all mtb = true
  · rw [if_pos h, if_pos ⟨hl, h⟩]
    unfold ovlM
    rw [if_neg (by simp), if_neg (by simp only [List.length_map, List.length_zip]; omega), prodS_snoc]
    have := prodS_bd ((a.zip b).map mtp)
    have e : lnS (v, v) = 1 := by simp only [lnS, ln]; rw [if_neg (by omega)]; omega
    rw [mulS, e]; omega
  · rw [if_neg h, if_neg (fun e => h e.2)]
end Go.Proofs.Ytlaockppbboafaa
