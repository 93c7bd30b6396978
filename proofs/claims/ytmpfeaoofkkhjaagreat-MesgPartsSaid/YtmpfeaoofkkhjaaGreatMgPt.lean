/- What becomes of a right message that is changed in one part (plain). -/
import Derived.Test.YtmpfeaoofkkhjaaGreatMgF
namespace Go.Proofs.YtmpfeaoofkkhjaaGreat
open Go Go.GV
attribute [local irreducible] cw Go.GV.SpecM Go.GV.wpList Exit.then Exit.inBlock Go.GV.bodyPost wpPl wpPm wpPn TS rnd rPost YieldsB wpPT ptK
set_option maxRecDepth 10000
set_option linter.unusedVariables false
set_option linter.unusedSimpArgs false
theorem look_L (k : Int) : ((lookI k [(1, 1), (2, 1), (3, 1), (4, 1), (5, 1), (6, 1), (7, 1)]).getD 0 == 1) = mL k := by
  rcases kd_cases k with h | rfl | rfl | rfl | rfl | rfl | rfl | rfl | rfl | rfl | rfl | rfl | rfl
  · have e1 : mL k = false := by unfold mL; rcases h with h | h <;> simp <;> omega
    rw [e1]
    simp only [lookI, beq_iff_eq]
    repeat rw [if_neg (by omega)]
    rfl
  all_goals decide
theorem look_T (k : Int) : ((lookI k [(2, 1), (8, 1), (11, 1)]).getD 0 == 1) = mT k := by
  rcases kd_cases k with h | rfl | rfl | rfl | rfl | rfl | rfl | rfl | rfl | rfl | rfl | rfl | rfl
  · have e1 : mT k = false := by unfold mT; rcases h with h | h <;> simp <;> omega
    rw [e1]
    simp only [lookI, beq_iff_eq]
    repeat rw [if_neg (by omega)]
    rfl
  all_goals decide
theorem pt0 (m : MsD) : rightM { m with kind := 0 } = false := by
  have e : kdM 0 = false := by decide
  simp only [rightM, e, Bool.false_and]
theorem pt1 (m : MsD) : rightM { m with inc := 0 } = false := by
  have e : decide ((0 : Int) ≠ 0) = false := by decide
  simp only [rightM, e, Bool.and_false, Bool.false_and]
theorem pt2 (m : MsD) {x : Int} (h : 12 ≤ x) : rightM { m with frm := x } = false := by
  have e : decide (x < 12) = false := by simp; omega
  simp only [rightM, e, Bool.and_false, Bool.false_and]
theorem pt3 (m : MsD) {x : Int} (h : 12 ≤ x) : rightM { m with to_ := x } = false := by
  have e : decide (x < 12) = false := by simp; omega
  simp only [rightM, e, Bool.and_false, Bool.false_and]
theorem pt4 {m : MsD} (h : rightM m = true) : rightM { m with list := m.list ++ [(0, 1, 0, [])] } = (mL m.kind && decide (m.list.length < 64)) := by
  simp only [rightM, Bool.and_eq_true] at h
  obtain ⟨⟨⟨⟨⟨⟨⟨⟨⟨⟨a1, a2⟩, a3⟩, a4⟩, b0⟩, b1⟩, b2⟩, b3⟩, b4⟩, b5⟩, b6⟩ := h
  simp only [fTr, fEr, fEn, fOr, fMr, fIr] at b1 b2 b3 b4 b5 b6
  simp only [rightM, fTr, fEr, fEn, fOr, fMr, fIr, a1, a2, a3, a4, b1, b2, b3, b4, b5, b6, Bool.true_and, Bool.and_true]
  cases e : mL m.kind
  · simp
  · rw [e] at b0
    simp only [cond_true, fLr, Bool.and_eq_true, decide_eq_true_eq] at b0
    simp only [cond_true, fLr, List.all_append, b0.2, List.length_append, List.length_cons, List.length_nil, Bool.true_and]
    rw [Bool.eq_iff_iff]
    simp [okDs]
    omega
theorem pt5 {m : MsD} (h : rightM m = true) : rightM { m with table := m.table ++ [(0, 0, 0)] } = (mT m.kind && decide (m.table.length < 12)) := by
  simp only [rightM, Bool.and_eq_true] at h
  obtain ⟨⟨⟨⟨⟨⟨⟨⟨⟨⟨a1, a2⟩, a3⟩, a4⟩, b0⟩, b1⟩, b2⟩, b3⟩, b4⟩, b5⟩, b6⟩ := h
  simp only [fLr, fEr, fEn, fOr, fMr, fIr] at b0 b2 b3 b4 b5 b6
  simp only [rightM, fLr, fEr, fEn, fOr, fMr, fIr, a1, a2, a3, a4, b0, b2, b3, b4, b5, b6, Bool.true_and, Bool.and_true]
  cases e : mT m.kind
  · simp
  · rw [e] at b1
    simp only [cond_true, fTr, Bool.and_eq_true, decide_eq_true_eq] at b1
    simp only [cond_true, fTr, List.all_append, b1.2, List.length_append, List.length_cons, List.length_nil, Bool.true_and]
    rw [Bool.eq_iff_iff]
    simp [okMm]
    omega
theorem pt6 {m : MsD} (h : rightM m = true) : rightM { m with ids := m.ids ++ [(0, 1, 1)] } = (mJ m.kind && decide (m.ids.length < 255)) := by
  simp only [rightM, Bool.and_eq_true] at h
  obtain ⟨⟨⟨⟨⟨⟨⟨⟨⟨⟨a1, a2⟩, a3⟩, a4⟩, b0⟩, b1⟩, b2⟩, b3⟩, b4⟩, b5⟩, b6⟩ := h
  simp only [fLr, fTr, fEr, fEn, fOr, fMr] at b0 b1 b2 b3 b4 b5
  simp only [rightM, fLr, fTr, fEr, fEn, fOr, fMr, a1, a2, a3, a4, b0, b1, b2, b3, b4, b5, Bool.true_and, Bool.and_true]
  cases e : mJ m.kind
  · simp
  · rw [e] at b6
    simp only [cond_true, fIr, Bool.and_eq_true, decide_eq_true_eq] at b6
    simp only [cond_true, fIr, List.all_append, b6.2, List.length_append, List.length_cons, List.length_nil, Bool.true_and]
    rw [Bool.eq_iff_iff]
    simp [okId]
    omega
theorem pt7 {m : MsD} (h : rightM m = true) : rightM { m with marks := m.marks ++ [(0, 0, 0)] } = (mO m.kind && decide (m.marks.length < 12)) := by
  simp only [rightM, Bool.and_eq_true] at h
  obtain ⟨⟨⟨⟨⟨⟨⟨⟨⟨⟨a1, a2⟩, a3⟩, a4⟩, b0⟩, b1⟩, b2⟩, b3⟩, b4⟩, b5⟩, b6⟩ := h
  simp only [fLr, fTr, fEr, fEn, fOr, fIr] at b0 b1 b2 b3 b4 b6
  simp only [rightM, fLr, fTr, fEr, fEn, fOr, fIr, a1, a2, a3, a4, b0, b1, b2, b3, b4, b6, Bool.true_and, Bool.and_true]
  cases e : mO m.kind
  · simp
  · rw [e] at b5
    simp only [cond_true, fMr, Bool.and_eq_true, decide_eq_true_eq] at b5
    simp only [cond_true, fMr, List.all_append, b5.2, List.length_append, List.length_cons, List.length_nil, Bool.true_and]
    rw [Bool.eq_iff_iff]
    simp [okMk]
    omega
theorem pt8 {m : MsD} (h : rightM m = true) : rightM { m with hops := 1 } = mH m.kind := by
  simp only [rightM, Bool.and_eq_true] at h
  obtain ⟨⟨⟨⟨⟨⟨⟨⟨⟨⟨a1, a2⟩, a3⟩, a4⟩, b0⟩, b1⟩, b2⟩, b3⟩, b4⟩, b5⟩, b6⟩ := h
  simp only [fLr, fTr, fEr, fEn, fOr, fMr, fIr] at b0 b1 b2 b4 b5 b6
  simp only [rightM, fLr, fTr, fEr, fEn, fOr, fMr, fIr, a1, a2, a3, a4, b0, b1, b2, b4, b5, b6, Bool.true_and, Bool.and_true]
  simp
theorem pt9 {m : MsD} (h : rightM m = true) : rightM { m with ev := (m.ev.1, m.ev.2.1, [1]) } = mE m.kind := by
  simp only [rightM, Bool.and_eq_true] at h
  obtain ⟨⟨⟨⟨⟨⟨⟨⟨⟨⟨a1, a2⟩, a3⟩, a4⟩, b0⟩, b1⟩, b2⟩, b3⟩, b4⟩, b5⟩, b6⟩ := h
  simp only [fLr, fTr, fOr, fMr, fIr] at b0 b1 b4 b5 b6
  simp only [rightM, fLr, fTr, fOr, fMr, fIr, a1, a2, a3, a4, b0, b1, b3, b4, b5, b6, Bool.true_and, Bool.and_true]
  cases e : mE m.kind
  · simp [fEn]
  · rw [e] at b2
    simp only [cond_true, fEr, Bool.and_eq_true, decide_eq_true_eq] at b2
    simp [fEr, b2.1.1, b2.1.2]
end Go.Proofs.YtmpfeaoofkkhjaaGreat
