/- Plain laws on schemas and values. -/
import Derived.Test.YtdjdempnolhepaaSchA
namespace Go.Proofs.Ytdjdempnolhepaa
open Go Go.GV
attribute [local irreducible] Code.wp wpList Exit.then Exit.inBlock bodyPost wpPl wpPm wpPn TS
set_option linter.unusedVariables false
set_option linter.unusedSimpArgs false
theorem clamp_in {v a b : Int} (h : a ≤ b) : a ≤ clamp v a b ∧ clamp v a b ≤ b := by simp only [clamp]; grind
theorem clamp_id {v a b : Int} (h1 : a ≤ v) (h2 : v ≤ b) : clamp v a b = v := by simp only [clamp]; grind
theorem ofS_right (xs : List Sp) : right (ofS xs) = true := by
  unfold ofS
  split
  · rfl
  · rename_i h
    have h1 : ((xs.take 4).map mmS).all okS = true := by
      simp only [List.all_eq_true, List.mem_map]
      rintro y ⟨x, _, rfl⟩
      simp only [okS, decide_eq_true_eq]
      show min x.1 x.2 ≤ max x.1 x.2
      omega
    simp only [right, h1, Bool.and_true, List.length_map, List.length_take]
    rw [Bool.and_eq_true, decide_eq_true_eq, decide_eq_true_eq]; omega
theorem ofS_len (xs : List Sp) : 1 ≤ (ofS xs).length ∧ (ofS xs).length ≤ 4 := by
  have := ofS_right xs
  simp only [right, Bool.and_eq_true, decide_eq_true_eq] at this
  exact this.1
theorem right_all {s : List Sp} (h : right s = true) : ∀ (i : Nat) (x : Sp), s[i]? = some x → x.1 ≤ x.2 := fun i x hx => by
  simp only [right, Bool.and_eq_true] at h
  have := List.all_eq_true.1 h.2 x (List.mem_of_getElem? hx)
  simpa [okS] using this
theorem bring_get {s : List Sp} {vs : List Int} {i : Nat} {x : Sp} (hx : s[i]? = some x) : (bring s vs)[i]? = some (clamp (vs.getD i 0) x.1 x.2) := by
  have hi : i < s.length := (List.getElem?_eq_some_iff.1 hx).1
  simp only [bring, bringN, List.getElem?_map, List.getElem?_range hi, Option.map_some, bringAt]
  have e : s.getD i (0, 0) = x := by simp [hx]
  rw [e]
theorem fits_iff {s : List Sp} {vs : List Int} : fits s vs = true ↔ vs.length = s.length ∧ ∀ (i : Nat) (x : Sp) (y : Int), s[i]? = some x → vs[i]? = some y → x.1 ≤ y ∧ y ≤ x.2 := by
  simp only [fits, Bool.and_eq_true, decide_eq_true_eq, List.all_eq_true]
  refine and_congr Iff.rfl ⟨fun h i x y hx hy => ?_, fun h z hz => ?_⟩
  · have := h (x, y) (List.mem_of_getElem? (zip_get hx hy))
    simpa [inS] using this
  · obtain ⟨i, hi⟩ := List.mem_iff_getElem?.1 hz
    obtain ⟨x, y⟩ := z
    rw [List.getElem?_zip_eq_some] at hi
    have := h i x y hi.1 hi.2
    simpa [inS] using this
theorem fits_bring {s : List Sp} (hr : right s = true) (vs : List Int) : fits s (bring s vs) = true := by
  rw [fits_iff]
  refine ⟨bring_len s vs, fun i x y hx hy => ?_⟩
  rw [bring_get hx] at hy
  simp at hy
  subst hy
  exact clamp_in (right_all hr i x hx)
theorem bring_fits {s : List Sp} {vs : List Int} (h : fits s vs = true) : bring s vs = vs := by
  rw [fits_iff] at h
  apply List.ext_getElem?
  intro i
  rcases Nat.lt_or_ge i s.length with hi | hi
  · obtain ⟨x, hx⟩ := get_of (xs := s) rfl hi
    obtain ⟨y, hy⟩ := get_of (xs := vs) h.1 hi
    rw [bring_get hx, hy]
    have := h.2 i x y hx hy
    rw [show vs.getD i 0 = y by simp [hy], clamp_id this.1 this.2]
  · rw [List.getElem?_eq_none (by rw [bring_len]; exact hi), List.getElem?_eq_none (by rw [h.1]; exact hi)]
end Go.Proofs.Ytdjdempnolhepaa
