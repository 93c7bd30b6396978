/- Plain laws on keys of single numbers. -/
import Derived.Test.YtlaockppbboafaaScoreP
import Derived.Test.YtlaockppbboafaaFltQ
namespace Go.Proofs.Ytlaockppbboafaa
open Go Go.GV
attribute [local irreducible] cw Go.GV.wpList Exit.then Exit.inBlock Go.GV.bodyPost wpPl wpPm wpPn TS rnd rPost YieldsB
set_option linter.unusedVariables false
set_option linter.unusedSimpArgs false
def ptS (v : Int) : Sp := (v, v)
theorem quart_pt (r : Sp) (v : Int) : quart r (ptS v) = 4 * (v - r.1) / (r.2 - r.1 + 1) := by
  unfold quart ptS
  simp only
  rw [show (v + v) / 2 = v by omega]
theorem quart_mono {r : Sp} {v w : Int} (hr : r.1 ≤ r.2) (h : v ≤ w) : quart r (ptS v) ≤ quart r (ptS w) := by
  rw [quart_pt, quart_pt]
  exact Int.ediv_le_ediv (by omega) (by omega)
theorem quart_first (r : Sp) : quart r (ptS r.1) = 0 := by rw [quart_pt]; simp
theorem quart_last {r : Sp} (h : 3 ≤ r.2 - r.1) : quart r (ptS r.2) = 3 := by
  rw [quart_pt]
  have h1 : 3 ≤ 4 * (r.2 - r.1) / (r.2 - r.1 + 1) := Int.le_ediv_of_mul_le (by omega) (by omega)
  have h2 : 4 * (r.2 - r.1) / (r.2 - r.1 + 1) < 4 := Int.ediv_lt_of_lt_mul (by omega) (by omega)
  omega
theorem key_one (r s : Sp) : keyF [r] [s] = quart r s := by simp [keyF, keyStep]
theorem right_one {s : List Sp} {x : Sp} (h : right s = true) (hx : x ∈ s) : right [x] = true ∧ x.1 ≤ x.2 := by
  simp only [right, Bool.and_eq_true, List.all_eq_true] at h
  have := h.2 x hx
  refine ⟨by simp [right, this], by simpa [okS] using this⟩
def ptsF (s : List Sp) (vs : List Int) : List Sp := (bring s vs).map ptS
theorem ptsF_len (s : List Sp) (vs : List Int) : (ptsF s vs).length = s.length := by simp [ptsF, bring_len]
theorem ptsF_at {s : List Sp} {vs : List Int} {i : Nat} {x : Sp} (hx : s[i]? = some x) : (ptsF s vs)[i]? = some (ptS (bringAt s vs i)) := by
  have hlt := (List.getElem?_eq_some_iff.1 hx).1
  simp [ptsF, bring, bringN, List.getElem?_range hlt]
theorem bringAt_bd {s : List Sp} {vs : List Int} {i : Nat} {x : Sp} (hx : s[i]? = some x) (hr : x.1 ≤ x.2) : x.1 ≤ bringAt s vs i ∧ bringAt s vs i ≤ x.2 := by
  have e2 : s.getD i (0, 0) = x := by simp [hx]
  rw [bringAt, e2, clamp]
  grind
theorem rightF_one {x : Sp} {v : Int} (h1 : x.1 ≤ v) (h2 : v ≤ x.2) : rightF [x] [ptS v] = true := by
  simp [rightF, rgb, covb, cov, ptS, h1, h2]
theorem rightF_pts {s : List Sp} (vs : List Int) (h : right s = true) : rightF s (ptsF s vs) = true := by
  have h2 := h
  simp only [right, Bool.and_eq_true, List.all_eq_true] at h2
  simp only [rightF, Bool.or_eq_true, Bool.and_eq_true, decide_eq_true_eq, ptsF_len]
  right
  refine ⟨trivial, ?_⟩
  rw [List.all_eq_true]
  intro z hz
  obtain ⟨i, hi⟩ := List.getElem?_of_mem hz
  rw [List.getElem?_zip_eq_some] at hi
  have hok := h2.2 z.1 (List.mem_of_getElem? hi.1)
  simp only [okS, decide_eq_true_eq] at hok
  have hb := bringAt_bd (vs := vs) hi.1 hok
  have e := ptsF_at (vs := vs) hi.1
  rw [e] at hi
  have e2 : z.2 = ptS (bringAt s vs i) := by simpa using hi.2.symm
  simp only [rgb, covb, cov, e2, ptS, Bool.and_eq_true, Bool.or_eq_true, decide_eq_true_eq]
  omega
theorem drop_take_one {α : Type} {xs : List α} {i : Nat} {x : α} (hx : xs[i]? = some x) : (xs.take (i + 1)).drop i = [x] := by
  rw [take_step hx]
  have hl := (List.getElem?_eq_some_iff.1 hx).1
  rw [List.drop_append_of_le_length (by simp; omega)]
  simp
theorem pts_in {s : List Sp} {vs : List Int} (h : ∀ x ∈ bring s vs, inR .i32 x) : ∀ x ∈ ptsF s vs, inR .i32 x.1 ∧ inR .i32 x.2 := by
  intro x hx
  obtain ⟨y, hy, rfl⟩ := List.mem_map.1 hx
  exact ⟨h y hy, h y hy⟩
theorem zip_take_fold {s x : List Sp} {i : Nat} {a b : Sp} (ha : s[i]? = some a) (hb : x[i]? = some b) : ((s.zip x).take (i + 1)).foldl keyStep 0 = 4 * ((s.zip x).take i).foldl keyStep 0 + quart a b := by
  rw [take_step (zip_at ha hb), List.foldl_append]; rfl
end Go.Proofs.Ytlaockppbboafaa
