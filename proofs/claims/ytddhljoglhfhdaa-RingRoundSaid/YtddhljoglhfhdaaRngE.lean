/- Who is known, once more: counts, and what one descriptor more does. -/
import Derived.Test.YtddhljoglhfhdaaRngP
namespace Go.Proofs.Ytddhljoglhfhdaa
open Go Go.GV
attribute [local irreducible] cw Go.GV.SpecM Go.GV.wpList Exit.then Exit.inBlock Go.GV.bodyPost wpPl wpPm wpPn TS rnd rPost YieldsB wpPT ptK
set_option linter.unusedVariables false
set_option linter.unusedSimpArgs false
def cnt (x : DD) (l : List DD) : Nat := (l.filter fun d => decide (d = x)).length
theorem cnt_step {l : List DD} {i : Nat} {y : DD} (x : DD) (hy : l[i]? = some y) : cnt x (l.take (i + 1)) = cnt x (l.take i) + if decide (y = x) then 1 else 0 := by
  unfold cnt
  rw [take_step hy, List.filter_append, List.length_append]
  congr 1
  by_cases h : y = x <;> simp [h]
theorem union_len (self : Int) (ds : List DD) : (union self ds).length ≤ 256 := by
  unfold union
  exact Nat.le_trans (List.length_filter_le _ _) (by rw [table_len]; exact Nat.le_refl _)
theorem cnt_le (x : DD) (self : Int) (ds : List DD) (i : Nat) : cnt x ((union self ds).take i) ≤ 256 := by
  unfold cnt
  refine Nat.le_trans (List.length_filter_le _ _) ?_
  rw [List.length_take]
  have := union_len self ds
  omega
theorem cnt_not {x : DD} : ∀ {l : List DD}, x ∉ l → cnt x l = 0
  | [], _ => rfl
  | d :: l, h => by
    simp only [List.mem_cons, not_or] at h
    have := cnt_not h.2
    unfold cnt at this ⊢
    rw [List.filter_cons, if_neg (by simpa using fun e => h.1 e.symm)]
    exact this
theorem cnt_one {x : DD} : ∀ {l : List DD}, l.Pairwise (fun a b => a.node < b.node) → x ∈ l → cnt x l = 1
  | [], _, h => by cases h
  | d :: l, hp, h => by
    rw [List.pairwise_cons] at hp
    by_cases e : d = x
    · subst e
      have : cnt d l = 0 := cnt_not fun hm => by have := hp.1 d hm; omega
      unfold cnt at this ⊢
      rw [List.filter_cons, if_pos (by simp), List.length_cons, this]
    · have hx : x ∈ l := by
        rcases List.mem_cons.1 h with h | h
        · exact absurd h.symm e
        · exact h
      have := cnt_one hp.2 hx
      unfold cnt at this ⊢
      rw [List.filter_cons, if_neg (by simpa using e)]
      exact this
theorem union_rising {self : Int} {ds : List DD} (hd : ∀ x ∈ ds, DdR x) : (union self ds).Pairwise fun a b => a.node < b.node := by rw [union_eq hd]; exact unionR_rising _ _
theorem mem_unionR {self : Int} {ds : List DD} {x : DD} : x ∈ unionR self ds ↔ ∃ n, n < 256 ∧ ds.foldl (best self (n : Nat)) DD.zero = x ∧ 0 < x.inc := by
  unfold unionR
  rw [List.mem_filter, List.mem_map]
  constructor
  · rintro ⟨⟨n, hn, rfl⟩, h⟩
    exact ⟨n, List.mem_range.1 hn, rfl, by simpa using h⟩
  · rintro ⟨n, hn, rfl, h⟩
    exact ⟨⟨n, List.mem_range.2 hn, rfl⟩, by simpa using h⟩
/-- One descriptor more, of a node that nobody knew: all others stay. -/
theorem union_more {self : Int} {ds : List DD} {y : DD} (hd : ∀ x ∈ ds, DdR x) (hy : DdR y) (hn : (union self ds).any (fun d => d.node == y.node) = false) : ∀ x ∈ union self ds, x ∈ union self (ds ++ [y]) := by
  intro x hx
  have hx0 := hx
  have hd2 : ∀ x ∈ ds ++ [y], DdR x := fun z hz => by
    rcases List.mem_append.1 hz with h | h
    · exact hd z h
    · simp at h; rw [h]; exact hy
  rw [union_eq hd] at hx
  rw [union_eq hd2]
  obtain ⟨n, hn2, he, hi⟩ := mem_unionR.1 hx
  refine mem_unionR.2 ⟨n, hn2, ?_, hi⟩
  rw [List.foldl_append]
  simp only [List.foldl_cons, List.foldl_nil]
  rw [he]
  have e1 := best_node (self := self) (n := (n : Int)) (ds := ds) (b := DD.zero) (.inl rfl)
  rw [he] at e1
  have hne : x.node ≠ y.node := fun e => by
    have := List.any_eq_false.1 hn x hx0
    simp [e] at this
  unfold best
  rw [if_neg]
  simp only [Bool.and_eq_true, decide_eq_true_eq, not_and, Bool.not_eq_true]
  intro h; omega
theorem choose_P {s : List Sp} {self : DD} {ds : List DD} {P : DD → Prop} (h0 : P DD.zero) (hd : ∀ x ∈ ds, DdR x) (h : ∀ x ∈ ds, P x) : P (choose s self ds).su ∧ P (choose s self ds).pr := by
  unfold choose
  split
  · exact ⟨h0, h0⟩
  · rename_i hne
    exact ⟨h _ (union_mem hd (nearest_mem hne)).1, h _ (union_mem hd (nearest_mem hne)).1⟩
/-- The successor with one more known is nearer, or the same. -/
theorem closer {s : List Sp} {self y : DD} {ds : List DD} (hd : ∀ x ∈ ds, DdR x) (hy : DdR y) (hne : union self.node ds ≠ []) (hn : (union self.node ds).any (fun d => d.node == y.node) = false) :
    far (place s self) (place s (choose s self (ds ++ [y])).su) ≤ far (place s self) (place s (choose s self ds).su) := by
  have hm := nearest_mem (f := fun d => far (place s self) (place s d)) hne
  have hm2 := union_more hd hy hn _ hm
  have hne2 : union self.node (ds ++ [y]) ≠ [] := fun e => by rw [e] at hm2; cases hm2
  unfold choose
  rw [if_neg hne, if_neg hne2]
  exact nearest_le (f := fun d => far (place s self) (place s d)) hm2
theorem any_step {l : List DD} {i : Nat} {y : DD} (k : Int) (hy : l[i]? = some y) : (l.take (i + 1)).any (fun d => d.node == k) = ((l.take i).any (fun d => d.node == k) || (y.node == k)) := by
  rw [take_step hy]; simp
end Go.Proofs.Ytddhljoglhfhdaa
