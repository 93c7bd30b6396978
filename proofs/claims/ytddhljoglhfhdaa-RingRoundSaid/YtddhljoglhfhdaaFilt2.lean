/- More of package filter, and of the document's answer: the same, normal. -/
import Derived.Test.YtddhljoglhfhdaaFilt
namespace Go.Proofs.Ytddhljoglhfhdaa
open Go Go.GV
attribute [local irreducible] cw Go.GV.SpecM Go.GV.wpList Exit.then Exit.inBlock Go.GV.bodyPost wpPl wpPm wpPn TS rnd rPost YieldsB wpPT ptK
set_option maxRecDepth 10000
set_option maxHeartbeats 4000000
set_option linter.unusedVariables false
set_option linter.unusedSimpArgs false
theorem takeq_step {α : Type} {xs ys : List α} {i : Nat} {x y : α} (hx : xs[i]? = some x) (hy : ys[i]? = some y) (h1 : xs.take i = ys.take i) (h2 : x = y) : xs.take (i + 1) = ys.take (i + 1) := by
  rw [take_step hx, take_step hy, h1, h2]
theorem take_neq {α : Type} {xs ys : List α} {i : Nat} {x y : α} (hx : xs[i]? = some x) (hy : ys[i]? = some y) (h2 : x ≠ y) : xs ≠ ys := fun e => by
  rw [e, hy] at hx; simp at hx; exact h2 hx.symm
theorem sp_ne {x y : Sp} (h : eqL [.int .i32 x.1, .int .i32 x.2] [.int .i32 y.1, .int .i32 y.2] = false) : x ≠ y := fun e => by
  subst e; simp [eqL, eqV] at h
theorem sp_eq {x y : Sp} (h : eqL [.int .i32 x.1, .int .i32 x.2] [.int .i32 y.1, .int .i32 y.2] = true) : x = y := by
  simp [eqL, eqV] at h; exact Prod.ext h.1 h.2
--%set FIRST
theorem all_take_false {α : Type} {xs : List α} {i : Nat} {f : α → Bool} (h : (xs.take i).all f = false) : xs.all f = false := by
  cases e : xs.all f with
  | false => rfl
  | true =>
    rw [List.all_eq_true] at e
    have : (xs.take i).all f = true := by rw [List.all_eq_true]; exact fun x hx => e x (List.mem_of_mem_take hx)
    rw [this] at h; cases h
theorem all_stepB {α : Type} {xs : List α} {i : Nat} {x : α} {f : α → Bool} (hx : xs[i]? = some x) : (xs.take (i + 1)).all f = ((xs.take i).all f && f x) := by
  rw [take_step hx, List.all_append]; simp
end Go.Proofs.Ytddhljoglhfhdaa
