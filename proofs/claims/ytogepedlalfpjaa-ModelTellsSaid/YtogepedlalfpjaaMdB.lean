/- What the document calls owed is what is owed. -/
import Derived.Test.YtogepedlalfpjaaMdV
import Derived.Test.YtogepedlalfpjaaMdQ
namespace Go.Proofs.Ytogepedlalfpjaa
set_option linter.unusedVariables false
set_option linter.unusedSimpArgs false
theorem owR_eq {s : SvD} {x : LD} {e : EvD} (hs : Iv s) (i : Nat) (he : e ∈ s.events) : owR s i x e = (x.up && owP s i x e) := by
  unfold owR
  cases hu : x.up with
  | false => simp [refE, owD, hu]
  | true =>
    have h1 : refE s x (owD i e) = dlvE s x (owD i e) := by simp [refE, owD, hu]
    rw [h1, dlv_in (d := owD i e) hs.un he rfl]
    show decide ((if matchF x.filter e.2.1 = false then (263 : Int) else if (s.given.any fun g => decide (g = (⟨(i : Int), x.inc, e.1⟩ : GD))) = true then 262 else 0) = 0) = (matchF x.filter e.2.1 && !(s.given.any fun g => decide (g = (⟨(i : Int), x.inc, e.1⟩ : GD))))
    generalize (s.given.any fun g => decide (g = (⟨(i : Int), x.inc, e.1⟩ : GD))) = b
    cases matchF x.filter e.2.1 <;> cases b <;> rfl
theorem owJR_eq {s : SvD} (hs : Iv s) (i : Nat) (x : LD) : owJR s i x s.events.length = owedL s i x := by
  simp only [owJR, List.take_of_length_le (Nat.le_refl _)]
  have : s.events.filter (owR s i x) = s.events.filter fun e => x.up && owP s i x e := List.filter_congr fun e he => owR_eq hs i he
  rw [this]
  cases hu : x.up with
  | false => simp [owedL, hu]
  | true => rw [owedL_up s i x hu]; simp
theorem owedR_eq {s : SvD} (hs : Iv s) : owedR s = owedS s := by
  simp only [owedR, owIR, owedS, List.take_of_length_le (Nat.le_refl _)]
  congr 1
  apply List.map_congr_left
  intro p _
  exact owJR_eq hs p.2 p.1
end Go.Proofs.Ytogepedlalfpjaa
