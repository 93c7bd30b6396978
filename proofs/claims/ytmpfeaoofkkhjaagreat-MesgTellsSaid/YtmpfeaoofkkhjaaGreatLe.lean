/- A small logic over the kit's weakest preconditions, part 5. -/
import Derived.Test.YtmpfeaoofkkhjaaGreatLd
set_option linter.unusedVariables false
set_option linter.unusedSimpArgs false
section
/- Plans that are trees of orders, with up to four operations ready side by side; over the small logic of GvA to GvAM. -/
namespace Go.GV
open Go
inductive PU where
  | nil
  | pre (i : Nat) (r : PU)
  | one (i : Nat) (r : PU)
  | alt2 (i : Nat) (r : PU) (j : Nat) (s : PU)
  | alt3 (i : Nat) (r : PU) (j : Nat) (s : PU) (k : Nat) (t : PU)
  | alt4 (i : Nat) (r : PU) (j : Nat) (s : PU) (k : Nat) (t : PU) (q : Nat) (u : PU)
def puT (T : List Row3) (B : List Nat) : PU → Nat → Nat → Bool
  | .nil, 0, m => (readyT T m).isEmpty
  | .pre i r, n + 1, m => (readyT T m).contains i && freeT T m i && B.all (fun j => waitsTT T 6 j i && !Nat.beq i j) && puT T B r n (m ||| (1 <<< i))
  | .one i r, n + 1, m => decide (readyT T m = [i]) && puT T B r n (m ||| (1 <<< i))
  | .alt2 i r j s, n + 1, m => decide (readyT T m = [i, j]) && puT T B r n (m ||| (1 <<< i)) && puT T B s n (m ||| (1 <<< j))
  | .alt3 i r j s k t, n + 1, m => decide (readyT T m = [i, j, k]) && puT T B r n (m ||| (1 <<< i)) && puT T B s n (m ||| (1 <<< j)) && puT T B t n (m ||| (1 <<< k))
  | .alt4 i r j s k t q u, n + 1, m => decide (readyT T m = [i, j, k, q]) && puT T B r n (m ||| (1 <<< i)) && puT T B s n (m ||| (1 <<< j)) && puT T B t n (m ||| (1 <<< k)) && puT T B u n (m ||| (1 <<< q))
  | _, _, _ => false
def wpPU (P : Program) (ops : Array Oper) (R : Act → World → Prop) (B : List Nat) : PU → (World → Prop) → Act → World → Prop
  | .nil, _, a, w => R a w
  | .pre i r, S, a, w => S w ∧ ∃ o v, ops[i]? = some o ∧ YieldsIf P ops S o v a ∧ wpPU P ops R B r S (a.put o.dst v) w
  | .one i r, S, a, w => wpOp P ops i (ptK B i S (wpPU P ops R B r)) a w
  | .alt2 i r j s, S, a, w => wpOp P ops i (ptK B i S (wpPU P ops R B r)) a w ∧ wpOp P ops j (ptK B j S (wpPU P ops R B s)) a w
  | .alt3 i r j s k t, S, a, w => wpOp P ops i (ptK B i S (wpPU P ops R B r)) a w ∧ wpOp P ops j (ptK B j S (wpPU P ops R B s)) a w ∧ wpOp P ops k (ptK B k S (wpPU P ops R B t)) a w
  | .alt4 i r j s k t q u, S, a, w => wpOp P ops i (ptK B i S (wpPU P ops R B r)) a w ∧ wpOp P ops j (ptK B j S (wpPU P ops R B s)) a w ∧ wpOp P ops k (ptK B k S (wpPU P ops R B t)) a w ∧ wpOp P ops q (ptK B q S (wpPU P ops R B u)) a w
section
variable {ρ : Option Nat} {P : Program} {R : Act → World → Prop} {B : List Nat} {l : List Oper}
end
section
variable {ρ : Option Nat} {P : Program} {C : Ctx} {N : Fr} {L : En} {H H0 : List HE} {h h0 : PH} {ops : Array Oper} {o : Oper} {Q : Exit → Act → World → Prop} {R : Act → World → Prop} {B : List Nat} {S : World → Prop}
end
end Go.GV

end
