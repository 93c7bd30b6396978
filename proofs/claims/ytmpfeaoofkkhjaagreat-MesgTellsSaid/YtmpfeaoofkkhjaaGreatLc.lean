/- A small logic over the kit's weakest preconditions, part 3. -/
import Derived.Test.YtmpfeaoofkkhjaaGreatLb
set_option linter.unusedVariables false
set_option linter.unusedSimpArgs false
section
/- Arrays of structures in boxes of the call's own: a table, read and written by index; over the small logic of GvA to GvAI. -/
namespace Go.GV
open Go
/-- All rows are of one length. -/
def Wide (sz : Nat) (css : List (List Value)) : Prop := ∀ x ∈ css, x.length = sz
theorem Wide.len {sz : Nat} : ∀ {css : List (List Value)}, Wide sz css → css.flatten.length = css.length * sz
  | [], _ => by simp
  | c :: css, h => by
    have h1 := h c (by simp)
    have h2 := Wide.len (css := css) (fun x hx => h x (by simp [hx]))
    simp only [List.flatten_cons, List.length_append, List.length_cons, h1, h2, Nat.succ_mul]
    omega
theorem Wide.tail {sz : Nat} {c : List Value} {css : List (List Value)} (h : Wide sz (c :: css)) : Wide sz css := fun x hx => h x (by simp [hx])
theorem Wide.set {sz : Nat} {css : List (List Value)} {vs : List Value} {i : Nat} (h : Wide sz css) (hv : vs.length = sz) : Wide sz (css.set i vs) := fun x hx => by
  rcases List.mem_or_eq_of_mem_set hx with hx | hx
  · exact h x hx
  · rw [hx]; exact hv
theorem Wide.drop {sz : Nat} : ∀ {css : List (List Value)} (i : Nat), Wide sz css → css.flatten.drop (i * sz) = (css.drop i).flatten
  | css, 0, _ => by simp
  | [], i + 1, _ => by simp
  | c :: css, i + 1, h => by
    have h1 := h c (by simp)
    rw [List.flatten_cons, Nat.succ_mul, Nat.add_comm (i * sz) sz, ← h1, ← List.drop_drop, List.drop_left, h1, Wide.drop i h.tail]; rfl
theorem Wide.take {sz : Nat} : ∀ {css : List (List Value)} (i : Nat), Wide sz css → css.flatten.take (i * sz) = (css.take i).flatten
  | css, 0, _ => by simp
  | [], i + 1, _ => by simp
  | c :: css, i + 1, h => by
    have h1 := h c (by simp)
    have h2 := Wide.take i h.tail
    rw [List.flatten_cons, Nat.succ_mul, List.take_append, List.take_of_length_le (by omega), show i * sz + sz - c.length = i * sz by omega, h2]; rfl
theorem Wide.at {sz : Nat} {css : List (List Value)} {i : Nat} {cs : List Value} (h : Wide sz css) (hi : css[i]? = some cs) : (css.flatten.drop (i * sz)).take sz = cs := by
  rw [h.drop]
  obtain ⟨h1, h2⟩ := List.getElem?_eq_some_iff.1 hi
  rw [List.drop_eq_getElem_cons h1, h2, List.flatten_cons, List.take_append_of_le_length (by rw [h cs (List.mem_of_getElem? hi)]; omega), List.take_of_length_le (by rw [h cs (List.mem_of_getElem? hi)]; omega)]
theorem Wide.spl {sz : Nat} {css : List (List Value)} {i : Nat} {vs : List Value} (h : Wide sz css) (hi : i < css.length) (hv : vs.length = sz) : GV.spl css.flatten (i * sz) vs = (css.set i vs).flatten := by
  unfold GV.spl
  rw [hv, h.take, show i * sz + sz = (i + 1) * sz by rw [Nat.succ_mul], h.drop]
  rw [List.set_eq_take_append_cons_drop, if_pos hi]
  simp
theorem Wide.append {sz : Nat} {a b : List (List Value)} (ha : Wide sz a) (hb : Wide sz b) : Wide sz (a ++ b) := fun x hx => by
  rcases List.mem_append.1 hx with hx | hx
  · exact ha x hx
  · exact hb x hx
theorem Wide.get {sz : Nat} {css : List (List Value)} {i j : Nat} {cs : List Value} (hw : Wide sz css) (hi : css[i]? = some cs) (hj : j < sz) : css.flatten[i * sz + j]? = cs[j]? := by
  rw [← hw.at hi, List.getElem?_take_of_lt hj, List.getElem?_drop]
section
variable {ρ : Option Nat} {P : Program} {C : Ctx} {N : Fr} {L : En} {H H' : List HE} {h : PH} {ty : TypeId} {pos : String} {after : Array Edge} {dst : Option Tmp} {gd : Option (Nat × Bool)}
variable {ops : Array Oper} {rest : List Oper} {Q : Exit → Act → World → Prop}
theorem run_partA {t : TypeId} {n : Nat} [TI P t n true] {cs : Array Value} {off : Nat} (w : World) : (part t cs off).run P w = .ok (.agg (cs.extract off (off + n))) w := by
  have hsz := run_sz (TI.sz (P := P) (t := t)) w
  have hag := run_agg (TI.ag (P := P) (t := t)) w
  unfold part
  simp only [Sem.run_bind, hag, Result.andThen_ok, if_true, hsz, Sem.run_pure]
end
end Go.GV

end
