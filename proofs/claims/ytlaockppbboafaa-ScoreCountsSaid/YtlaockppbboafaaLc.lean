/- A small logic over the kit's weakest preconditions, part 3. -/
import Derived.Test.YtlaockppbboafaaLb
set_option linter.unusedVariables false
set_option linter.unusedSimpArgs false
section
/- Arrays of structures in boxes of the call's own: a table, read and written by index; over the small logic of GvA to GvAI. -/
namespace Go.GV
open Go
theorem Nf.of_eq : ∀ {xs ys : List Value}, xs = ys → Nf xs ys
  | [], _, rfl => .nil
  | _ :: _, _, rfl => .cons (Nf.of_eq rfl)
/-- All rows are of one length. -/
def Wide (sz : Nat) (css : List (List Value)) : Prop := ∀ x ∈ css, x.length = sz
theorem Wide.len {sz : Nat} : ∀ {css : List (List Value)}, Wide sz css → css.flatten.length = css.length * sz
  | [], _ => by simp
  | c :: css, h => by
    have h1 := h c (by simp)
    have h2 := Wide.len (css := css) (fun x hx => h x (by simp [hx]))
    simp only [List.flatten_cons, List.length_append, List.length_cons, h1, h2, Nat.succ_mul]
    omega
theorem Wide.tail {sz : Nat} {c : List Value} {css : List (List Value)} (h : Wide sz (c :: css)) : Wide sz css := fun x hx => h x (by simp [hx])
theorem Wide.set {sz : Nat} {css : List (List Value)} {vs : List Value} {i : Nat} (h : Wide sz css) (hv : vs.length = sz) : Wide sz (css.set i vs) := fun x hx => by
  rcases List.mem_or_eq_of_mem_set hx with hx | hx
  · exact h x hx
  · rw [hx]; exact hv
theorem Wide.drop {sz : Nat} : ∀ {css : List (List Value)} (i : Nat), Wide sz css → css.flatten.drop (i * sz) = (css.drop i).flatten
  | css, 0, _ => by simp
  | [], i + 1, _ => by simp
  | c :: css, i + 1, h => by
    have h1 := h c (by simp)
    rw [List.flatten_cons, Nat.succ_mul, Nat.add_comm (i * sz) sz, ← h1, ← List.drop_drop, List.drop_left, h1, Wide.drop i h.tail]; rfl
theorem Wide.take {sz : Nat} : ∀ {css : List (List Value)} (i : Nat), Wide sz css → css.flatten.take (i * sz) = (css.take i).flatten
  | css, 0, _ => by simp
  | [], i + 1, _ => by simp
  | c :: css, i + 1, h => by
    have h1 := h c (by simp)
    have h2 := Wide.take i h.tail
    rw [List.flatten_cons, Nat.succ_mul, List.take_append, List.take_of_length_le (by omega), show i * sz + sz - c.length = i * sz by omega, h2]; rfl
theorem Wide.at {sz : Nat} {css : List (List Value)} {i : Nat} {cs : List Value} (h : Wide sz css) (hi : css[i]? = some cs) : (css.flatten.drop (i * sz)).take sz = cs := by
  rw [h.drop]
  obtain ⟨h1, h2⟩ := List.getElem?_eq_some_iff.1 hi
  rw [List.drop_eq_getElem_cons h1, h2, List.flatten_cons, List.take_append_of_le_length (by rw [h cs (List.mem_of_getElem? hi)]; omega), List.take_of_length_le (by rw [h cs (List.mem_of_getElem? hi)]; omega)]
theorem Wide.spl {sz : Nat} {css : List (List Value)} {i : Nat} {vs : List Value} (h : Wide sz css) (hi : i < css.length) (hv : vs.length = sz) : GV.spl css.flatten (i * sz) vs = (css.set i vs).flatten := by
  unfold GV.spl
  rw [hv, h.take, show i * sz + sz = (i + 1) * sz by rw [Nat.succ_mul], h.drop]
  rw [List.set_eq_take_append_cons_drop, if_pos hi]
  simp
theorem Wide.append {sz : Nat} {a b : List (List Value)} (ha : Wide sz a) (hb : Wide sz b) : Wide sz (a ++ b) := fun x hx => by
  rcases List.mem_append.1 hx with hx | hx
  · exact ha x hx
  · exact hb x hx
theorem Wide.rep {sz : Nat} {z : List Value} (k : Nat) (hz : z.length = sz) : Wide sz (List.replicate k z) := fun x hx => by rw [List.eq_of_mem_replicate hx, hz]
theorem Wide.get {sz : Nat} {css : List (List Value)} {i j : Nat} {cs : List Value} (hw : Wide sz css) (hi : css[i]? = some cs) (hj : j < sz) : css.flatten[i * sz + j]? = cs[j]? := by
  rw [← hw.at hi, List.getElem?_take_of_lt hj, List.getElem?_drop]
theorem spl_one {F : List Value} {k : Nat} {v : Value} (hk : k < F.length) : spl F k [v] = F.set k v := by
  unfold spl
  rw [List.set_eq_take_append_cons_drop, if_pos hk]; rfl
theorem Wide.set1 {sz : Nat} {v : Value} {j : Nat} (hj : j < sz) : ∀ {css : List (List Value)} {i : Nat} {cs : List Value}, Wide sz css → css[i]? = some cs → css.flatten.set (i * sz + j) v = (css.set i (cs.set j v)).flatten
  | [], i, cs, _, hi => by simp at hi
  | c :: css, 0, cs, hw, hi => by
    have h1 := hw c (by simp)
    simp at hi; subst hi
    rw [List.flatten_cons, List.set_cons_zero, List.flatten_cons, List.set_append, if_pos (by omega)]; simp
  | c :: css, i + 1, cs, hw, hi => by
    have h1 := hw c (by simp)
    have h2 := Wide.set1 (v := v) hj (css := css) (i := i) (cs := cs) hw.tail (by simpa using hi)
    rw [List.flatten_cons, List.set_cons_succ, List.flatten_cons, ← h2, List.set_append, if_neg (by rw [Nat.succ_mul]; omega)]
    congr 2
    rw [Nat.succ_mul]; omega
theorem Wide.spl1 {sz : Nat} {v : Value} {i j : Nat} {css : List (List Value)} {cs : List Value} (hw : Wide sz css) (hi : css[i]? = some cs) (hj : j < sz) : GV.spl css.flatten (i * sz + j) [v] = (css.set i (cs.set j v)).flatten := by
  have hl := hw.len
  have h1 := (List.getElem?_eq_some_iff.1 hi).1
  have h2 : (i + 1) * sz ≤ css.length * sz := Nat.mul_le_mul_right sz h1
  rw [Nat.succ_mul] at h2
  rw [spl_one (by omega), Wide.set1 hj hw hi]
section
variable {ρ : Option Nat} {P : Program} {C : Ctx} {N : Fr} {L : En} {H H' : List HE} {h : PH} {ty : TypeId} {pos : String} {after : Array Edge} {dst : Option Tmp} {gd : Option (Nat × Bool)}
variable {ops : Array Oper} {rest : List Oper} {Q : Exit → Act → World → Prop}
theorem run_partA {t : TypeId} {n : Nat} [TI P t n true] {cs : Array Value} {off : Nat} (w : World) : (part t cs off).run P w = .ok (.agg (cs.extract off (off + n))) w := by
  have hsz := run_sz (TI.sz (P := P) (t := t)) w
  have hag := run_agg (TI.ag (P := P) (t := t)) w
  unfold part
  simp only [Sem.run_bind, hag, Result.andThen_ok, if_true, hsz, Sem.run_pure]
/-- A row of the table. -/
theorem od_load_F {t : TypeId} {n : Nat} {x : Operand} {b off i : Nat} {css : List (List Value)} {vs : List Value} {t' : TypeId} [TI P t n true] (hx : Ev L x (.pointer (some ⟨b, off, none⟩))) (hb : HGet H b css.flatten t') (hw : Wide n css) (ho : off = i * n) (hi : css[i]? = some vs) :
    OP P C ⟨dst, .load t x, ty, pos, after, gd⟩ L H h (.agg vs.toArray) :=
  od_load_agg hx hb (Nf.of_eq (by rw [ho]; exact hw.at hi)) (hw vs (List.mem_of_getElem? hi))
/-- The whole table. -/
theorem od_load_all {t : TypeId} {n : Nat} {x : Operand} {b : Nat} {cs : List Value} {t' : TypeId} [TI P t n true] (hx : Ev L x (.pointer (some ⟨b, 0, none⟩))) (hb : HGet H b cs t') (hn : cs.length = n) :
    OP P C ⟨dst, .load t x, ty, pos, after, gd⟩ L H h (.agg cs.toArray) :=
  od_load_agg hx hb (Nf.of_eq (by rw [List.drop_zero, List.take_of_length_le (by omega)])) hn
/-- A row of a table that is a value. -/
theorem od_indexV {t e : TypeId} {len n i : Nat} [TArr P t len e] [TI P e n true] {x y : Operand} {k : IntKind} {m : Int} {css : List (List Value)} {vs : List Value} (hx : Ev L x (.agg css.flatten.toArray)) (hy : Ev L y (.int k m)) (hm : m = (i : Int)) (hl : i < len) (hw : Wide n css) (hi : css[i]? = some vs) :
    OP P C ⟨dst, .index t x y, ty, pos, after, gd⟩ L H h (.agg vs.toArray) :=
  od_pure fun ρ w hρ _ => by
    have e1 := hρ x (by simp [Op.operands]) _ hx
    have e2 := hρ y (by simp [Op.operands]) _ hy
    have hsz := run_sz (TI.sz (P := P) (t := e)) w
    subst hm
    have hc1 : (0 : Int) ≤ (i : Int) ∧ (i : Int) < (len : Int) := by omega
    have hex : css.flatten.toArray.extract (i * n) (i * n + n) = vs.toArray := by
      rw [List.extract_toArray, List.extract_eq_take_drop, Nat.add_sub_cancel_left, hw.at hi]
    simp only [execOp, e1, e2, Instr.index, asIntOf, Sem.run_bind, Sem.run_pure, Result.andThen_ok, run_underlying (TArr.eq (P := P) (t := t))]
    rw [if_pos hc1]
    simp only [Sem.run_bind, hsz, Result.andThen_ok, run_partA (P := P) (t := e), Int.toNat_natCast, Sem.run_pure, hex]
/-- A row of the table is written. -/
theorem hd_storeF {T T' : TypeId} {x y : Operand} {b off n i : Nat} {v : Value} {vs : List Value} {css : List (List Value)} {g : Bool} [TI P T n g] (hx : Ev L x (.pointer (some ⟨b, off, none⟩))) (hy : Ev L y v) (hvs : v.cells = vs.toArray)
    (hb : HSet H b css.flatten T' (css.set i vs).flatten H') (hn : vs.length = n) (hw : Wide n css) (ho : off = i * n) (hi : i < css.length) (hone : vs.all (·.oneCell') = true) (next : Hd C N L H' h (wpList P ops Q rest)) :
    Hd C N L H h (wpList P ops Q (⟨none, .store T x y, ty, pos, after, none⟩ :: rest)) := by
  refine hd_store hx hy hvs hb hn ?_ hone (Nf.of_eq (by rw [ho]; exact hw.spl hi hn)) next
  have h1 := hw.len
  have h2 : (i + 1) * n ≤ css.length * n := Nat.mul_le_mul_right n hi
  rw [Nat.succ_mul] at h2
  rw [Nat.ble_eq]
  omega
/-- A box of zeros. -/
theorem hd_allocF {T : TypeId} {cs cs' : List Value} {d : Nat} [TZero P T cs] (hcs : cs = cs') (hN : Nat.blt d N.n = true)
    (next : ∀ b, Hd C N ((d, [], .pointer (some ⟨b, 0, none⟩)) :: L) (box b cs' T :: H) h (wpList P ops Q rest)) :
    Hd C N L H h (wpList P ops Q (⟨some d, .alloc T, ty, pos, after, none⟩ :: rest)) := by
  subst hcs
  exact hd_alloc hN next
end
end Go.GV

end
