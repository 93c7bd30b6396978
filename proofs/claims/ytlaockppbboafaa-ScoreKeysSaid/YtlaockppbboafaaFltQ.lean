/- Plain laws on schemas and filters. -/
import Derived.Test.YtlaockppbboafaaFiltP
namespace Go.Proofs.Ytlaockppbboafaa
open Go Go.GV
attribute [local irreducible] cw Go.GV.wpList Exit.then Exit.inBlock Go.GV.bodyPost wpPl wpPm wpPn TS rnd rPost YieldsB
set_option linter.unusedVariables false
set_option linter.unusedSimpArgs false
theorem bring_fits {s : List Sp} (vs : List Int) (hr : right s = true) : fits s (bring s vs) = true := by
  simp only [right, Bool.and_eq_true, List.all_eq_true, decide_eq_true_eq] at hr
  simp only [fits, Bool.and_eq_true, decide_eq_true_eq, bring_len, true_and, List.all_eq_true]
  intro x hx
  obtain ⟨i, hi⟩ := List.getElem?_of_mem hx
  rw [List.getElem?_zip_eq_some] at hi
  obtain ⟨h1, h2⟩ := hi
  have hlt := (List.getElem?_eq_some_iff.1 h1).1
  have e : x.2 = bringAt s vs i := by
    simp only [bring, bringN, List.getElem?_map, List.getElem?_range hlt, Option.map_some, Option.some.injEq] at h2
    exact h2.symm
  have hok := hr.2 x.1 (List.mem_of_getElem? h1)
  have e2 : s.getD i (0, 0) = x.1 := by simp [h1]
  simp only [okS, decide_eq_true_eq] at hok
  rw [inS, e, bringAt, e2, clamp]
  grind

def WID : Sp := (-2147483648, 2147483647)
theorem right_self_aux : ∀ s : List Sp, s.all okS = true → (s.zip s).all rgb = true
  | [], _ => by simp
  | x :: s, h => by
    simp only [List.all_cons, Bool.and_eq_true, List.zip_cons_cons] at *
    refine ⟨?_, right_self_aux s h.2⟩
    have := h.1
    simp only [okS, rgb, covb, cov] at *
    grind
theorem right_self {s : List Sp} (h : right s = true) : rightF s s = true := by
  simp only [right, Bool.and_eq_true] at h
  simp [rightF, right_self_aux s h.2]
theorem right_nil (s : List Sp) : rightF s [] = true := by simp [rightF]
theorem wide_aux : ∀ s : List Sp, s.all okS = true → (∀ x ∈ s, inR .i32 x.1 ∧ inR .i32 x.2) → (s.zip (List.replicate s.length WID)).all mtb = true ∧ (s.zip (List.replicate s.length WID)).map mtp = s
  | [], _, _ => by simp
  | x :: s, h, hr => by
    simp only [List.all_cons, Bool.and_eq_true] at h
    have ih := wide_aux s h.2 (fun y hy => hr y (by simp [hy]))
    have hx := hr x (by simp)
    have ho := h.1
    obtain ⟨x1, x2⟩ := x
    simp only [okS, inR, decide_eq_true_eq] at ho hx
    have k : max x1 (-2147483648) ≤ min x2 2147483647 := by omega
    simp only [List.length_cons, List.replicate_succ, List.zip_cons_cons, List.all_cons, List.map_cons, ih.1, ih.2, Bool.and_true]
    constructor
    · exact decide_eq_true k
    · simp only [mtp, mt1, mt2, WID, if_pos k]
      congr 2 <;> omega
theorem norm_wide {s : List Sp} (h : right s = true) (hr : ∀ x ∈ s, inR .i32 x.1 ∧ inR .i32 x.2) : normF s (List.replicate s.length WID) = s ∧ normE s (List.replicate s.length WID) = 0 := by
  simp only [right, Bool.and_eq_true, decide_eq_true_eq] at h
  have k := wide_aux s h.2 hr
  have h0 : ¬ (List.replicate s.length WID).length = 0 := by simp only [List.length_replicate]; omega
  have h1 : ¬ (List.replicate s.length WID).length ≠ s.length := by simp
  unfold normF normE
  rw [if_neg h0, if_neg h1, if_neg h0, if_neg h1]
  exact ⟨by rw [meetF, if_pos ⟨by simp, k.1⟩, k.2], rfl⟩
theorem first_aux : ∀ (s f : List Sp), s.length = f.length → (s.zip f).all rgb = true → (f.zip (f.map (·.1))).all inS = true ∧ (s.zip (f.map (·.1))).all inS = true ∧ (s.zip f).all covb = true
  | [], [], _, _ => by simp
  | [], _ :: _, h, _ => by simp at h
  | _ :: _, [], h, _ => by simp at h
  | x :: s, y :: f, hl, h => by
    simp only [List.all_cons, Bool.and_eq_true, List.zip_cons_cons, List.map_cons] at *
    have ih := first_aux s f (by simpa using hl) h.2
    have k := h.1
    refine ⟨⟨?_, ih.1⟩, ⟨?_, ih.2.1⟩, ?_, ih.2.2⟩
    · simp only [rgb, covb, cov, inS] at *; grind
    · simp only [rgb, covb, cov, inS] at *; grind
    · simp only [rgb, covb, cov, inS] at *; grind
theorem first_match {s f : List Sp} (h : rightF s f = true) (h0 : f.length ≠ 0) : matchF f (f.map (·.1)) = true ∧ fits s (f.map (·.1)) = true ∧ coversF s f = true := by
  simp only [rightF, Bool.or_eq_true, decide_eq_true_eq, Bool.and_eq_true] at h
  rcases h with h | h
  · exact absurd h h0
  · have k := first_aux s f h.1.symm h.2
    simp [matchF, fits, coversF, k, h.1, h0]
    intro e; rw [e] at h; exact h0 h.1
def xor1 (k : IntKind) (a : Int) : Int := k.wrap (BitVec.ofInt k.bits a ^^^ BitVec.ofInt k.bits 1).toNat
theorem wrap_mod (k : IntKind) (n : Int) : (k.wrap n) % 2 ^ k.bits = n % 2 ^ k.bits := by
  cases k <;> simp [IntKind.wrap, IntKind.bits, IntKind.signed] <;> omega
theorem xor1_ne {k : IntKind} {a : Int} : xor1 k a ≠ a := fun e => by
  have h1 := wrap_mod k (BitVec.ofInt k.bits a ^^^ BitVec.ofInt k.bits 1).toNat
  rw [show k.wrap (BitVec.ofInt k.bits a ^^^ BitVec.ofInt k.bits 1).toNat = a from e] at h1
  have h2 : BitVec.ofInt k.bits a = BitVec.ofInt k.bits a ^^^ BitVec.ofInt k.bits 1 := by
    have h3 : BitVec.ofInt k.bits a = BitVec.ofInt k.bits ((BitVec.ofInt k.bits a ^^^ BitVec.ofInt k.bits 1).toNat : Int) := by
      apply BitVec.eq_of_toNat_eq
      simp only [BitVec.toNat_ofInt]
      have : ((2 ^ k.bits : Nat) : Int) = 2 ^ k.bits := by simp
      rw [this, h1]
    generalize BitVec.ofInt k.bits a ^^^ BitVec.ofInt k.bits 1 = y at h3 ⊢
    rw [h3, BitVec.ofInt_natCast, BitVec.ofNat_toNat, BitVec.setWidth_eq]
  have h4 : BitVec.ofInt k.bits 1 = 0#k.bits := by
    have := congrArg (fun y => BitVec.ofInt k.bits a ^^^ y) h2
    simp only [BitVec.xor_self, ← BitVec.xor_assoc, BitVec.zero_xor] at this
    exact this.symm
  revert h4
  cases k <;> decide
theorem inR_wrap (k : IntKind) (n : Int) : inR k (k.wrap n) := by
  cases k <;> simp [IntKind.wrap, IntKind.bits, IntKind.signed, inR] <;> omega
theorem xor1_in (k : IntKind) (a : Int) : inR k (xor1 k a) := inR_wrap k _
theorem vS_get2 {xs : List Sp} {i : Nat} {x : Sp} (h : xs[i]? = some x) : (vS xs)[i * 2 + 1]? = some (.int .i32 x.2) := by
  induction xs generalizing i with
  | nil => simp at h
  | cons y ys ih =>
    match i with
    | 0 => simp at h; subst h; rfl
    | i + 1 =>
      have := ih (i := i) (by simpa using h)
      rw [show (i + 1) * 2 + 1 = (i * 2 + 1) + 2 by omega]
      exact this
theorem vS_set2 {xs : List Sp} {i : Nat} {x : Sp} (h : xs[i]? = some x) (y : Int) : spl (vS xs) (i * 2 + 1) [.int .i32 y] = vS (xs.set i (x.1, y)) := by
  induction xs generalizing i with
  | nil => simp at h
  | cons z ys ih =>
    match i with
    | 0 => simp at h; subst h; rfl
    | i + 1 =>
      have := ih (i := i) (by simpa using h)
      have e : ∀ l : List Value, spl (.int .i32 z.1 :: .int .i32 z.2 :: l) ((i + 1) * 2 + 1) [.int .i32 y] = .int .i32 z.1 :: .int .i32 z.2 :: spl l (i * 2 + 1) [.int .i32 y] := by
        intro l
        have e1 : (i + 1) * 2 + 1 = (i * 2 + 1) + 2 := by omega
        rw [e1]
        simp only [spl, List.length_singleton]
        rw [show i * 2 + 1 + 2 + 1 = (i * 2 + 1 + 1) + 2 by omega]
        rfl
      show spl (.int .i32 z.1 :: .int .i32 z.2 :: vS ys) ((i + 1) * 2 + 1) [.int .i32 y] = vS (z :: ys.set i (x.1, y))
      rw [e, this]; rfl
end Go.Proofs.Ytlaockppbboafaa
