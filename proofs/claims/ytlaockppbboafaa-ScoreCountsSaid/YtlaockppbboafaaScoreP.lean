/- How much filters have in common, and keys, in plain lists. -/
import Derived.Test.YtlaockppbboafaaFiltP
namespace Go.Proofs.Ytlaockppbboafaa
open Go Go.GV
attribute [local irreducible] cw Go.GV.SpecM Go.GV.wpList Exit.then Exit.inBlock Go.GV.bodyPost wpPl wpPm wpPn TS rnd rPost YieldsB wpPT ptK
set_option linter.unusedVariables false
set_option linter.unusedSimpArgs false
def lnS (s : Sp) : Int := ln s.1 s.2
def mulS (n : Int) (s : Sp) : Int := min (n * lnS s) 4294967295
def prodS (m : List Sp) : Int := m.foldl mulS 1
def ovlM (m : List Sp) : Int := if m.length = 0 then 0 else prodS m
def ovl (a b : List Sp) : Int := ovlM (meetF a b)
theorem ln_bd (a b : Int) : 0 ≤ ln a b ∧ ln a b ≤ 4294967295 := by unfold ln; split <;> omega
theorem mul_bd {a b : Int} (ha : 0 ≤ a ∧ a ≤ 4294967295) (hb : 0 ≤ b ∧ b ≤ 4294967295) : 0 ≤ a * b ∧ a * b ≤ 18446744065119617025 :=
  ⟨Int.mul_nonneg ha.1 hb.1, Int.le_trans (Int.mul_le_mul ha.2 hb.2 hb.1 (by decide)) (by decide)⟩
theorem mulS_bd {n : Int} {s : Sp} (hn : 0 ≤ n ∧ n ≤ 4294967295) : 0 ≤ mulS n s ∧ mulS n s ≤ 4294967295 := by
  have := mul_bd hn (ln_bd s.1 s.2)
  unfold mulS lnS; omega
theorem foldS_bd : ∀ (m : List Sp) {n : Int}, 0 ≤ n ∧ n ≤ 4294967295 → 0 ≤ m.foldl mulS n ∧ m.foldl mulS n ≤ 4294967295
  | [], _, h => h
  | s :: m, n, h => foldS_bd m (mulS_bd h)
theorem prodS_bd (m : List Sp) : 0 ≤ prodS m ∧ prodS m ≤ 4294967295 := foldS_bd m (by decide)
theorem ovlM_bd (m : List Sp) : 0 ≤ ovlM m ∧ ovlM m ≤ 4294967295 := by unfold ovlM; split <;> first | decide | exact prodS_bd m
theorem prodS_snoc (m : List Sp) (s : Sp) : prodS (m ++ [s]) = mulS (prodS m) s := by simp [prodS]
theorem tdiv_or (s n : Int) : (0 ≤ s ∧ s.tdiv n = s / n) ∨ (s < 0 ∧ s.tdiv n = -((-s) / n)) := by
  rcases Int.lt_or_le s 0 with h | h
  · right
    refine ⟨h, ?_⟩
    rw [← Int.tdiv_eq_ediv_of_nonneg (by omega), Int.neg_tdiv, Int.neg_neg]
  · exact .inl ⟨h, Int.tdiv_eq_ediv_of_nonneg h⟩
theorem tmod_or (s n : Int) : (0 ≤ s ∧ s.tmod n = s % n) ∨ (s < 0 ∧ s.tmod n = -((-s) % n)) := by
  rcases Int.lt_or_le s 0 with h | h
  · right
    refine ⟨h, ?_⟩
    rw [← Int.tmod_eq_emod_of_nonneg (by omega), Int.neg_tmod, Int.neg_neg]
  · exact .inl ⟨h, Int.tmod_eq_emod_of_nonneg h⟩
/-! ### The quarter -/
def quart (r s : Sp) : Int := 4 * ((s.1 + s.2) / 2 - r.1) / (r.2 - r.1 + 1)
theorem quart_bd {r s : Sp} (h1 : r.1 ≤ s.1) (h2 : s.1 ≤ s.2) (h3 : s.2 ≤ r.2) : 0 ≤ quart r s ∧ quart r s ≤ 3 := by
  unfold quart
  constructor
  · exact Int.ediv_nonneg (by omega) (by omega)
  · have : 4 * ((s.1 + s.2) / 2 - r.1) / (r.2 - r.1 + 1) < 4 := Int.ediv_lt_of_lt_mul (by omega) (by omega)
    omega
theorem quart_end {r s : Sp} {q : Int} (hp : 0 < r.2 - r.1 + 1) (h1 : q * (r.2 - r.1 + 1) ≤ 4 * ((s.1 + s.2) / 2 - r.1)) (h2 : 4 * ((s.1 + s.2) / 2 - r.1) < (q + 1) * (r.2 - r.1 + 1)) : q = quart r s := by
  have a1 := Int.le_ediv_of_mul_le hp h1
  have a2 := Int.ediv_lt_of_lt_mul hp h2
  unfold quart
  omega
theorem quart_le {r s : Sp} {q : Int} (hp : 0 < r.2 - r.1 + 1) (h1 : q * (r.2 - r.1 + 1) ≤ 4 * ((s.1 + s.2) / 2 - r.1)) : q ≤ quart r s := Int.le_ediv_of_mul_le hp h1
theorem qmul_bd {q L : Int} (h0 : 0 ≤ q) (h1 : q ≤ 3) (h2 : 0 ≤ L) (h3 : L ≤ 4294967296) : 0 ≤ (q + 1) * L ∧ (q + 1) * L ≤ 17179869184 :=
  ⟨Int.mul_nonneg (by omega) h2, Int.le_trans (Int.mul_le_mul (show q + 1 ≤ 4 by omega) h3 h2 (by decide)) (by decide)⟩
def keyStep (k : Int) (x : Sp × Sp) : Int := 4 * k + quart x.1 x.2
def keyF (s f : List Sp) : Int := (s.zip f).foldl keyStep 0
theorem rgb_q {x : Sp × Sp} (h : rgb x = true) : x.1.1 ≤ x.2.1 ∧ x.2.1 ≤ x.2.2 ∧ x.2.2 ≤ x.1.2 := by
  simp only [rgb, covb, cov] at h; grind
theorem key_bd : ∀ (l : List (Sp × Sp)) (k b : Int), l.all rgb = true → 0 ≤ k → k + 1 ≤ b → 0 ≤ l.foldl keyStep k ∧ l.foldl keyStep k + 1 ≤ b * 4 ^ l.length
  | [], k, b, _, h1, h2 => ⟨h1, by simpa using h2⟩
  | x :: l, k, b, h, h1, h2 => by
    simp only [List.all_cons, Bool.and_eq_true] at h
    have hq := rgb_q h.1
    have hb := quart_bd hq.1 hq.2.1 hq.2.2
    have ih := key_bd l (keyStep k x) (b * 4) h.2 (by unfold keyStep; omega) (by unfold keyStep; omega)
    simp only [List.foldl_cons, List.length_cons]
    rw [Int.pow_succ', ← Int.mul_assoc]
    exact ih
theorem key_take {s f : List Sp} (hr : (s.zip f).all rgb = true) (hl : (s.zip f).length ≤ 4) (i : Nat) : 0 ≤ ((s.zip f).take i).foldl keyStep 0 ∧ ((s.zip f).take i).foldl keyStep 0 ≤ 255 := by
  have h1 : ((s.zip f).take i).all rgb = true := by
    rw [List.all_eq_true] at *
    exact fun x hx => hr x (List.mem_of_mem_take hx)
  have h2 := key_bd ((s.zip f).take i) 0 1 h1 (by decide) (by decide)
  have h3 : ((s.zip f).take i).length ≤ 4 := by simp only [List.length_take]; omega
  have h4 : (4 : Int) ^ ((s.zip f).take i).length ≤ 256 := by
    generalize ((s.zip f).take i).length = n at h3
    match n, h3 with
    | 0, _ => decide
    | 1, _ => decide
    | 2, _ => decide
    | 3, _ => decide
    | 4, _ => decide
  omega
theorem right_zip {s f : List Sp} (hs : right s = true) (h : rightF s f = true) : (s.zip f).all rgb = true ∧ (s.zip f).length ≤ 4 ∧ (f.length = 0 ∨ f.length = s.length) := by
  simp only [right, Bool.and_eq_true, decide_eq_true_eq] at hs
  simp only [rightF, Bool.or_eq_true, decide_eq_true_eq, Bool.and_eq_true] at h
  rcases h with h | h
  · have := List.length_eq_zero_iff.1 h
    subst this
    simp
  · exact ⟨h.2, by simp; omega, .inr h.1⟩
theorem keyF_bd {s f : List Sp} (hs : right s = true) (h : rightF s f = true) : 0 ≤ keyF s f ∧ keyF s f ≤ 255 := by
  obtain ⟨h1, h2, _⟩ := right_zip hs h
  have := key_take h1 h2 (s.zip f).length
  rwa [List.take_length] at this
end Go.Proofs.Ytlaockppbboafaa
