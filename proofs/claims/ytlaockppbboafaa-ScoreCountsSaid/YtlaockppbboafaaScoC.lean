/- The overlap of small spans, counted. -/
import Derived.Test.YtlaockppbboafaaScoA
namespace Go.Proofs.Ytlaockppbboafaa
open Go Go.GV
attribute [local irreducible] cw Go.GV.SpecM Go.GV.wpList Exit.then Exit.inBlock Go.GV.bodyPost wpPl wpPm wpPn TS rnd rPost YieldsB wpPT ptK
set_option linter.unusedVariables false
set_option linter.unusedSimpArgs false
/-- How many numbers below 'N' do. -/
def cntP (p : Nat → Bool) : Nat → Nat
  | 0 => 0
  | N + 1 => cntP p N + if p N then 1 else 0
theorem cntP_congr {p q : Nat → Bool} : ∀ {N : Nat}, (∀ k, k < N → p k = q k) → cntP p N = cntP q N
  | 0, _ => rfl
  | N + 1, h => by simp only [cntP]; rw [cntP_congr (fun k hk => h k (by omega)), h N (by omega)]
theorem cntP_le (p : Nat → Bool) : ∀ N, cntP p N ≤ N
  | 0 => by simp [cntP]
  | N + 1 => by have := cntP_le p N; simp only [cntP]; split <;> omega
theorem cntP_none {p : Nat → Bool} : ∀ {N : Nat}, (∀ k, k < N → p k = false) → cntP p N = 0
  | 0, _ => rfl
  | N + 1, h => by simp only [cntP]; rw [cntP_none (fun k hk => h k (by omega)), h N (by omega)]; rfl
theorem cnt_mul (p q : Nat → Bool) : ∀ N, cntP (fun k => p (k % 6) && q (k / 6)) (6 * N) = cntP p 6 * cntP q N
  | 0 => by simp [cntP]
  | N + 1 => by
    have ih := cnt_mul p q N
    have e : 6 * (N + 1) = 6 * N + 1 + 1 + 1 + 1 + 1 + 1 := by omega
    have h6 : cntP p 6 = (if p 0 = true then 1 else 0) + (if p 1 = true then 1 else 0) + (if p 2 = true then 1 else 0) + (if p 3 = true then 1 else 0) + (if p 4 = true then 1 else 0) + (if p 5 = true then 1 else 0) := by simp [cntP]
    generalize cntP p 6 = c at *
    generalize hq : cntP q (N + 1) = cq
    rw [e]
    simp only [cntP] at hq ⊢
    subst hq
    have hh : ∀ j, j < 6 → (6 * N + j) % 6 = j ∧ (6 * N + j) / 6 = N := fun j hj => by omega
    have e0 := hh 0 (by omega)
    have e1 := hh 1 (by omega)
    have e2 := hh 2 (by omega)
    have e3 := hh 3 (by omega)
    have e4 := hh 4 (by omega)
    have e5 := hh 5 (by omega)
    simp only [Nat.add_zero] at e0
    simp only [show 6 * N + 1 + 1 = 6 * N + 2 from rfl, show 6 * N + 2 + 1 = 6 * N + 3 from rfl, show 6 * N + 3 + 1 = 6 * N + 4 from rfl, show 6 * N + 4 + 1 = 6 * N + 5 from rfl, e0.1, e0.2, e1.1, e1.2, e2.1, e2.2, e3.1, e3.2, e4.1, e4.2, e5.1, e5.2]
    rw [ih]
    cases q N
    · simp
    · simp only [Bool.and_true, if_true, Nat.mul_add, Nat.mul_one]
      omega
/-- A number's digits, the last one first. -/
def dig : Nat → Nat → List Int
  | 0, _ => []
  | n + 1, k => ((k % 6 : Nat) : Int) :: dig n (k / 6)
theorem dig_len : ∀ n k, (dig n k).length = n
  | 0, _ => rfl
  | n + 1, k => by simp [dig, dig_len n]
/-- A span of numbers from 0 to 5. -/
def Sml (s : Sp) : Prop := 0 ≤ s.1 ∧ s.1 ≤ s.2 ∧ s.2 ≤ 5
theorem span_dec : ∀ a : Fin 6, ∀ b : Fin 6, a.val ≤ b.val → cntP (fun d => inS (((a.val : Int), (b.val : Int)), (d : Int))) 6 = b.val - a.val + 1 := by decide
theorem cnt_span {s : Sp} (hs : Sml s) : cntP (fun d => inS (s, (d : Int))) 6 = (s.2 - s.1 + 1).toNat := by
  obtain ⟨a, b⟩ := s
  obtain ⟨h1, h2, h3⟩ := hs
  simp only at h1 h2 h3
  have := span_dec ⟨a.toNat, by omega⟩ ⟨b.toNat, by omega⟩ (by simp only; omega)
  simp only at this
  rw [Int.toNat_of_nonneg h1, Int.toNat_of_nonneg (show 0 ≤ b by omega)] at this
  rw [this]
  simp only
  omega
def pr : List Sp → Nat
  | [] => 1
  | s :: m => (s.2 - s.1 + 1).toNat * pr m
theorem cnt_list : ∀ (m : List Sp), (∀ s ∈ m, Sml s) → cntP (fun k => (m.zip (dig m.length k)).all inS) (6 ^ m.length) = pr m
  | [], _ => by simp [cntP, pr, dig]
  | s :: m, h => by
    have ih := cnt_list m (fun x hx => h x (by simp [hx]))
    have h1 := cnt_mul (fun d => inS (s, (d : Int))) (fun k => (m.zip (dig m.length k)).all inS) (6 ^ m.length)
    rw [ih, cnt_span (h s (by simp))] at h1
    simp only [List.length_cons, pr, dig, List.zip_cons_cons, List.all_cons]
    rw [← h1, Nat.pow_succ, Nat.mul_comm]
theorem ln_sml {s : Sp} (hs : Sml s) : lnS s = ((s.2 - s.1 + 1).toNat : Int) ∧ 1 ≤ (s.2 - s.1 + 1).toNat ∧ (s.2 - s.1 + 1).toNat ≤ 6 := by
  obtain ⟨h1, h2, h3⟩ := hs
  refine ⟨?_, by omega, by omega⟩
  simp only [lnS, ln]
  split <;> omega
theorem pr_le : ∀ (m : List Sp), (∀ s ∈ m, Sml s) → pr m ≤ 6 ^ m.length
  | [], _ => by simp [pr]
  | s :: m, h => by
    have ih := pr_le m (fun x hx => h x (by simp [hx]))
    have h1 := (ln_sml (h s (by simp))).2.2
    simp only [pr, List.length_cons, Nat.pow_succ]
    rw [Nat.mul_comm (6 ^ m.length)]
    exact Nat.mul_le_mul h1 ih
theorem pr_pos : ∀ (m : List Sp), (∀ s ∈ m, Sml s) → 1 ≤ pr m
  | [], _ => by simp [pr]
  | s :: m, h => by
    have ih := pr_pos m (fun x hx => h x (by simp [hx]))
    have h1 := (ln_sml (h s (by simp))).2.1
    simp only [pr]
    exact Nat.mul_pos h1 ih
theorem fold_pr : ∀ (m : List Sp) (n : Nat), (∀ s ∈ m, Sml s) → n * pr m ≤ 4294967295 → m.foldl mulS (n : Int) = ((n * pr m : Nat) : Int)
  | [], n, _, _ => by simp [pr]
  | s :: m, n, h, hb => by
    have h1 := ln_sml (h s (by simp))
    have hp := pr_pos m (fun x hx => h x (by simp [hx]))
    simp only [pr] at hb ⊢
    rw [← Nat.mul_assoc] at hb ⊢
    have h2 : n * (s.2 - s.1 + 1).toNat ≤ n * (s.2 - s.1 + 1).toNat * pr m := Nat.le_mul_of_pos_right _ hp
    have h3 : mulS (n : Int) s = ((n * (s.2 - s.1 + 1).toNat : Nat) : Int) := by
      simp only [mulS]
      rw [h1.1, ← Int.natCast_mul]
      omega
    rw [List.foldl_cons, h3]
    exact fold_pr m _ (fun x hx => h x (by simp [hx])) hb
theorem mtp_sml {x y : Sp} (hx : Sml x) (hy : Sml y) (h : mtb (x, y) = true) : Sml (mtp (x, y)) := by
  obtain ⟨a1, a2, a3⟩ := hx
  obtain ⟨b1, b2, b3⟩ := hy
  simp only [mtb, mtp, mtOk, mt1, mt2, Sml] at *
  grind
theorem zip_sml : ∀ (a b : List Sp), (∀ s ∈ a, Sml s) → (∀ s ∈ b, Sml s) → (a.zip b).all mtb = true → ∀ s ∈ (a.zip b).map mtp, Sml s
  | [], _, _, _, _ => by simp
  | _ :: _, [], _, _, _ => by simp
  | x :: a, y :: b, ha, hb, h => by
    simp only [List.zip_cons_cons, List.all_cons, Bool.and_eq_true, List.map_cons] at *
    intro s hs
    rcases List.mem_cons.1 hs with rfl | hs
    · exact mtp_sml (ha x (by simp)) (hb y (by simp)) h.1
    · exact zip_sml a b (fun s hs => ha s (by simp [hs])) (fun s hs => hb s (by simp [hs])) h.2 s hs
/-- The overlap of small filters is how many values both match. -/
theorem ovl_counts {a b : List Sp} {n : Nat} (la : a.length = n) (lb : b.length = n) (h1 : 1 ≤ n) (h3 : n ≤ 3) (ha : ∀ s ∈ a, Sml s) (hb : ∀ s ∈ b, Sml s) : ovl a b = ((cntP (fun k => matchF a (dig n k) && matchF b (dig n k)) (6 ^ n) : Nat) : Int) := by
  have e1 : cntP (fun k => matchF a (dig n k) && matchF b (dig n k)) (6 ^ n) = cntP (fun k => matchF (meetF a b) (dig n k)) (6 ^ n) := cntP_congr (fun k _ => (match_meet a b (dig n k)).symm)
  rw [e1, ovl]
  by_cases h : b.length = a.length ∧ (a.zip b).all mtb = true
  · have e2 : meetF a b = (a.zip b).map mtp := by
      unfold meetF
      rw [if_pos (by first | exact ⟨by omega, h.2⟩ | exact ⟨h.1, h.2⟩ | exact ⟨h.1.symm, h.2⟩)]
    have hl : ((a.zip b).map mtp).length = n := by simp; omega
    have hs := zip_sml a b ha hb h.2
    have hne : ((a.zip b).map mtp).length ≠ 0 := by omega
    rw [e2]
    generalize (a.zip b).map mtp = m at *
    have e3 : cntP (fun k => matchF m (dig n k)) (6 ^ n) = pr m := by
      rw [← cnt_list m hs, hl]
      apply cntP_congr
      intro k _
      simp only [matchF, dig_len, hl]
      simp
      omega
    rw [e3]
    have hp := pr_le m hs
    rw [hl] at hp
    have h216 : 6 ^ n ≤ 216 := by
      have : n = 1 ∨ n = 2 ∨ n = 3 := by omega
      rcases this with rfl | rfl | rfl <;> decide
    have := fold_pr m 1 hs (by omega)
    unfold ovlM
    rw [if_neg hne, prodS]
    simpa using this
  · have e2 : meetF a b = [] := by
      unfold meetF
      rw [if_neg (by first | exact h | (intro hc; exact h ⟨by omega, hc.2⟩))]
    rw [e2]
    have : cntP (fun k => matchF [] (dig n k)) (6 ^ n) = 0 := cntP_none (fun k _ => matchF_nil _)
    rw [this]
    rfl
/-- A span made small. -/
def smS (s : Sp) : Sp := ((s.1.tmod 6 + 6) % 6, min ((s.1.tmod 6 + 6) % 6 + (s.2.tmod 4 + 4) % 4) 5)
theorem tmod_bd (a : Int) {n : Int} (hn : 0 < n) : -n < a.tmod n ∧ a.tmod n < n := by
  rcases tmod_or a n with ⟨h0, e⟩ | ⟨h0, e⟩
  · rw [e]; have := Int.emod_nonneg a (show n ≠ 0 by omega); have := Int.emod_lt_of_pos a hn; omega
  · rw [e]; have := Int.emod_nonneg (-a) (show n ≠ 0 by omega); have := Int.emod_lt_of_pos (-a) hn; omega
theorem tmod_nn {a n : Int} (h : 0 ≤ a) (hn : 0 < n) : 0 ≤ a.tmod n ∧ a.tmod n < n := by
  rcases tmod_or a n with ⟨h0, e⟩ | ⟨h0, e⟩
  · rw [e]; exact ⟨Int.emod_nonneg a (show n ≠ 0 by omega), Int.emod_lt_of_pos a hn⟩
  · omega
theorem smS_sml (s : Sp) : Sml (smS s) := by
  have h1 := tmod_bd s.1 (n := 6) (by decide)
  have h3 := tmod_bd s.2 (n := 4) (by decide)
  simp only [Sml, smS]
  omega
theorem dig_get : ∀ (n k j : Nat), j < n → (dig n k)[j]? = some (((k / 6 ^ j % 6 : Nat)) : Int)
  | 0, _, _, h => by omega
  | n + 1, k, 0, _ => by simp [dig]
  | n + 1, k, j + 1, h => by
    have := dig_get n (k / 6) j (by omega)
    simp only [dig, List.getElem?_cons_succ, this, Nat.div_div_eq_div_mul]
    rw [Nat.pow_succ, Nat.mul_comm]
theorem dig_in (n k : Nat) : ∀ v ∈ dig n k, inR .i32 v := by
  intro v hv
  obtain ⟨j, hj⟩ := List.getElem?_of_mem hv
  have hl : j < n := by have := (List.getElem?_eq_some_iff.1 hj).1; rwa [dig_len] at this
  rw [dig_get n k j hl] at hj
  cases hj
  simp only [inR]
  omega
end Go.Proofs.Ytlaockppbboafaa
