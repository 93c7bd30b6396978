/- Plain laws on numbers and texts as bytes. -/
import Derived.Test.YtmpfeaoofkkhjaaGreatFW
namespace Go.Proofs.YtmpfeaoofkkhjaaGreat
open Go Go.GV
attribute [local irreducible] cw Go.GV.SpecM Go.GV.wpList Exit.then Exit.inBlock Go.GV.bodyPost wpPl wpPm wpPn TS rnd rPost YieldsB wpPT ptK
set_option maxRecDepth 10000
set_option linter.unusedVariables false
set_option linter.unusedSimpArgs false
theorem num_cons (b : Int) (bs : List Int) : num (b :: bs) = b * 256 ^ bs.length + num bs := by
  have key : ∀ (bs : List Int) (x : Int), bs.foldl (fun x b => x * 256 + b) x = x * 256 ^ bs.length + bs.foldl (fun x b => x * 256 + b) 0 := by
    intro bs
    induction bs with
    | nil => intro x; simp
    | cons c r ih =>
      intro x
      simp only [List.foldl_cons, List.length_cons]
      rw [ih, ih (0 * 256 + c)]
      grind
  simp only [num, List.foldl_cons]
  rw [key]
  simp
theorem num_lt {bs : List Int} (hb : B8 bs) : 0 ≤ num bs ∧ num bs < 256 ^ bs.length := by
  have := num_bound hb bs.length (Nat.le_refl _)
  rwa [List.take_length] at this
theorem mm (q B : Int) (hB : 0 < B) : (q / 256 % B) * 256 + q % 256 = q % (B * 256) := by
  have h1 := Int.emod_add_mul_ediv q 256
  have h2 := Int.emod_add_mul_ediv (q / 256) B
  have h3 := Int.emod_nonneg (q / 256) (b := B) (by omega)
  have h4 := Int.emod_lt_of_pos (q / 256) hB
  have h5 : q = (q / 256 % B * 256 + q % 256) + (B * 256) * (q / 256 / B) := by grind
  have h6 := Int.emod_nonneg q (b := 256) (by omega)
  have h7 := Int.emod_lt_of_pos q (b := 256) (by omega)
  generalize q / 256 % B = a at *
  generalize q % 256 = r at *
  generalize q / 256 / B = t at *
  rw [h5, Int.add_mul_emod_self_left, Int.emod_eq_of_lt (by omega) (by omega)]
theorem num_put (x : Int) (n : Nat) : ∀ i, i ≤ n → num (putB x n i) = (x / 2 ^ (8 * (n - i))) % 256 ^ i
  | 0, _ => by simp [putB, num, Int.emod_one]
  | i + 1, hi => by
    have ih := num_put x n i (by omega)
    rw [putB_succ, num_snoc, ih, show n - i = (n - 1 - i) + 1 by omega, Int.pow_succ, ← mm _ _ (Int.pow_pos (by omega))]
    congr 3
    · rw [show n - (i + 1) = n - 1 - i by omega]
      have h1 := Int.pow_pos (n := 2) (m := 8 * (n - 1 - i)) (by omega)
      rw [Int.ediv_ediv_of_nonneg (by omega), show (256 : Int) = 2 ^ 8 by rfl, ← Int.pow_add, show 8 * (n - 1 - i + 1) = 8 * (n - 1 - i) + 8 by omega]
    · rw [show n - (i + 1) = n - 1 - i by omega]
theorem num_putB (x : Int) (n : Nat) : num (putB x n n) = x % 256 ^ n := by
  have := num_put x n n (Nat.le_refl _)
  simpa using this
theorem eq_num {xs ys : List Int} (hx : B8 xs) (hy : B8 ys) (hl : xs.length = ys.length) : xs = ys ↔ num xs = num ys := by
  constructor
  · intro h; rw [h]
  · intro h
    induction xs generalizing ys with
    | nil => cases ys with
      | nil => rfl
      | cons => simp at hl
    | cons x xs ih => cases ys with
      | nil => simp at hl
      | cons y ys =>
        have hl' : xs.length = ys.length := by simpa using hl
        have hx' : B8 xs := fun b hb => hx b (by simp [hb])
        have hy' : B8 ys := fun b hb => hy b (by simp [hb])
        have b1 := num_lt hx'
        have b2 := num_lt hy'
        rw [num_cons, num_cons, hl'] at h
        rw [hl'] at b1
        have hp : (0 : Int) < 256 ^ ys.length := Int.pow_pos (by omega)
        have hxy : x = y := by
          generalize (256 : Int) ^ ys.length = B at *
          have hc1 : ¬ x < y := fun hc => by
            have h2 : (x + 1) * B ≤ y * B := Int.mul_le_mul_of_nonneg_right (by omega) (by omega)
            rw [Int.add_mul] at h2; omega
          have hc2 : ¬ y < x := fun hc => by
            have h2 : (y + 1) * B ≤ x * B := Int.mul_le_mul_of_nonneg_right (by omega) (by omega)
            rw [Int.add_mul] at h2; omega
          omega
        subst hxy
        rw [ih hx' hy' hl' (by omega)]
theorem putB_two (x : Int) : putB x 2 2 = [(x / 256) % 256, x % 256] := by
  simp [putB, List.range_succ]
theorem putT_nil {t : List Int} (hl : t.length ≤ 65535) : putT [] t = [((t.length : Int) / 256) % 256, (t.length : Int) % 256] ++ t := by
  rw [putT, if_pos hl, putB_two]; rfl
theorem two_put {t : List Int} (hl : t.length ≤ 65535) (r : List Int) : two (putT [] t ++ r) = t.length := by
  rw [putT_nil hl]; simp [two]; omega
theorem text_ok {t : List Int} {most : Int} (hl : t.length ≤ 65535) (hm : t.length ≤ most) (r : List Int) : tkOk (putT [] t ++ r) most = true := by
  have h2 := two_put hl r
  simp only [tkOk, h2, Bool.and_eq_true, decide_eq_true_eq]
  rw [putT_nil hl]
  simp; omega
theorem text_text {t : List Int} {most : Int} (hl : t.length ≤ 65535) (hm : t.length ≤ most) (r : List Int) : tkT (putT [] t ++ r) most = t := by
  rw [tkT, if_pos (text_ok hl hm r), two_put hl, putT_nil hl]
  simp
theorem text_rest {t : List Int} {most : Int} (hl : t.length ≤ 65535) (hm : t.length ≤ most) (r : List Int) : tkR (putT [] t ++ r) most = r := by
  rw [tkR, if_pos (text_ok hl hm r), two_put hl, putT_nil hl]
  simp
theorem again_text {bs : List Int} {most : Int} (hb : B8 bs) (hk : tkOk bs most = true) : putT [] (tkT bs most) ++ tkR bs most = bs := by
  have hk' := hk
  simp only [tkOk, Bool.and_eq_true, decide_eq_true_eq] at hk'
  rw [tkT, tkR, if_pos hk, if_pos hk]
  match bs, hk', hb with
  | y0 :: y1 :: r, hk', hb =>
    have h0 := hb y0 (by simp)
    have h1 := hb y1 (by simp)
    simp only [inR] at h0 h1
    have h2 : two (y0 :: y1 :: r) = y0 * 256 + y1 := by simp [two]
    rw [h2] at hk' ⊢
    simp only [List.length_cons] at hk'
    have hl : ((List.drop 2 (y0 :: y1 :: r)).take (y0 * 256 + y1).toNat).length = (y0 * 256 + y1).toNat := by simp; omega
    rw [putT_nil (by omega), hl]
    have e : (((y0 * 256 + y1).toNat : Nat) : Int) = y0 * 256 + y1 := by omega
    rw [e, show (y0 * 256 + y1) / 256 % 256 = y0 by omega, show (y0 * 256 + y1) % 256 = y1 by omega]
    simp
end Go.Proofs.YtmpfeaoofkkhjaaGreat
