/- Plain laws on numbers and texts as bytes. -/
import Derived.Test.YtikkkfamflmgeaaFW
namespace Go.Proofs.Ytikkkfamflmgeaa
open Go Go.GV
attribute [local irreducible] cw Go.GV.SpecM Go.GV.wpList Exit.then Exit.inBlock Go.GV.bodyPost wpPl wpPm wpPn TS rnd rPost YieldsB wpPT ptK
set_option maxRecDepth 10000
set_option linter.unusedVariables false
set_option linter.unusedSimpArgs false
theorem num_cons (b : Int) (bs : List Int) : num (b :: bs) = b * 256 ^ bs.length + num bs := by
  have key : ∀ (bs : List Int) (x : Int), bs.foldl (fun x b => x * 256 + b) x = x * 256 ^ bs.length + bs.foldl (fun x b => x * 256 + b) 0 := by
    intro bs
    induction bs with
    | nil => intro x; simp
    | cons c r ih =>
      intro x
      simp only [List.foldl_cons, List.length_cons]
      rw [ih, ih (0 * 256 + c)]
      grind
  simp only [num, List.foldl_cons]
  rw [key]
  simp
theorem num_lt {bs : List Int} (hb : B8 bs) : 0 ≤ num bs ∧ num bs < 256 ^ bs.length := by
  have := num_bound hb bs.length (Nat.le_refl _)
  rwa [List.take_length] at this
theorem mm (q B : Int) (hB : 0 < B) : (q / 256 % B) * 256 + q % 256 = q % (B * 256) := by
  have h1 := Int.emod_add_mul_ediv q 256
  have h2 := Int.emod_add_mul_ediv (q / 256) B
  have h3 := Int.emod_nonneg (q / 256) (b := B) (by omega)
  have h4 := Int.emod_lt_of_pos (q / 256) hB
  have h5 : q = (q / 256 % B * 256 + q % 256) + (B * 256) * (q / 256 / B) := by grind
  have h6 := Int.emod_nonneg q (b := 256) (by omega)
  have h7 := Int.emod_lt_of_pos q (b := 256) (by omega)
  generalize q / 256 % B = a at *
  generalize q % 256 = r at *
  generalize q / 256 / B = t at *
  rw [h5, Int.add_mul_emod_self_left, Int.emod_eq_of_lt (by omega) (by omega)]
theorem num_put (x : Int) (n : Nat) : ∀ i, i ≤ n → num (putB x n i) = (x / 2 ^ (8 * (n - i))) % 256 ^ i
  | 0, _ => by simp [putB, num, Int.emod_one]
  | i + 1, hi => by
    have ih := num_put x n i (by omega)
    rw [putB_succ, num_snoc, ih, show n - i = (n - 1 - i) + 1 by omega, Int.pow_succ, ← mm _ _ (Int.pow_pos (by omega))]
    congr 3
    · rw [show n - (i + 1) = n - 1 - i by omega]
      have h1 := Int.pow_pos (n := 2) (m := 8 * (n - 1 - i)) (by omega)
      rw [Int.ediv_ediv_of_nonneg (by omega), show (256 : Int) = 2 ^ 8 by rfl, ← Int.pow_add, show 8 * (n - 1 - i + 1) = 8 * (n - 1 - i) + 8 by omega]
    · rw [show n - (i + 1) = n - 1 - i by omega]
theorem num_putB (x : Int) (n : Nat) : num (putB x n n) = x % 256 ^ n := by
  have := num_put x n n (Nat.le_refl _)
  simpa using this
theorem ltB_num : ∀ {xs ys : List Int}, B8 xs → B8 ys → xs.length = ys.length → ltB xs ys = decide (num xs < num ys)
  | [], [], _, _, _ => by simp [ltB, num]
  | x :: xs, y :: ys, hx, hy, hl => by
    have hl' : xs.length = ys.length := by simpa using hl
    have hx' : B8 xs := fun b hb => hx b (by simp [hb])
    have hy' : B8 ys := fun b hb => hy b (by simp [hb])
    have ih := ltB_num hx' hy' hl'
    have b1 := num_lt hx'
    have b2 := num_lt hy'
    rw [num_cons, num_cons, ltB, ih, hl']
    rw [hl'] at b1
    have hp : (0 : Int) < 256 ^ ys.length := Int.pow_pos (by omega)
    generalize (256 : Int) ^ ys.length = B at *
    generalize num xs = a at *
    generalize num ys = b at *
    rw [Bool.eq_iff_iff]
    simp only [Bool.or_eq_true, Bool.and_eq_true, decide_eq_true_eq]
    constructor
    · rintro (h | ⟨h, h'⟩)
      · have h2 : (x + 1) * B ≤ y * B := Int.mul_le_mul_of_nonneg_right (by omega) (by omega)
        rw [Int.add_mul] at h2; omega
      · subst h; omega
    · intro h
      by_cases hc : x < y
      · exact .inl hc
      · by_cases he : x = y
        · subst he; exact .inr ⟨rfl, by omega⟩
        · have h2 : (y + 1) * B ≤ x * B := Int.mul_le_mul_of_nonneg_right (by omega) (by omega)
          rw [Int.add_mul] at h2; omega
theorem eq_num {xs ys : List Int} (hx : B8 xs) (hy : B8 ys) (hl : xs.length = ys.length) : xs = ys ↔ num xs = num ys := by
  constructor
  · intro h; rw [h]
  · intro h
    induction xs generalizing ys with
    | nil => cases ys with
      | nil => rfl
      | cons => simp at hl
    | cons x xs ih => cases ys with
      | nil => simp at hl
      | cons y ys =>
        have hl' : xs.length = ys.length := by simpa using hl
        have hx' : B8 xs := fun b hb => hx b (by simp [hb])
        have hy' : B8 ys := fun b hb => hy b (by simp [hb])
        have b1 := num_lt hx'
        have b2 := num_lt hy'
        rw [num_cons, num_cons, hl'] at h
        rw [hl'] at b1
        have hp : (0 : Int) < 256 ^ ys.length := Int.pow_pos (by omega)
        have hxy : x = y := by
          generalize (256 : Int) ^ ys.length = B at *
          have hc1 : ¬ x < y := fun hc => by
            have h2 : (x + 1) * B ≤ y * B := Int.mul_le_mul_of_nonneg_right (by omega) (by omega)
            rw [Int.add_mul] at h2; omega
          have hc2 : ¬ y < x := fun hc => by
            have h2 : (y + 1) * B ≤ x * B := Int.mul_le_mul_of_nonneg_right (by omega) (by omega)
            rw [Int.add_mul] at h2; omega
          omega
        subst hxy
        rw [ih hx' hy' hl' (by omega)]
theorem wrap_u64 (n : Int) : IntKind.u64.wrap n = n % 18446744073709551616 := by simp [IntKind.wrap, IntKind.bits, IntKind.signed]
theorem putA_nil {k : Int} (h1 : 1 ≤ k) (h8 : k ≤ 8) (x : Int) : putA [] x k = putB x k.toNat k.toNat := by simp [putA, h1, h8]
theorem back_ok {k : Int} (h1 : 1 ≤ k) (h8 : k ≤ 8) (x : Int) (r : List Int) : takOk (putA [] x k ++ r) k = true := by
  rw [putA_nil h1 h8]; simp [takOk, h1, h8, putB_len]; omega
theorem back_num {k : Int} (h1 : 1 ≤ k) (h8 : k ≤ 8) (x : Int) (r : List Int) : takN (putA [] x k ++ r) k = x % 256 ^ k.toNat := by
  rw [takN, if_pos (back_ok h1 h8 x r), putA_nil h1 h8, List.take_append_of_le_length (by simp [putB_len]), List.take_of_length_le (by simp [putB_len]), num_putB]
theorem back_rest {k : Int} (h1 : 1 ≤ k) (h8 : k ≤ 8) (x : Int) (r : List Int) : takR (putA [] x k ++ r) k = r := by
  rw [takR, if_pos (back_ok h1 h8 x r), putA_nil h1 h8, List.drop_append_of_le_length (by simp [putB_len]), List.drop_of_length_le (by simp [putB_len]), List.nil_append]
theorem putB_two (x : Int) : putB x 2 2 = [(x / 256) % 256, x % 256] := by
  simp [putB, List.range_succ]
theorem putT_nil {t : List Int} (hl : t.length ≤ 65535) : putT [] t = [((t.length : Int) / 256) % 256, (t.length : Int) % 256] ++ t := by
  rw [putT, if_pos hl, putB_two]; rfl
theorem two_put {t : List Int} (hl : t.length ≤ 65535) (r : List Int) : two (putT [] t ++ r) = t.length := by
  rw [putT_nil hl]; simp [two]; omega
theorem text_ok {t : List Int} {most : Int} (hl : t.length ≤ 65535) (hm : t.length ≤ most) (r : List Int) : tkOk (putT [] t ++ r) most = true := by
  have h2 := two_put hl r
  simp only [tkOk, h2, Bool.and_eq_true, decide_eq_true_eq]
  rw [putT_nil hl]
  simp; omega
theorem text_text {t : List Int} {most : Int} (hl : t.length ≤ 65535) (hm : t.length ≤ most) (r : List Int) : tkT (putT [] t ++ r) most = t := by
  rw [tkT, if_pos (text_ok hl hm r), two_put hl, putT_nil hl]
  simp
theorem text_rest {t : List Int} {most : Int} (hl : t.length ≤ 65535) (hm : t.length ≤ most) (r : List Int) : tkR (putT [] t ++ r) most = r := by
  rw [tkR, if_pos (text_ok hl hm r), two_put hl, putT_nil hl]
  simp
theorem again_num {bs : List Int} {k : Int} (hb : B8 bs) (hk : takOk bs k = true) : putA [] (takN bs k) k ++ takR bs k = bs := by
  have hk' := hk
  simp only [takOk, Bool.and_eq_true, decide_eq_true_eq] at hk'
  have hl : (bs.take k.toNat).length = k.toNat := by simp; omega
  have e : putB (num (bs.take k.toNat)) k.toNat k.toNat = bs.take k.toNat := by
    rw [eq_num (putB_b8 _ _ _) (hb.take _) (by rw [putB_len, hl]), num_putB]
    have := num_lt (hb.take k.toNat)
    rw [hl] at this
    exact Int.emod_eq_of_lt this.1 this.2
  rw [takN, takR, if_pos hk, if_pos hk, putA_nil hk'.1.1 hk'.1.2, e, List.take_append_drop]
theorem again_text {bs : List Int} {most : Int} (hb : B8 bs) (hk : tkOk bs most = true) : putT [] (tkT bs most) ++ tkR bs most = bs := by
  have hk' := hk
  simp only [tkOk, Bool.and_eq_true, decide_eq_true_eq] at hk'
  rw [tkT, tkR, if_pos hk, if_pos hk]
  match bs, hk', hb with
  | y0 :: y1 :: r, hk', hb =>
    have h0 := hb y0 (by simp)
    have h1 := hb y1 (by simp)
    simp only [inR] at h0 h1
    have h2 : two (y0 :: y1 :: r) = y0 * 256 + y1 := by simp [two]
    rw [h2] at hk' ⊢
    simp only [List.length_cons] at hk'
    have hl : ((List.drop 2 (y0 :: y1 :: r)).take (y0 * 256 + y1).toNat).length = (y0 * 256 + y1).toNat := by simp; omega
    rw [putT_nil (by omega), hl]
    have e : (((y0 * 256 + y1).toNat : Nat) : Int) = y0 * 256 + y1 := by omega
    rw [e, show (y0 * 256 + y1) / 256 % 256 = y0 by omega, show (y0 * 256 + y1) % 256 = y1 by omega]
    simp
theorem want8 {x k : Int} (hx : 0 ≤ x) (hx2 : x ≤ 18446744073709551615) (hk : k = 8) : x % 256 ^ k.toNat = x := by
  subst hk
  exact Int.emod_eq_of_lt hx (by have : (256 : Int) ^ (8 : Int).toNat = 18446744073709551616 := by decide
                                 omega)
theorem takN_inR {bs : List Int} (hb : B8 bs) (k : Int) : inR .u64 (takN bs k) := by
  unfold takN
  split
  · rename_i hk
    simp only [takOk, Bool.and_eq_true, decide_eq_true_eq] at hk
    have h1 := num_bound hb k.toNat (by omega)
    have h2 : k.toNat = 1 ∨ k.toNat = 2 ∨ k.toNat = 3 ∨ k.toNat = 4 ∨ k.toNat = 5 ∨ k.toNat = 6 ∨ k.toNat = 7 ∨ k.toNat = 8 := by omega
    have h3 : (256 : Int) ^ k.toNat ≤ 18446744073709551616 := by rcases h2 with e | e | e | e | e | e | e | e <;> rw [e] <;> decide
    exact inR_u64 (by omega) (by omega)
  · exact inR_u64 (by omega) (by omega)
end Go.Proofs.Ytikkkfamflmgeaa
