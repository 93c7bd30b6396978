/- What is put is taken, in plain lists. -/
import Derived.Test.YtgbiipopciogeaaWireOrder
namespace Go.Proofs.Ytgbiipopciogeaa
open Go Go.GV
attribute [local irreducible] Code.wp wpList Exit.then Exit.inBlock bodyPost wpPl wpPm
set_option linter.unusedVariables false
theorem putA_nil {k : Int} (h1 : 1 ≤ k) (h8 : k ≤ 8) (x : Int) : putA [] x k = putB x k.toNat k.toNat := by simp [putA, h1, h8]
theorem back_ok {k : Int} (h1 : 1 ≤ k) (h8 : k ≤ 8) (x : Int) (r : List Int) : takOk (putA [] x k ++ r) k = true := by
  rw [putA_nil h1 h8]; simp [takOk, h1, h8, putB_len]; omega
theorem back_num {k : Int} (h1 : 1 ≤ k) (h8 : k ≤ 8) (x : Int) (r : List Int) : takN (putA [] x k ++ r) k = x % 256 ^ k.toNat := by
  rw [takN, if_pos (back_ok h1 h8 x r), putA_nil h1 h8, List.take_append_of_le_length (by simp [putB_len]), List.take_of_length_le (by simp [putB_len]), num_putB]
theorem back_rest {k : Int} (h1 : 1 ≤ k) (h8 : k ≤ 8) (x : Int) (r : List Int) : takR (putA [] x k ++ r) k = r := by
  rw [takR, if_pos (back_ok h1 h8 x r), putA_nil h1 h8, List.drop_append_of_le_length (by simp [putB_len]), List.drop_of_length_le (by simp [putB_len]), List.nil_append]
theorem putB_two (x : Int) : putB x 2 2 = [(x / 256) % 256, x % 256] := by
  simp [putB, List.range_succ]
theorem putT_nil {t : List Int} (hl : t.length ≤ 65535) : putT [] t = [((t.length : Int) / 256) % 256, (t.length : Int) % 256] ++ t := by
  rw [putT, if_pos hl, putB_two]; rfl
theorem two_put {t : List Int} (hl : t.length ≤ 65535) (r : List Int) : two (putT [] t ++ r) = t.length := by
  rw [putT_nil hl]; simp [two]; omega
theorem text_ok {t : List Int} {most : Int} (hl : t.length ≤ 65535) (hm : t.length ≤ most) (r : List Int) : tkOk (putT [] t ++ r) most = true := by
  have h2 := two_put hl r
  simp only [tkOk, h2, Bool.and_eq_true, decide_eq_true_eq]
  rw [putT_nil hl]
  simp; omega
theorem text_text {t : List Int} {most : Int} (hl : t.length ≤ 65535) (hm : t.length ≤ most) (r : List Int) : tkT (putT [] t ++ r) most = t := by
  rw [tkT, if_pos (text_ok hl hm r), two_put hl, putT_nil hl]
  simp
theorem text_rest {t : List Int} {most : Int} (hl : t.length ≤ 65535) (hm : t.length ≤ most) (r : List Int) : tkR (putT [] t ++ r) most = r := by
  rw [tkR, if_pos (text_ok hl hm r), two_put hl, putT_nil hl]
  simp
theorem again_num {bs : List Int} {k : Int} (hb : B8 bs) (hk : takOk bs k = true) : putA [] (takN bs k) k ++ takR bs k = bs := by
  have hk' := hk
  simp only [takOk, Bool.and_eq_true, decide_eq_true_eq] at hk'
  have hl : (bs.take k.toNat).length = k.toNat := by simp; omega
  have e : putB (num (bs.take k.toNat)) k.toNat k.toNat = bs.take k.toNat := by
    rw [eq_num (putB_b8 _ _ _) (hb.take _) (by rw [putB_len, hl]), num_putB]
    have := num_lt (hb.take k.toNat)
    rw [hl] at this
    exact Int.emod_eq_of_lt this.1 this.2
  rw [takN, takR, if_pos hk, if_pos hk, putA_nil hk'.1.1 hk'.1.2, e, List.take_append_drop]
theorem again_text {bs : List Int} {most : Int} (hb : B8 bs) (hk : tkOk bs most = true) : putT [] (tkT bs most) ++ tkR bs most = bs := by
  have hk' := hk
  simp only [tkOk, Bool.and_eq_true, decide_eq_true_eq] at hk'
  rw [tkT, tkR, if_pos hk, if_pos hk]
  match bs, hk', hb with
  | y0 :: y1 :: r, hk', hb =>
    have h0 := hb y0 (by simp)
    have h1 := hb y1 (by simp)
    simp only [inR] at h0 h1
    have h2 : two (y0 :: y1 :: r) = y0 * 256 + y1 := by simp [two]
    rw [h2] at hk' ⊢
    simp only [List.length_cons] at hk'
    have hl : ((List.drop 2 (y0 :: y1 :: r)).take (y0 * 256 + y1).toNat).length = (y0 * 256 + y1).toNat := by simp; omega
    rw [putT_nil (by omega), hl]
    have e : (((y0 * 256 + y1).toNat : Nat) : Int) = y0 * 256 + y1 := by omega
    rw [e, show (y0 * 256 + y1) / 256 % 256 = y0 by omega, show (y0 * 256 + y1) % 256 = y1 by omega]
    simp
theorem want8 {x k : Int} (hx : 0 ≤ x) (hx2 : x ≤ 18446744073709551615) (hk : k = 8) : x % 256 ^ k.toNat = x := by
  subst hk
  exact Int.emod_eq_of_lt hx (by have : (256 : Int) ^ (8 : Int).toNat = 18446744073709551616 := by decide
                                 omega)
theorem takN_inR {bs : List Int} (hb : B8 bs) (k : Int) : inR .u64 (takN bs k) := by
  unfold takN
  split
  · rename_i hk
    simp only [takOk, Bool.and_eq_true, decide_eq_true_eq] at hk
    have h1 := num_bound hb k.toNat (by omega)
    have h2 : k.toNat = 1 ∨ k.toNat = 2 ∨ k.toNat = 3 ∨ k.toNat = 4 ∨ k.toNat = 5 ∨ k.toNat = 6 ∨ k.toNat = 7 ∨ k.toNat = 8 := by omega
    have h3 : (256 : Int) ^ k.toNat ≤ 18446744073709551616 := by rcases h2 with e | e | e | e | e | e | e | e <;> rw [e] <;> decide
    exact inR_u64 (by omega) (by omega)
  · exact inR_u64 (by omega) (by omega)
theorem hd_pub88 {C : Ctx} {N : Nat} {L : En} {H H' : List HE} {h : PH} {R : Act → World → Prop} {p : Option Addr} {n c : Nat} {xs : List Value} (bs : List Int) (hpk : Pick H (row p n c 5 1 xs) H') (hc : xs = by8 bs) (hlen : bs.length = n) (htop : n ≤ 9223372036854775807) (hb : B8 bs)
    (next : ∀ h', h.le h' → Bs h' p n c bs → Hd C N L H' h' R) : Hd C N L H h R :=
  hd_publish (el8 bs) hpk (by rw [hc, el8_flat]) (by simpa [el8] using hlen) (el8_each bs) htop fun h' hl hs => next h' hl ⟨hs, hb⟩
end Go.Proofs.Ytgbiipopciogeaa
