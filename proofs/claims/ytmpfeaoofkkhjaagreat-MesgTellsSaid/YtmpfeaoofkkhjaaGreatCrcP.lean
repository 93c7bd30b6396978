/- Check sums, on rows of bits. -/
import Derived.Test.YtmpfeaoofkkhjaaGreatF0
namespace Go.Proofs.YtmpfeaoofkkhjaaGreat
open Go Go.GV
attribute [local irreducible] cw Go.GV.SpecM Go.GV.wpList Exit.then Exit.inBlock Go.GV.bodyPost wpPl wpPm wpPn TS rnd rPost YieldsB wpPT ptK
set_option linter.unusedVariables false
set_option linter.unusedSimpArgs false
abbrev W32 := BitVec 32
def poly : W32 := 2197175160#32
def st (r : W32) : W32 := (r >>> 1) ^^^ (if r.getLsbD 0 then poly else 0#32)
def st4 (r : W32) : W32 := st (st (st (st r)))
def st8 (r : W32) : W32 := st4 (st4 r)
theorem xlc (a b c : W32) : a ^^^ (b ^^^ c) = b ^^^ (a ^^^ c) := by rw [← BitVec.xor_assoc, BitVec.xor_comm a b, BitVec.xor_assoc]
theorem st_xor (a b : W32) : st (a ^^^ b) = st a ^^^ st b := by
  unfold st
  rw [BitVec.ushiftRight_xor_distrib, BitVec.getLsbD_xor]
  cases a.getLsbD 0 <;> cases b.getLsbD 0 <;> simp only [Bool.xor_false, Bool.xor_true, Bool.not_false, Bool.not_true, if_true, Bool.false_eq_true, if_false, BitVec.xor_zero]
  · rw [BitVec.xor_assoc]
  · rw [BitVec.xor_assoc, BitVec.xor_assoc, BitVec.xor_comm (b >>> 1)]
  · rw [BitVec.xor_assoc, BitVec.xor_comm poly (b >>> 1 ^^^ poly), BitVec.xor_assoc (b >>> 1), BitVec.xor_self, BitVec.xor_zero]
theorem st4_xor (a b : W32) : st4 (a ^^^ b) = st4 a ^^^ st4 b := by simp only [st4, st_xor]
theorem st_even {x : W32} (h : x.getLsbD 0 = false) : st x = x >>> 1 := by unfold st; rw [h]; simp only [Bool.false_eq_true, if_false, BitVec.xor_zero]
theorem st4_even {x : W32} (h0 : x.getLsbD 0 = false) (h1 : x.getLsbD 1 = false) (h2 : x.getLsbD 2 = false) (h3 : x.getLsbD 3 = false) : st4 x = x >>> 4 := by
  have e1 := st_even h0
  have e2 : st (x >>> 1) = x >>> 1 >>> 1 := st_even (by simp only [BitVec.getLsbD_ushiftRight]; exact h1)
  have e3 : st (x >>> 1 >>> 1) = x >>> 1 >>> 1 >>> 1 := st_even (by simp only [BitVec.getLsbD_ushiftRight]; exact h2)
  have e4 : st (x >>> 1 >>> 1 >>> 1) = x >>> 1 >>> 1 >>> 1 >>> 1 := st_even (by simp only [BitVec.getLsbD_ushiftRight]; exact h3)
  unfold st4
  rw [e1, e2, e3, e4]
  apply BitVec.eq_of_getLsbD_eq
  intro i hi
  simp only [BitVec.getLsbD_ushiftRight]
  congr 1; omega
theorem split15 (r : W32) : r = (r &&& ~~~ 15#32) ^^^ (r &&& 15#32) := by
  apply BitVec.eq_of_getLsbD_eq
  intro i hi
  rw [BitVec.getLsbD_xor, BitVec.getLsbD_and, BitVec.getLsbD_and, BitVec.getLsbD_not]
  simp only [hi, decide_true, Bool.true_and]
  cases r.getLsbD i <;> cases (15#32).getLsbD i <;> rfl
theorem hi15 (r : W32) : (r &&& ~~~ 15#32) >>> 4 = r >>> 4 := by
  apply BitVec.eq_of_getLsbD_eq
  intro i hi
  simp only [BitVec.getLsbD_ushiftRight, BitVec.getLsbD_and, BitVec.getLsbD_not]
  by_cases h : 4 + i < 32
  · have : (15#32).getLsbD (4 + i) = false := by
      have h4 : i < 28 := by omega
      have : ∀ j, j < 28 → (15#32).getLsbD (4 + j) = false := by decide
      exact this i h4
    rw [this, decide_eq_true h]; simp only [Bool.not_false, Bool.and_true]
  · rw [BitVec.getLsbD_of_ge r _ (by omega), Bool.false_and]
theorem lo15 (r : W32) (i : Nat) (hi : (~~~ 15#32).getLsbD i = false) : (r &&& ~~~ 15#32).getLsbD i = false := by rw [BitVec.getLsbD_and, hi, Bool.and_false]
theorem st4_split (r : W32) : st4 r = (r >>> 4) ^^^ st4 (r &&& 15#32) := by
  conv => lhs; rw [split15 r]
  rw [st4_xor]
  congr 1
  rw [st4_even (lo15 r 0 (by decide)) (lo15 r 1 (by decide)) (lo15 r 2 (by decide)) (lo15 r 3 (by decide)), hi15]
theorem and15_lt (r : W32) : (r &&& 15#32).toNat < 16 := by
  rw [BitVec.toNat_and]
  exact Nat.lt_of_le_of_lt Nat.and_le_right (by decide)
def tblV : List Value := (List.range 16).map fun i => .int .u32 ((st4 (BitVec.ofNat 32 i)).toNat : Int)
theorem tblV_len : tblV.length = 16 := by simp [tblV]
theorem tbl_at (r : W32) : tblV[0 + (r &&& 15#32).toNat * 1]? = some (.int .u32 ((st4 (r &&& 15#32)).toNat : Int)) := by
  have h := and15_lt r
  rw [Nat.zero_add, Nat.mul_one]
  simp only [tblV, List.getElem?_map, List.getElem?_range h, Option.map_some]
  rw [BitVec.ofNat_toNat, BitVec.setWidth_eq]
def stepB (r : W32) (b : Int) : W32 := st8 (r ^^^ BitVec.ofInt 32 b)
def moreB (s : W32) (bs : List Int) : W32 := ~~~ (bs.foldl stepB (~~~ s))
def sumB (bs : List Int) : W32 := moreB 0#32 bs
theorem step_eq (r : W32) (b : Int) : stepB r b = (((r ^^^ BitVec.ofInt 32 b) >>> 4 ^^^ st4 ((r ^^^ BitVec.ofInt 32 b) &&& 15#32)) >>> 4) ^^^ st4 (((r ^^^ BitVec.ofInt 32 b) >>> 4 ^^^ st4 ((r ^^^ BitVec.ofInt 32 b) &&& 15#32)) &&& 15#32) := by
  unfold stepB st8
  rw [st4_split (r ^^^ BitVec.ofInt 32 b), st4_split]
def xor3 (x y z : Int) : Int := ((BitVec.ofInt 8 x ^^^ BitVec.ofInt 8 y ^^^ BitVec.ofInt 8 z).toNat : Int)
def xorL : List Int → List Int → List Int → List Int
  | x :: a, y :: b, z :: c => xor3 x y z :: xorL a b c
  | _, _, _ => []
/-! ### Bit by bit, as the document has it -/
def lsb (r : W32) : Bool := r.getLsbD 0
theorem lsb_mod (r : W32) : (r.toNat : Int) % 2 = if lsb r then 1 else 0 := by
  have : r.toNat % 2 = if lsb r then 1 else 0 := by
    unfold lsb
    rw [BitVec.getLsbD, Nat.testBit_zero]
    by_cases h : r.toNat % 2 = 1
    · simp [h]
    · have : r.toNat % 2 = 0 := by omega
      simp [this]
  split at this <;> rename_i h <;> simp [h] <;> omega
theorem out_eq (r c : W32) : IntKind.u32.wrap ((r.toNat : Int) + (c.toNat : Int)) % 2 = if lsb (r ^^^ c) then 1 else 0 := by
  have e : IntKind.u32.wrap ((r.toNat : Int) + (c.toNat : Int)) = ((r.toNat : Int) + (c.toNat : Int)) % 4294967296 := by simp [IntKind.wrap, IntKind.bits, IntKind.signed]
  have h1 := lsb_mod r
  have h2 := lsb_mod c
  have h3 : lsb (r ^^^ c) = (lsb r ^^ lsb c) := by unfold lsb; rw [BitVec.getLsbD_xor]
  rw [e, h3]
  cases hr : lsb r <;> cases hc : lsb c <;> simp [hr, hc] at h1 h2 ⊢ <;> omega
theorem half_eq (r : W32) : (r.toNat : Int) / 2 = ((r >>> 1).toNat : Int) := by
  rw [BitVec.toNat_ushiftRight, Nat.shiftRight_eq_div_pow]; simp
theorem st_two (r c : W32) : (st (r ^^^ c)) = ((r >>> 1) ^^^ (if lsb (r ^^^ c) then poly else 0#32)) ^^^ (c >>> 1) := by
  unfold st lsb
  rw [BitVec.ushiftRight_xor_distrib]
  generalize (if (r ^^^ c).getLsbD 0 = true then poly else 0#32) = u
  simp only [BitVec.xor_assoc, BitVec.xor_comm, xlc]
def stN : Nat → W32 → W32
  | 0, r => r
  | k + 1, r => stN k (st r)
theorem stN_succ : ∀ (k : Nat) (r : W32), stN (k + 1) r = st (stN k r)
  | 0, _ => rfl
  | k + 1, r => by rw [stN, stN_succ k (st r)]; rfl
theorem stN8 (r : W32) : stN 8 r = st8 r := rfl
theorem shr8 {c : Int} (h : inR .u8 c) : (BitVec.ofInt 32 c) >>> 8 = 0#32 := by
  apply BitVec.eq_of_toNat_eq
  simp only [inR] at h
  rw [BitVec.toNat_ushiftRight, BitVec.toNat_ofInt, Nat.shiftRight_eq_div_pow]
  simp; omega
def rev32 (r : W32) : W32 := ((((r >>> 8) &&& 16711935#32) ||| ((r &&& 16711935#32) <<< 8)) >>> 16) ||| ((((r >>> 8) &&& 16711935#32) ||| ((r &&& 16711935#32) <<< 8)) <<< 16)
theorem mask_bit : ∀ j, j < 32 → (16711935#32).getLsbD j = decide (j % 16 < 8) := by decide
theorem rev_mid (r : W32) (j : Nat) (hj : j < 32) : (((r >>> 8) &&& 16711935#32) ||| ((r &&& 16711935#32) <<< 8)).getLsbD j = if j % 16 < 8 then r.getLsbD (j + 8) else r.getLsbD (j - 8) := by
  simp only [BitVec.getLsbD_or, BitVec.getLsbD_and, BitVec.getLsbD_ushiftRight, BitVec.getLsbD_shiftLeft, mask_bit j hj, decide_eq_true hj, Bool.true_and]
  by_cases h : j % 16 < 8
  · rw [if_pos h, decide_eq_true h, Bool.and_true]
    by_cases h8 : j < 8
    · rw [decide_eq_true h8]; simp [Nat.add_comm]
    · rw [mask_bit (j - 8) (by omega), decide_eq_false (show ¬ (j - 8) % 16 < 8 by omega)]; simp [Nat.add_comm]
  · rw [if_neg h, decide_eq_false h, Bool.and_false, Bool.false_or, decide_eq_false (show ¬ j < 8 by omega), mask_bit (j - 8) (by omega), decide_eq_true (show (j - 8) % 16 < 8 by omega)]
    simp
theorem rev_bit (r : W32) (i : Nat) (hi : i < 32) : (rev32 r).getLsbD i = r.getLsbD (8 * (3 - i / 8) + i % 8) := by
  unfold rev32
  generalize hm : (((r >>> 8) &&& 16711935#32) ||| ((r &&& 16711935#32) <<< 8)) = m
  rw [BitVec.getLsbD_or, BitVec.getLsbD_ushiftRight, BitVec.getLsbD_shiftLeft, decide_eq_true hi, Bool.true_and]
  by_cases h : i < 16
  · rw [decide_eq_true h, Bool.not_true, Bool.false_and, Bool.or_false, ← hm, rev_mid r (16 + i) (by omega)]
    split
    · congr 1; omega
    · congr 1; omega
  · rw [BitVec.getLsbD_of_ge m _ (by omega), Bool.false_or, decide_eq_false h, Bool.not_false, Bool.true_and, ← hm, rev_mid r (i - 16) (by omega)]
    split
    · congr 1; omega
    · congr 1; omega
theorem rev_rev (r : W32) : rev32 (rev32 r) = r := by
  apply BitVec.eq_of_getLsbD_eq
  intro i hi
  rw [rev_bit _ i hi, rev_bit _ _ (by omega)]
  congr 1; omega
def turnN (s : Int) : Int := ((s % 256 * 256 + s / 256 % 256) * 256 + s / 65536 % 256) * 256 + s / 16777216 % 256
theorem rev_app (r : W32) : rev32 r = r.extractLsb' 0 8 ++ (r.extractLsb' 8 8 ++ (r.extractLsb' 16 8 ++ r.extractLsb' 24 8)) := by
  apply BitVec.eq_of_getLsbD_eq
  intro i hi
  rw [rev_bit r i hi]
  simp only [BitVec.getLsbD_append, BitVec.getLsbD_extractLsb']
  by_cases h1 : i < 8
  · rw [if_pos (by omega), if_pos (by omega), if_pos (by omega), decide_eq_true h1, Bool.true_and]; congr 1; omega
  · by_cases h2 : i < 16
    · rw [if_pos (by omega), if_pos (by omega), if_neg (by omega), decide_eq_true (by omega), Bool.true_and]; congr 1; omega
    · by_cases h3 : i < 24
      · rw [if_pos (by omega), if_neg (by omega), decide_eq_true (by omega), Bool.true_and]; congr 1; omega
      · rw [if_neg (by omega), decide_eq_true (by omega), Bool.true_and]; congr 1; omega
theorem app_nat {w v : Nat} (x : BitVec w) (y : BitVec v) : (x ++ y).toNat = x.toNat * 2 ^ v + y.toNat := by
  rw [BitVec.toNat_append, ← Nat.shiftLeft_add_eq_or_of_lt y.isLt, Nat.shiftLeft_eq]
theorem rev_turn (r : W32) : ((rev32 r).toNat : Int) = turnN (r.toNat : Int) := by
  rw [rev_app, app_nat, app_nat, app_nat]
  simp only [BitVec.extractLsb'_toNat, Nat.shiftRight_eq_div_pow]
  unfold turnN
  omega
end Go.Proofs.YtmpfeaoofkkhjaaGreat
