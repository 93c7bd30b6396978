/- Messages there and back, sealed (plain). -/
import Derived.Test.YtmpfeaoofkkhjaaGreatMgZ
namespace Go.Proofs.YtmpfeaoofkkhjaaGreat
open Go Go.GV
attribute [local irreducible] cw Go.GV.SpecM Go.GV.wpList Exit.then Exit.inBlock Go.GV.bodyPost wpPl wpPm wpPn TS rnd rPost YieldsB wpPT ptK
set_option maxRecDepth 10000
set_option linter.unusedVariables false
set_option linter.unusedSimpArgs false
theorem rev_ofInt (r : W32) : BitVec.ofInt 32 ((r.toNat : Nat) : Int) = r := ofInt_toNat32 r
theorem num_seal (r : W32) : num (putB (r.toNat : Int) 4 4) = (r.toNat : Int) := by
  rw [num_putB]
  have := r.isLt
  rw [show (256 : Int) ^ 4 = 4294967296 from by decide]
  omega
theorem open_seal (bs : List Int) : openB (sealB bs) = bs ∧ openE (sealB bs) = 0 := by
  have hc : cutN (sealB bs) = bs.length := by unfold cutN; rw [sealB_len]; omega
  have hd : (sealB bs).drop (cutN (sealB bs)) = putB ((rev32 (sumB bs)).toNat : Int) 4 4 := by rw [hc, sealB_eq]; simp
  have ht : (sealB bs).take (cutN (sealB bs)) = bs := by rw [hc, sealB_eq]; simp
  have hk : openK (sealB bs) = true := by
    unfold openK
    rw [hd, ht, num_seal, rev_ofInt, rev_rev, sealB_len]
    simp
  refine ⟨?_, ?_⟩
  · unfold openB; rw [hk, if_pos rfl, ht]
  · unfold openE; rw [hk]; rfl
theorem parseB_seal (b : List Int) : parseB (sealB b) = parseM b := by
  obtain ⟨h2, h3⟩ := open_seal b
  rw [parseB, if_neg (by rw [h3]; decide), h2]
theorem parseM_err (b : List Int) (h : (parseM b).2 ≠ 0) : (parseM b).1 = MsD.zero ∧ ((parseM b).2 = 10 ∨ (parseM b).2 = 200) := by
  unfold parseM at *
  cases e : pMsg b with
  | none => exact ⟨rfl, .inl rfl⟩
  | some q =>
    obtain ⟨m, r⟩ := q
    rw [e] at h
    dsimp only at h ⊢
    split at h
    · rename_i h1
      rw [if_pos h1]
      split at h
      · exact absurd rfl h
      · rename_i h2
        rw [if_neg h2]
        exact ⟨rfl, .inr rfl⟩
    · rename_i h1
      rw [if_neg h1]
      exact ⟨rfl, .inl rfl⟩
theorem parseB_err (b : List Int) (h : (parseB b).2 ≠ 0) : (parseB b).1 = MsD.zero := by
  unfold parseB at *
  split
  · rfl
  · rename_i h1
    rw [if_neg h1] at h
    exact (parseM_err _ h).1
theorem bytesM_ok {m : MsD} (h : rightM m = true) : bytesM m = (sealB (wMsg m), 0) := by simp [bytesM, h]
theorem bytesM_not {m : MsD} (h : rightM m = false) : bytesM m = ([], 200) := by simp [bytesM, h]
end Go.Proofs.YtmpfeaoofkkhjaaGreat
