/- What the document's answer opens; contracts whose results are handed out. -/
import Derived.Test.YtmpfeaoofkkhjaaGreatCrc2
namespace Go.Proofs.YtmpfeaoofkkhjaaGreat
open Go Go.GV
attribute [local irreducible] cw Go.GV.SpecM Go.GV.wpList Exit.then Exit.inBlock Go.GV.bodyPost wpPl wpPm wpPn TS rnd rPost YieldsB wpPT ptK
set_option maxRecDepth 10000
set_option maxHeartbeats 4000000
set_option linter.unusedVariables false
set_option linter.unusedSimpArgs false
theorem crc_OpenP {p : Option Addr} {n c : Nat} {bs : List Int} (h : PH) (hs : Bs h p n c bs) (hn : n ≤ 1000000) : GV.Spec Tryz.prog 35 #[.slice p n c] h fun v h' => ∃ p' c', v = .tuple #[.slice p' (openB bs).length c', .int .i64 (openE bs)] ∧ Bs h' p' (openB bs).length c' (openB bs) := by
  refine SpecM.turn (crc_Open h hs hn) ?_
  rintro C v h' Ho w ⟨p', m, c', rfl, rfl, rfl⟩ hi
  have hl := hs.len
  have hl2 := openB_len bs
  obtain ⟨h2, _, hb, hi2⟩ := Inv.pub8 hi rfl (openB_b8 hs.b8) (by omega)
  exact ⟨h2, [], ⟨⟨p', c', rfl, hb⟩, rfl⟩, hi2⟩
theorem crc_SealP {p : Option Addr} {n c : Nat} {bs : List Int} (h : PH) (hs : Bs h p n c bs) (hn : n ≤ 1000000) : GV.Spec Tryz.prog 19 #[.slice p n c] h fun v h' => ∃ p' c', v = .slice p' (sealB bs).length c' ∧ Bs h' p' (sealB bs).length c' (sealB bs) := by
  refine SpecM.turn (crc_Seal h hs hn) ?_
  rintro C v h' Ho w ⟨p', m, c', rfl, rfl, rfl⟩ hi
  have hl := hs.len
  have hl2 := sealB_len bs
  obtain ⟨h2, _, hb, hi2⟩ := Inv.pub8 hi rfl (sealB_b8 hs.b8) (by omega)
  exact ⟨h2, [], ⟨⟨p', c', rfl, hb⟩, rfl⟩, hi2⟩
end Go.Proofs.YtmpfeaoofkkhjaaGreat
