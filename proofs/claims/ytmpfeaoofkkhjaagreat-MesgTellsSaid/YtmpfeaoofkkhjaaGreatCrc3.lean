/- What the document's answer opens; contracts whose results are handed out. -/
import Derived.Test.YtmpfeaoofkkhjaaGreatCrc2
namespace Go.Proofs.YtmpfeaoofkkhjaaGreat
open Go Go.GV
attribute [local irreducible] cw Go.GV.SpecM Go.GV.wpList Exit.then Exit.inBlock Go.GV.bodyPost wpPl wpPm wpPn TS rnd rPost YieldsB wpPT ptK
set_option maxRecDepth 10000
set_option maxHeartbeats 4000000
set_option linter.unusedVariables false
set_option linter.unusedSimpArgs false
theorem open_turn {bs : List Int} (hn1 : 0 ≤ num (bs.drop (cutN bs))) (hn2 : num (bs.drop (cutN bs)) ≤ 4294967295) : (turnN ((sumB (bs.take (cutN bs))).toNat : Int) = num (bs.drop (cutN bs))) ↔ rev32 (BitVec.ofInt 32 (num (bs.drop (cutN bs)))) = sumB (bs.take (cutN bs)) := by
  have hbv := bv_of (n := num (bs.drop (cutN bs))) ⟨hn1, hn2⟩
  rw [← rev_turn]
  constructor
  · intro e
    rw [← e, BitVec.ofInt_natCast, BitVec.ofNat_toNat, BitVec.setWidth_eq, rev_rev]
  · intro e
    rw [← e, rev_rev]; exact hbv.symm
theorem zCrc31 {A : Prop} (h : A := by ((first | (apply OK.plain; rfl) | (apply OK.guarded; rfl; rfl; (intro hg; (try have hk := hg.2); (try have hl := hg.2.2); (try have hm := hg.2.2.2)))); (first | (apply od_call; exact aX; infer_instance; exact aE; exact aN; (focus (first | exact ref2_Sum _ (by (first | assumption | exact SlR.nil _ _ | exact SlR.mono (by assumption) (by exact aL))) | exact ref2_turned _ (w32_in _).1))) ))) : A := h
theorem wCrc31 {A B : Prop} (k : B) (h : Kx B → A := by intro k; (first | (refine is_pu ?_ (by rfl); first | refine hd_opAB ?_) | (refine is_pn ?_; first | refine hd_pn_nil ?_ | refine hd_pnAB ?_ | (refine hd_pn_op rfl ?_)) | (refine is_co ?_; first | ((first | apply hd_ok | apply ch_ok); (focus exact zCrc31); rfl; rfl) | refine hd_storeA ?_ | refine hd_copyA ?_ | refine hd_storeRA ?_) | (refine is_ni ?_; first | (refine is_on ?_; first | refine pn_barA ?_ | refine pn_goA ?_ | refine pt_goA ?_ | refine ts_onA ?_) | refine hd_nil ?_) | refine wkA ?_ | (refine is_ch ?_; refine ch_opAB ?_) | ((first | apply hd_ok | apply ch_ok); (focus exact zCrc31); rfl; rfl)); exact k.go) : A := h ⟨k⟩
theorem wCrc32 {A B : Prop} (k : B) (h : Kx B → A := by intro k; ((refine is_cw ?_; refine is_rg ?_; first | refine hd_draw follows_any (by decide +kernel) ?_)); exact k.go) : A := h ⟨k⟩
theorem wCrc33 {A B : Prop} (k : B) (h : Kx B → A := by intro k; ((refine is_cw ?_; refine is_cd ?_; first | (refine hd_condT (by exact aX) (by (first | rfl | exact hne | (rw [hne]; rfl) | (simp only [decide_eq_true_eq, decide_eq_false_iff_not]; omega) | fail)) ?_) | (refine hd_condF (by exact aX) (by (first | rfl | exact hne | (rw [hne]; rfl) | (simp only [decide_eq_true_eq, decide_eq_false_iff_not]; omega) | fail)) ?_))); exact k.go) : A := h ⟨k⟩
theorem ref2_Open {p : Option Addr} {n c : Nat} {bs : List Int} (h : PH) (hs : Bs h p n c bs) (hn : n ≤ 1000000) : SpecM Tryz.prog 37 #[.slice p n c] h [] fun v h' Ho => ∃ p' m c', v = .tuple #[.slice p' m c', .int .i64 (openE bs)] ∧ m = (openB bs).length ∧ Ho = [row8 p' m c' (openB bs)] := by
  have hl := hs.len
  have hcap := hs.cap
  refine spec_enter (args := [_]) Tryz.func37 rfl Tryz.ntmps37 rfl (fun w l => ?_)
  refine hd_split (c := decide (4 ≤ n)) (fun h4 => ?_) (fun h4 => ?_)
  · simp only [decide_eq_true_eq] at h4
    have hcut : ((n : Int) - 4).toNat = cutN bs := by unfold cutN; omega
    have hdr : Bs h (subp p c ((n : Int) - 4).toNat 1) (n - ((n : Int) - 4).toNat) (c - ((n : Int) - 4).toNat) (bs.drop (cutN bs)) := by rw [← hcut]; exact hs.dropS (by omega)
    have htk : Bs h (subp p c 0 1) (((n : Int) - 4).toNat - 0) (c - 0) (bs.take (cutN bs)) := by
      have := hs.sub (lo := 0) (hi := ((n : Int) - 4).toNat) (by omega) (by omega)
      rw [List.drop_zero] at this
      rw [← hcut]; exact this
    have hdl := hdr.len
    have hd4 : (bs.drop (cutN bs)).length = 4 := by rw [hdl]; omega
    obtain ⟨ht1, ht2⟩ := take4 hd4
    obtain ⟨hn1, hn2⟩ := num4 hdr.b8 hd4
    have hbv := bv_of (n := num (bs.drop (cutN bs))) ⟨hn1, hn2⟩
    have htl := htk.len
    have hot := open_turn hn1 hn2
    refine hd_split (c := decide (rev32 (BitVec.ofInt 32 (num (bs.drop (cutN bs)))) = sumB (bs.take (cutN bs)))) (fun hk => ?_) (fun hk => ?_)
    · have hK : openK bs = true := by unfold openK; rw [hk, decide_eq_true (by omega)]; rfl
      simp only [decide_eq_true_eq] at hk
      have e1 : openB bs = bs.take (cutN bs) := by unfold openB; rw [hK]; rfl
      have e2 : openE bs = 0 := by unfold openE; rw [hK]; rfl
      have hne : (turnN ((sumB (bs.take (cutN bs))).toNat : Int) != num (bs.drop (cutN bs))) = false := by rw [hot.2 hk]; simp
      refine hd_nilrow 5 1 ?_
      repeat' (first | (refine is_cx ?_ (by rfl); first | (refine hd_cnA (s := by exact ref_Take 4 _ (by assumption) (by omega)) (k := ?_); (focus (rintro _ h1 _ hle1 ⟨p1, m1, c1, rfl, hm1, rfl⟩; rw [ht1, ht2])))) | refine wCrc32 ?_ | refine wCrc33 ?_ | (refine is_cd ?_; first | refine hd_condA (fun _ => ?_) (fun _ => ?_)) | refine wCrc31 ?_ | refine wkB (fun _ => ?_) | refine wkC (fun _ _ => ?_) | exact tsA | (refine ts_step rfl (fun HF h1 hle => ?_)))
      rename_i p8 c8
      apply hd_resS (Hi := [row8 p8 (0 + (((n : Int) - 4).toNat - 0)) c8 ([] ++ bs.take (cutN bs))])
      · (first | exact .inl rfl | exact .inr rfl)
      · rfl
      · exact aR
      · exact aS
      · exact ⟨_, _, _, by rw [e2]; rfl, by rw [e1, htl]; omega, by rw [e1]; rfl⟩
    · have hK : openK bs = false := by unfold openK; rw [hk, Bool.and_false]
      simp only [decide_eq_false_iff_not] at hk
      have e1 : openB bs = [] := by unfold openB; rw [hK]; rfl
      have e2 : openE bs = 20 := by unfold openE; rw [hK]; rfl
      have hne : (turnN ((sumB (bs.take (cutN bs))).toNat : Int) != num (bs.drop (cutN bs))) = true := by
        simp only [bne_iff_ne, ne_eq]
        exact fun e => hk (hot.1 e)
      repeat' (first | (refine is_cx ?_ (by rfl); first | (refine hd_cnA (s := by exact ref_Take 4 _ (by assumption) (by omega)) (k := ?_); (focus (rintro _ h1 _ hle1 ⟨p1, m1, c1, rfl, hm1, rfl⟩; rw [ht1, ht2])))) | refine wCrc32 ?_ | refine wCrc33 ?_ | (refine is_cd ?_; first | refine hd_condA (fun _ => ?_) (fun _ => ?_)) | refine wCrc31 ?_ | refine wkB (fun _ => ?_) | refine wkC (fun _ _ => ?_) | exact tsA | (refine ts_step rfl (fun HF h1 hle => ?_)))
      refine hd_nilrow 5 1 ?_
      apply hd_resS (Hi := [row8 none 0 0 []])
      · (first | exact .inl rfl | exact .inr rfl)
      · rfl
      · exact aR
      · exact .cons .here .nil
      · exact ⟨_, _, _, by rw [e2]; rfl, by rw [e1]; rfl, by rw [e1]⟩
  · simp only [decide_eq_false_iff_not] at h4
    repeat' (first | (refine is_cx ?_ (by rfl); first | (refine hd_cnA (s := by exact ref_Take 4 _ (by assumption) (by omega)) (k := ?_); (focus (rintro _ h1 _ hle1 ⟨p1, m1, c1, rfl, hm1, rfl⟩; rw [ht1, ht2])))) | refine wCrc32 ?_ | refine wCrc33 ?_ | (refine is_cd ?_; first | refine hd_condA (fun _ => ?_) (fun _ => ?_)) | refine wCrc31 ?_ | refine wkB (fun _ => ?_) | refine wkC (fun _ _ => ?_) | exact tsA | (refine ts_step rfl (fun HF h1 hle => ?_)))
    refine hd_nilrow 5 1 ?_
    ((repeat (refine hd_undefer (by first | exact .inl rfl | exact .inr rfl) (by exact aP) ?_)); apply hd_resR; (focus (first | exact .inl rfl | exact .inr rfl)); rfl; exact aR)
    have hk : openK bs = false := by unfold openK; rw [decide_eq_false (by omega)]; rfl
    have e1 : openB bs = [] := by unfold openB; rw [hk]; rfl
    have e2 : openE bs = 20 := by unfold openE; rw [hk]; rfl
    exact ⟨_, _, _, by rw [e2]; rfl, by rw [e1]; rfl, by rw [e1]; rfl⟩
theorem crc_OpenP {p : Option Addr} {n c : Nat} {bs : List Int} (h : PH) (hs : Bs h p n c bs) (hn : n ≤ 1000000) : GV.Spec Tryz.prog 35 #[.slice p n c] h fun v h' => ∃ p' c', v = .tuple #[.slice p' (openB bs).length c', .int .i64 (openE bs)] ∧ Bs h' p' (openB bs).length c' (openB bs) := by
  refine SpecM.turn (crc_Open h hs hn) ?_
  rintro C v h' Ho w ⟨p', m, c', rfl, rfl, rfl⟩ hi
  have hl := hs.len
  have hl2 := openB_len bs
  obtain ⟨h2, _, hb, hi2⟩ := Inv.pub8 hi rfl (openB_b8 hs.b8) (by omega)
  exact ⟨h2, [], ⟨⟨p', c', rfl, hb⟩, rfl⟩, hi2⟩
theorem crc_SealP {p : Option Addr} {n c : Nat} {bs : List Int} (h : PH) (hs : Bs h p n c bs) (hn : n ≤ 1000000) : GV.Spec Tryz.prog 19 #[.slice p n c] h fun v h' => ∃ p' c', v = .slice p' (sealB bs).length c' ∧ Bs h' p' (sealB bs).length c' (sealB bs) := by
  refine SpecM.turn (crc_Seal h hs hn) ?_
  rintro C v h' Ho w ⟨p', m, c', rfl, rfl, rfl⟩ hi
  have hl := hs.len
  have hl2 := sealB_len bs
  obtain ⟨h2, _, hb, hi2⟩ := Inv.pub8 hi rfl (sealB_b8 hs.b8) (by omega)
  exact ⟨h2, [], ⟨⟨p', c', rfl, hb⟩, rfl⟩, hi2⟩
theorem ref2_OpenP {p : Option Addr} {n c : Nat} {bs : List Int} (h : PH) (hs : Bs h p n c bs) (hn : n ≤ 1000000) : GV.Spec Tryz.prog 37 #[.slice p n c] h fun v h' => ∃ p' c', v = .tuple #[.slice p' (openB bs).length c', .int .i64 (openE bs)] ∧ Bs h' p' (openB bs).length c' (openB bs) := by
  refine SpecM.turn (ref2_Open h hs hn) ?_
  rintro C v h' Ho w ⟨p', m, c', rfl, rfl, rfl⟩ hi
  have hl := hs.len
  have hl2 := openB_len bs
  obtain ⟨h2, _, hb, hi2⟩ := Inv.pub8 hi rfl (openB_b8 hs.b8) (by omega)
  exact ⟨h2, [], ⟨⟨p', c', rfl, hb⟩, rfl⟩, hi2⟩
theorem ref2_SealP {p : Option Addr} {n c : Nat} {bs : List Int} (h : PH) (hs : Bs h p n c bs) (hn : n ≤ 1000000) : GV.Spec Tryz.prog 14 #[.slice p n c] h fun v h' => ∃ p' c', v = .slice p' (sealB bs).length c' ∧ Bs h' p' (sealB bs).length c' (sealB bs) := by
  refine SpecM.turn (ref2_Seal h hs hn) ?_
  rintro C v h' Ho w ⟨p', m, c', rfl, rfl, rfl⟩ hi
  have hl := hs.len
  have hl2 := sealB_len bs
  obtain ⟨h2, _, hb, hi2⟩ := Inv.pub8 hi rfl (sealB_b8 hs.b8) (by omega)
  exact ⟨h2, [], ⟨⟨p', c', rfl, hb⟩, rfl⟩, hi2⟩
end Go.Proofs.YtmpfeaoofkkhjaaGreat
