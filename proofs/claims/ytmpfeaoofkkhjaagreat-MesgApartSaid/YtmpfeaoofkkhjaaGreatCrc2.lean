/- What package crc yields, and the document's answer: sealed and opened texts. -/
import Derived.Test.YtmpfeaoofkkhjaaGreatCrc
import Derived.Test.YtmpfeaoofkkhjaaGreatFWP
namespace Go.Proofs.YtmpfeaoofkkhjaaGreat
open Go Go.GV
attribute [local irreducible] cw Go.GV.SpecM Go.GV.wpList Exit.then Exit.inBlock Go.GV.bodyPost wpPl wpPm wpPn TS rnd rPost YieldsB wpPT ptK
set_option maxRecDepth 10000
set_option maxHeartbeats 4000000
set_option linter.unusedVariables false
set_option linter.unusedSimpArgs false
def turnK (s : Int) : Nat → Int
  | 0 => 0
  | k + 1 => turnK s k * 256 + s / 256 ^ k % 256
theorem zCrc23 {A : Prop} (h : A := by (first | rfl | (simp only [decide_eq_true_eq, decide_eq_false_iff_not]; omega) | fail)) : A := h
def sealB (bs : List Int) : List Int := putA bs ((rev32 (sumB bs)).toNat : Int) 4
theorem w32_in (r : W32) : inR .u32 (r.toNat : Int) ∧ inR .u64 (r.toNat : Int) := by have := r.isLt; exact ⟨⟨by omega, by omega⟩, ⟨by omega, by omega⟩⟩
theorem sealB_eq (bs : List Int) : sealB bs = bs ++ putB ((rev32 (sumB bs)).toNat : Int) 4 4 := by unfold sealB putA; rw [if_pos (by decide)]; rfl
theorem sealB_len (bs : List Int) : (sealB bs).length = bs.length + 4 := by rw [sealB_eq]; simp [putB_len]
theorem sealB_b8 {bs : List Int} (hb : B8 bs) : B8 (sealB bs) := putA_b8 hb _ _
theorem zCrc26 {A : Prop} (h : A := by ((first | (apply OK.plain; rfl) | (apply OK.guarded; rfl; rfl; (intro hg; (try have hk := hg.2); (try have hl := hg.2.2); (try have hm := hg.2.2.2)))); (first | (apply od_call; exact aX; infer_instance; exact aE; exact aN; (focus (first | exact crc_Sum _ (by assumption) | exact bits_rev _ _))) ))) : A := h
theorem crc_Seal {p : Option Addr} {n c : Nat} {bs : List Int} (h : PH) (hs : Bs h p n c bs) (hn : n ≤ 1000000) : SpecM Tryz.prog 19 #[.slice p n c] h [] fun v h' Ho => ∃ p' m c', v = .slice p' m c' ∧ m = (sealB bs).length ∧ Ho = [row8 p' m c' (sealB bs)] := by
  have hw := (w32_in (rev32 (sumB bs))).2
  simp only [inR] at hw
  refine spec_enter (args := [_]) Tryz.func19 rfl Tryz.ntmps19 rfl (fun w l => ?_)
  repeat' (first | (refine is_pu ?_ (by rfl); first | refine hd_opAB ?_ | fail) | (refine is_pn ?_; first | refine hd_pn_nil ?_ | refine hd_pnAB ?_ | (refine hd_pn_op rfl ?_)) | (refine is_co ?_; first | (apply hd_callM (Hi := []); exact aX; infer_instance; exact aE; exact aN; rfl; (focus exact fun _ hw => hw); (focus exact wire_Put _ _ _ (by assumption) (by omega) (w32_in _).2); (focus (rintro _ h1 _ hle1 ⟨p1, m1, c1, rfl, hm1, rfl⟩; skip))) | ((first | apply hd_ok | apply ch_ok); (focus exact zCrc26); rfl; rfl) | refine hd_storeA ?_ | refine hd_boxA (fun _ => ?_) | refine hd_alloc rfl (fun _ => ?_) | refine hd_makeA (fun _ => ?_) | refine hd_copyA ?_ | refine hd_litA (fun _ => ?_) | refine hd_appendA (fun _ _ => ?_) | refine hd_storeRA ?_) | (refine is_ni ?_; first | (refine is_on ?_; first | refine pn_barA ?_ | refine pn_goA ?_ | refine pt_goA ?_  | refine ts_onA ?_) | refine hd_nil ?_) | (refine is_cw ?_; first | (refine is_rg ?_; first | refine hd_draw follows_any (by decide +kernel) ?_) | (refine is_cd ?_; first | (refine hd_condT (by exact aX) (by exact zCrc23) ?_) | (refine hd_condF (by exact aX) (by exact zCrc23) ?_) | (refine hd_cond (by exact aX) (fun _ => ?_) (fun _ => ?_))) | refine wkA ?_) | refine wkA ?_ | (refine is_ch ?_; refine ch_opAB ?_) | ((first | apply hd_ok | apply ch_ok); (focus exact zCrc26); rfl; rfl) | exact tsA | (refine ts_step rfl (fun HF h1 hle => ?_)) | fail)
  ((repeat (refine hd_undefer (by first | exact .inl rfl | exact .inr rfl) (by exact aP) ?_)); apply hd_resR; (focus (first | exact .inl rfl | exact .inr rfl)); rfl; exact aR)
  exact ⟨_, _, _, rfl, hm1, rfl⟩
/-! ### Opening -/
def cutN (bs : List Int) : Nat := bs.length - 4
def openK (bs : List Int) : Bool := decide (4 ≤ bs.length) && decide (rev32 (BitVec.ofInt 32 (num (bs.drop (cutN bs)))) = sumB (bs.take (cutN bs)))
def openB (bs : List Int) : List Int := if openK bs then bs.take (cutN bs) else []
def openE (bs : List Int) : Int := if openK bs then 0 else 20
theorem openB_b8 {bs : List Int} (hb : B8 bs) : B8 (openB bs) := by unfold openB; split <;> first | exact hb.take _ | exact B8.nil
theorem openB_len (bs : List Int) : (openB bs).length ≤ bs.length := by unfold openB; split <;> simp <;> omega
theorem take4 {bs : List Int} (hl : bs.length = 4) : takOk bs 4 = true ∧ takN bs 4 = num bs := by
  have h1 : takOk bs 4 = true := by simp [takOk, hl]
  refine ⟨h1, ?_⟩
  unfold takN
  rw [h1, if_pos rfl, List.take_of_length_le (by rw [hl]; decide)]
theorem num4 {bs : List Int} (hb : B8 bs) (hl : bs.length = 4) : 0 ≤ num bs ∧ num bs ≤ 4294967295 := by
  have := num_lt hb
  rw [hl] at this
  have e : (256 : Int) ^ 4 = 4294967296 := by decide
  omega
theorem zCrc21 {A : Prop} (h : A := by ((first | (apply OK.plain; rfl) | (apply OK.guarded; rfl; rfl; (intro hg; (try have hk := hg.2); (try have hl := hg.2.2); (try have hm := hg.2.2.2)))); (first | (apply od_call; exact aX; infer_instance; exact aE; exact aN; (focus (first | exact crc_Sum _ (by (first | assumption | exact SlR.nil _ _ | exact SlR.mono (by assumption) (by exact aL))) | exact bits_rev _ _))) ))) : A := h
theorem zCrc24 {A : Prop} (h : A := by (first | rfl | (rw [hne]; rfl) | (simp only [decide_eq_true_eq, decide_eq_false_iff_not]; omega) | fail)) : A := h
theorem crc_Open {p : Option Addr} {n c : Nat} {bs : List Int} (h : PH) (hs : Bs h p n c bs) (hn : n ≤ 1000000) : SpecM Tryz.prog 35 #[.slice p n c] h [] fun v h' Ho => ∃ p' m c', v = .tuple #[.slice p' m c', .int .i64 (openE bs)] ∧ m = (openB bs).length ∧ Ho = [row8 p' m c' (openB bs)] := by
  have hl := hs.len
  have hcap := hs.cap
  refine spec_enter (args := [_]) Tryz.func35 rfl Tryz.ntmps35 rfl (fun w l => ?_)
  refine hd_split (c := decide (4 ≤ n)) (fun h4 => ?_) (fun h4 => ?_)
  · simp only [decide_eq_true_eq] at h4
    have hcut : ((n : Int) - 4).toNat = cutN bs := by unfold cutN; omega
    have hdr : Bs h (subp p c ((n : Int) - 4).toNat 1) (n - ((n : Int) - 4).toNat) (c - ((n : Int) - 4).toNat) (bs.drop (cutN bs)) := by rw [← hcut]; exact hs.dropS (by omega)
    have htk : Bs h (subp p c 0 1) (((n : Int) - 4).toNat - 0) (c - 0) (bs.take (cutN bs)) := by
      have := hs.sub (lo := 0) (hi := ((n : Int) - 4).toNat) (by omega) (by omega)
      rw [List.drop_zero] at this
      rw [← hcut]; exact this
    have hdl := hdr.len
    have hd4 : (bs.drop (cutN bs)).length = 4 := by rw [hdl]; omega
    obtain ⟨ht1, ht2⟩ := take4 hd4
    obtain ⟨hn1, hn2⟩ := num4 hdr.b8 hd4
    have hbv := bv_of (n := num (bs.drop (cutN bs))) ⟨hn1, hn2⟩
    refine hd_split (c := decide (rev32 (BitVec.ofInt 32 (num (bs.drop (cutN bs)))) = sumB (bs.take (cutN bs)))) (fun hk => ?_) (fun hk => ?_)
    · have hK : openK bs = true := by unfold openK; rw [hk, decide_eq_true (by omega)]; rfl
      simp only [decide_eq_true_eq] at hk
      have e1 : openB bs = bs.take (cutN bs) := by unfold openB; rw [hK]; rfl
      have e2 : openE bs = 0 := by unfold openE; rw [hK]; rfl
      have hne : (((rev32 (BitVec.ofInt 32 (num (bs.drop (cutN bs))))).toNat : Int) != ((sumB (bs.take (cutN bs))).toNat : Int)) = false := by rw [hk]; simp
      have hlt := (BitVec.ofInt 32 (num (bs.drop (cutN bs)))).isLt
      rw [hbv] at ht2
      repeat' (first | (refine is_pu ?_ (by rfl); first | refine hd_opAB ?_ | fail) | (refine is_pn ?_; first | refine hd_pn_nil ?_ | refine hd_pnAB ?_ | (refine hd_pn_op rfl ?_)) | (refine is_co ?_; first | (apply hd_callM (Hi := []); exact aX; infer_instance; exact aE; exact aN; rfl; (focus exact fun _ hw => hw); (focus exact wire_Take 4 _ (by assumption) (by omega)); (focus (rintro _ h1 _ hle1 ⟨p1, m1, c1, rfl, hm1, rfl⟩; rw [ht1, ht2]))) | ((first | apply hd_ok | apply ch_ok); (focus exact zCrc21); rfl; rfl) | refine hd_storeA ?_ | refine hd_boxA (fun _ => ?_) | refine hd_alloc rfl (fun _ => ?_) | refine hd_makeA (fun _ => ?_) | refine hd_copyA ?_ | refine hd_litA (fun _ => ?_) | refine hd_appendA (fun _ _ => ?_) | refine hd_storeRA ?_) | (refine is_ni ?_; first | (refine is_on ?_; first | refine pn_barA ?_ | refine pn_goA ?_ | refine pt_goA ?_  | refine ts_onA ?_) | refine hd_nil ?_) | (refine is_cw ?_; first | (refine is_rg ?_; first | (refine hd_planT (id := 5) _ [] [.one 0 true, .one 1 true, .one 2 true, .one 3 true, .one 4 true, .one 6 true, .one 7 true, .one 8 true, .one 5 false, .one 9 false, .one 10 true, .one 11 true] follows_any (by kernel_rfl) rfl (by kernel_rfl) rfl ?_) | refine hd_draw follows_any (by decide +kernel) ?_) | (refine is_cd ?_; first | (refine hd_condT (by exact aX) (by exact zCrc24) ?_) | (refine hd_condF (by exact aX) (by exact zCrc24) ?_) | (refine hd_cond (by exact aX) (fun _ => ?_) (fun _ => ?_))) | refine wkA ?_) | refine wkA ?_ | (refine is_ch ?_; refine ch_opAB ?_) | ((first | apply hd_ok | apply ch_ok); (focus exact zCrc21); rfl; rfl) | exact tsA | (refine ts_step rfl (fun HF h1 hle => ?_)) | fail)
      rename_i b8
      have ecp : List.take (min n ((n : Int) - 4).toNat * 1) (vI .u8 bs) ++ List.drop (min n ((n : Int) - 4).toNat * 1) (zs [.int .u8 0] ((n : Int) - 4).toNat) = vI .u8 (bs.take (cutN bs)) := by
        rw [Nat.mul_one, Nat.min_eq_right (by omega), List.drop_of_length_le (by simp [zs]), List.append_nil, vI_take, hcut]
      rw [ecp]
      apply hd_resS (Hi := [row8 (some ⟨b8, 0, none⟩) (((n : Int) - 4).toNat) (((n : Int) - 4).toNat) (bs.take (cutN bs))])
      · (first | exact .inl rfl | exact .inr rfl)
      · rfl
      · exact aR
      · exact aS
      · exact ⟨_, _, _, by rw [e2]; rfl, by rw [e1, htk.len]; rfl, by rw [e1]⟩
    · have hK : openK bs = false := by unfold openK; rw [hk, Bool.and_false]
      simp only [decide_eq_false_iff_not] at hk
      have e1 : openB bs = [] := by unfold openB; rw [hK]; rfl
      have e2 : openE bs = 20 := by unfold openE; rw [hK]; rfl
      have hne : (((rev32 (BitVec.ofInt 32 (num (bs.drop (cutN bs))))).toNat : Int) != ((sumB (bs.take (cutN bs))).toNat : Int)) = true := by
        simp only [bne_iff_ne, ne_eq]
        exact fun e => hk (BitVec.eq_of_toNat_eq (by omega))
      have hlt := (BitVec.ofInt 32 (num (bs.drop (cutN bs)))).isLt
      rw [hbv] at ht2
      repeat' (first | (refine is_pu ?_ (by rfl); first | refine hd_opAB ?_ | fail) | (refine is_pn ?_; first | refine hd_pn_nil ?_ | refine hd_pnAB ?_ | (refine hd_pn_op rfl ?_)) | (refine is_co ?_; first | (apply hd_callM (Hi := []); exact aX; infer_instance; exact aE; exact aN; rfl; (focus exact fun _ hw => hw); (focus exact wire_Take 4 _ (by assumption) (by omega)); (focus (rintro _ h1 _ hle1 ⟨p1, m1, c1, rfl, hm1, rfl⟩; rw [ht1, ht2]))) | ((first | apply hd_ok | apply ch_ok); (focus exact zCrc21); rfl; rfl) | refine hd_storeA ?_ | refine hd_boxA (fun _ => ?_) | refine hd_alloc rfl (fun _ => ?_) | refine hd_makeA (fun _ => ?_) | refine hd_copyA ?_ | refine hd_litA (fun _ => ?_) | refine hd_appendA (fun _ _ => ?_) | refine hd_storeRA ?_) | (refine is_ni ?_; first | (refine is_on ?_; first | refine pn_barA ?_ | refine pn_goA ?_ | refine pt_goA ?_  | refine ts_onA ?_) | refine hd_nil ?_) | (refine is_cw ?_; first | (refine is_rg ?_; first | (refine hd_planT (id := 5) _ [] [.one 0 true, .one 1 true, .one 2 true, .one 3 true, .one 4 true, .one 6 true, .one 7 true, .one 8 true, .one 5 false, .one 9 false, .one 10 true, .one 11 true] follows_any (by kernel_rfl) rfl (by kernel_rfl) rfl ?_) | refine hd_draw follows_any (by decide +kernel) ?_) | (refine is_cd ?_; first | (refine hd_condT (by exact aX) (by exact zCrc24) ?_) | (refine hd_condF (by exact aX) (by exact zCrc24) ?_) | (refine hd_cond (by exact aX) (fun _ => ?_) (fun _ => ?_))) | refine wkA ?_) | refine wkA ?_ | (refine is_ch ?_; refine ch_opAB ?_) | ((first | apply hd_ok | apply ch_ok); (focus exact zCrc21); rfl; rfl) | exact tsA | (refine ts_step rfl (fun HF h1 hle => ?_)) | fail)
      refine hd_nilrow 5 1 ?_
      apply hd_resS (Hi := [row8 none 0 0 []])
      · (first | exact .inl rfl | exact .inr rfl)
      · rfl
      · exact aR
      · exact .cons .here .nil
      · exact ⟨_, _, _, by rw [e2]; rfl, by rw [e1]; rfl, by rw [e1]⟩
  · simp only [decide_eq_false_iff_not] at h4
    repeat' (first | (refine is_pu ?_ (by rfl); first | refine hd_opAB ?_ | fail) | (refine is_pn ?_; first | refine hd_pn_nil ?_ | refine hd_pnAB ?_ | (refine hd_pn_op rfl ?_)) | (refine is_co ?_; first | (apply hd_callM (Hi := []); exact aX; infer_instance; exact aE; exact aN; rfl; (focus exact fun _ hw => hw); (focus exact wire_Take 4 _ (by assumption) (by omega)); (focus (rintro _ h1 _ hle1 ⟨p1, m1, c1, rfl, hm1, rfl⟩; rw [ht1, ht2]))) | ((first | apply hd_ok | apply ch_ok); (focus exact zCrc21); rfl; rfl) | refine hd_storeA ?_ | refine hd_boxA (fun _ => ?_) | refine hd_alloc rfl (fun _ => ?_) | refine hd_makeA (fun _ => ?_) | refine hd_copyA ?_ | refine hd_litA (fun _ => ?_) | refine hd_appendA (fun _ _ => ?_) | refine hd_storeRA ?_) | (refine is_ni ?_; first | (refine is_on ?_; first | refine pn_barA ?_ | refine pn_goA ?_ | refine pt_goA ?_  | refine ts_onA ?_) | refine hd_nil ?_) | (refine is_cw ?_; first | (refine is_rg ?_; first | (refine hd_planT (id := 5) _ [] [.one 0 true, .one 1 true, .one 2 true, .one 3 true, .one 4 true, .one 6 true, .one 7 true, .one 8 true, .one 5 false, .one 9 false, .one 10 true, .one 11 true] follows_any (by kernel_rfl) rfl (by kernel_rfl) rfl ?_) | refine hd_draw follows_any (by decide +kernel) ?_) | (refine is_cd ?_; first | (refine hd_condT (by exact aX) (by exact zCrc24) ?_) | (refine hd_condF (by exact aX) (by exact zCrc24) ?_) | (refine hd_cond (by exact aX) (fun _ => ?_) (fun _ => ?_))) | refine wkA ?_) | refine wkA ?_ | (refine is_ch ?_; refine ch_opAB ?_) | ((first | apply hd_ok | apply ch_ok); (focus exact zCrc21); rfl; rfl) | exact tsA | (refine ts_step rfl (fun HF h1 hle => ?_)) | fail)
    refine hd_nilrow 5 1 ?_
    ((repeat (refine hd_undefer (by first | exact .inl rfl | exact .inr rfl) (by exact aP) ?_)); apply hd_resR; (focus (first | exact .inl rfl | exact .inr rfl)); rfl; exact aR)
    have hk : openK bs = false := by unfold openK; rw [decide_eq_false (by omega)]; rfl
    have e1 : openB bs = [] := by unfold openB; rw [hk]; rfl
    have e2 : openE bs = 20 := by unfold openE; rw [hk]; rfl
    exact ⟨_, _, _, by rw [e2]; rfl, by rw [e1]; rfl, by rw [e1]; rfl⟩
end Go.Proofs.YtmpfeaoofkkhjaaGreat
