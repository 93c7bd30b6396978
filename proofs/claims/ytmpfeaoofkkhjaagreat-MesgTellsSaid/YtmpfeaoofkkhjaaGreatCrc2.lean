/- What package crc yields, and the document's answer: sealed and opened texts. -/
import Derived.Test.YtmpfeaoofkkhjaaGreatCrc
import Derived.Test.YtmpfeaoofkkhjaaGreatFWP
namespace Go.Proofs.YtmpfeaoofkkhjaaGreat
open Go Go.GV
attribute [local irreducible] cw Go.GV.SpecM Go.GV.wpList Exit.then Exit.inBlock Go.GV.bodyPost wpPl wpPm wpPn TS rnd rPost YieldsB wpPT ptK
set_option maxRecDepth 10000
set_option maxHeartbeats 4000000
set_option linter.unusedVariables false
set_option linter.unusedSimpArgs false
def turnK (s : Int) : Nat → Int
  | 0 => 0
  | k + 1 => turnK s k * 256 + s / 256 ^ k % 256
theorem turnK_bd {s : Int} : ∀ k, k ≤ 4 → 0 ≤ turnK s k ∧ turnK s k < 256 ^ k
  | 0, _ => by simp [turnK]
  | k + 1, h => by
    have ih := turnK_bd (s := s) k (by omega)
    have hp := pow256_le (i := k) (by omega)
    simp only [turnK]
    rw [Int.pow_succ]
    have h1 := Int.emod_nonneg (s / 256 ^ k) (show (256 : Int) ≠ 0 by decide)
    have h2 := Int.emod_lt_of_pos (s / 256 ^ k) (show (0 : Int) < 256 by decide)
    omega
theorem turnK4 (s : Int) : turnK s 4 = turnN s := by
  simp only [turnK, turnN]
  rw [show (256 : Int) ^ 0 = 1 from rfl, show (256 : Int) ^ 1 = 256 from rfl, show (256 : Int) ^ 2 = 65536 from rfl, show (256 : Int) ^ 3 = 16777216 from rfl]
  omega
theorem divK (s : Int) (k : Nat) : s / 256 ^ k / 256 = s / 256 ^ (k + 1) := by
  rw [Int.ediv_ediv_of_nonneg (by have := Int.pow_pos (n := 256) (m := k) (by omega); omega), Int.pow_succ]
theorem zCrc24 {A : Prop} (h : A := by ((first | (apply OK.plain; rfl) | (apply OK.guarded; rfl; rfl; (intro hg; (try have hk := hg.2); (try have hl := hg.2.2); (try have hm := hg.2.2.2)))); (first | (apply od_call; exact aX; infer_instance; exact aE; exact aN; (focus (first | fail))) ))) : A := h
theorem wCrc21 {A B : Prop} (k : B) (h : Kx B → A := by intro k; (first | (refine is_pu ?_ (by rfl); first | refine hd_opAB ?_) | (refine is_pn ?_; first | refine hd_pn_nil ?_ | refine hd_pnAB ?_ | (refine hd_pn_op rfl ?_)) | (refine is_co ?_; first | ((first | apply hd_ok | apply ch_ok); (focus exact zCrc24); rfl; rfl) | refine hd_storeA ?_ | refine hd_copyA ?_ | refine hd_storeRA ?_) | (refine is_ni ?_; first | (refine is_on ?_; first | refine pn_barA ?_ | refine pn_goA ?_ | refine pt_goA ?_ | refine ts_onA ?_) | refine hd_nil ?_) | refine wkA ?_ | (refine is_ch ?_; refine ch_opAB ?_) | ((first | apply hd_ok | apply ch_ok); (focus exact zCrc24); rfl; rfl)); exact k.go) : A := h ⟨k⟩
theorem wCrc22 {A B : Prop} (k : B) (h : Kx B → A := by intro k; ((refine is_cw ?_; refine is_rg ?_; first | refine hd_draw follows_any (by decide +kernel) ?_)); exact k.go) : A := h ⟨k⟩
theorem wCrc23 {A B : Prop} (k : B) (h : Kx B → A := by intro k; ((refine is_cw ?_; refine is_cd ?_; first | (refine hd_condT (by exact aX) (by (first | rfl | (simp only [decide_eq_true_eq, decide_eq_false_iff_not]; omega) | fail)) ?_) | (refine hd_condF (by exact aX) (by (first | rfl | (simp only [decide_eq_true_eq, decide_eq_false_iff_not]; omega) | fail)) ?_))); exact k.go) : A := h ⟨k⟩
theorem ref2_turned {s : Int} (h : PH) (hs : inR .u32 s) : Det Tryz.prog 33 #[.int .u32 s] h (.int .u64 (turnN s)) := by
  refine spec_enter (args := [_]) Tryz.func33 rfl Tryz.ntmps33 rfl (fun w l => ?_)
  repeat' (first | refine wCrc22 ?_ | refine wCrc23 ?_ | (refine is_cd ?_; first | refine hd_condA (fun _ => ?_) (fun _ => ?_)) | refine wCrc21 ?_ | refine wkB (fun _ => ?_) | refine wkC (fun _ _ => ?_) | exact tsA | (refine ts_step rfl (fun HF h1 hle => ?_)))
  refine hd_loopS (ι := Nat) (fun k => k ≤ 4) (fun k => [(0, [], .int .u32 (s / 256 ^ k)), (3, [], .int .u64 (turnK s k)), (4, [], .int .i64 k)]) (fun _ => []) (fun _ => h) (fun k => 4 - k) 0 (by omega) (by (repeat (first | exact Sub.nil | (apply Sub.cons; rfl; (focus (first | rfl | (congr 1; simp) | (congr 1; omega)))))); done) (fun _ hw => hw) (fun k hk => ?_)
  have hkb := turnK_bd (s := s) k hk
  have hp := pow256_le (i := k) (by omega)
  have hd := nonneg_inR_div hs hs.1 (Int.pow_pos (n := 256) (m := k) (by omega))
  simp only [inR] at hd
  refine hd_split (c := decide (k < 4)) (fun hlk => ?_) (fun hlk => ?_)
  · simp only [decide_eq_true_eq] at hlk
    have hst : turnK s (k + 1) = turnK s k * 256 + s / 256 ^ k % 256 := rfl
    have hdk := divK s k
    generalize s / 256 ^ k = q at *
    generalize turnK s k = u at *
    generalize (256 : Int) ^ k = e at *
    repeat' (first | refine wCrc22 ?_ | refine wCrc23 ?_ | (refine is_cd ?_; first | refine hd_condA (fun _ => ?_) (fun _ => ?_)) | refine wCrc21 ?_ | refine wkB (fun _ => ?_) | refine wkC (fun _ _ => ?_) | exact tsA | (refine ts_step rfl (fun HF h1 hle => ?_)))
    refine hd_again (k + 1) (by omega) (by omega) (by rw [hst, ← hdk]; exact aU) (fun w hw => hw)
  · simp only [decide_eq_false_iff_not] at hlk
    have hk4 : k = 4 := by omega
    subst hk4
    repeat' (first | refine wCrc22 ?_ | refine wCrc23 ?_ | (refine is_cd ?_; first | refine hd_condA (fun _ => ?_) (fun _ => ?_)) | refine wCrc21 ?_ | refine wkB (fun _ => ?_) | refine wkC (fun _ _ => ?_) | exact tsA | (refine ts_step rfl (fun HF h1 hle => ?_)))
    ((repeat (refine hd_undefer (by first | exact .inl rfl | exact .inr rfl) (by exact aP) ?_)); apply hd_res0; (focus (first | exact .inl rfl | exact .inr rfl)); rfl; exact aR)
    exact ret_int (turnK4 s)
def sealB (bs : List Int) : List Int := putA bs ((rev32 (sumB bs)).toNat : Int) 4
theorem w32_in (r : W32) : inR .u32 (r.toNat : Int) ∧ inR .u64 (r.toNat : Int) := by have := r.isLt; exact ⟨⟨by omega, by omega⟩, ⟨by omega, by omega⟩⟩
theorem sealB_eq (bs : List Int) : sealB bs = bs ++ putB ((rev32 (sumB bs)).toNat : Int) 4 4 := by unfold sealB putA; rw [if_pos (by decide)]; rfl
theorem sealB_len (bs : List Int) : (sealB bs).length = bs.length + 4 := by rw [sealB_eq]; simp [putB_len]
theorem sealB_b8 {bs : List Int} (hb : B8 bs) : B8 (sealB bs) := putA_b8 hb _ _
theorem zCrc23 {A : Prop} (h : A := by ((first | (apply OK.plain; rfl) | (apply OK.guarded; rfl; rfl; (intro hg; (try have hk := hg.2); (try have hl := hg.2.2); (try have hm := hg.2.2.2)))); (first | (apply od_call; exact aX; infer_instance; exact aE; exact aN; (focus (first | exact crc_Sum _ (by assumption) | exact bits_rev _ _))) ))) : A := h
theorem wCrc24 {A B : Prop} (k : B) (h : Kx B → A := by intro k; (first | (refine is_pu ?_ (by rfl); first | refine hd_opAB ?_) | (refine is_pn ?_; first | refine hd_pn_nil ?_ | refine hd_pnAB ?_ | (refine hd_pn_op rfl ?_)) | (refine is_co ?_; first | ((first | apply hd_ok | apply ch_ok); (focus exact zCrc23); rfl; rfl) | refine hd_storeA ?_ | refine hd_copyA ?_ | refine hd_storeRA ?_) | (refine is_ni ?_; first | (refine is_on ?_; first | refine pn_barA ?_ | refine pn_goA ?_ | refine pt_goA ?_ | refine ts_onA ?_) | refine hd_nil ?_) | refine wkA ?_ | (refine is_ch ?_; refine ch_opAB ?_) | ((first | apply hd_ok | apply ch_ok); (focus exact zCrc23); rfl; rfl)); exact k.go) : A := h ⟨k⟩
theorem crc_Seal {p : Option Addr} {n c : Nat} {bs : List Int} (h : PH) (hs : Bs h p n c bs) (hn : n ≤ 1000000) : SpecM Tryz.prog 19 #[.slice p n c] h [] fun v h' Ho => ∃ p' m c', v = .slice p' m c' ∧ m = (sealB bs).length ∧ Ho = [row8 p' m c' (sealB bs)] := by
  have hw := (w32_in (rev32 (sumB bs))).2
  simp only [inR] at hw
  refine spec_enter (args := [_]) Tryz.func19 rfl Tryz.ntmps19 rfl (fun w l => ?_)
  repeat' (first | (refine is_cx ?_ (by rfl); first | (refine hd_cnA (s := by exact wire_Put _ _ _ (by assumption) (by omega) (w32_in _).2) (k := ?_); rintro _ h1 _ hle1 ⟨p1, m1, c1, rfl, hm1, rfl⟩)) | refine wCrc22 ?_ | refine wCrc23 ?_ | (refine is_cd ?_; first | refine hd_condA (fun _ => ?_) (fun _ => ?_)) | refine wCrc24 ?_ | refine wkB (fun _ => ?_) | refine wkC (fun _ _ => ?_) | exact tsA | (refine ts_step rfl (fun HF h1 hle => ?_)))
  ((repeat (refine hd_undefer (by first | exact .inl rfl | exact .inr rfl) (by exact aP) ?_)); apply hd_resR; (focus (first | exact .inl rfl | exact .inr rfl)); rfl; exact aR)
  exact ⟨_, _, _, rfl, hm1, rfl⟩
theorem zCrc22 {A : Prop} (h : A := by ((first | (apply OK.plain; rfl) | (apply OK.guarded; rfl; rfl; (intro hg; (try have hk := hg.2); (try have hl := hg.2.2); (try have hm := hg.2.2.2)))); (first | (apply od_call; exact aX; infer_instance; exact aE; exact aN; (focus (first | exact ref2_Sum _ (by assumption) | exact ref2_turned _ (w32_in _).1))) ))) : A := h
theorem wCrc25 {A B : Prop} (k : B) (h : Kx B → A := by intro k; (first | (refine is_pu ?_ (by rfl); first | refine hd_opAB ?_) | (refine is_pn ?_; first | refine hd_pn_nil ?_ | refine hd_pnAB ?_ | (refine hd_pn_op rfl ?_)) | (refine is_co ?_; first | ((first | apply hd_ok | apply ch_ok); (focus exact zCrc22); rfl; rfl) | refine hd_storeA ?_ | refine hd_copyA ?_ | refine hd_storeRA ?_) | (refine is_ni ?_; first | (refine is_on ?_; first | refine pn_barA ?_ | refine pn_goA ?_ | refine pt_goA ?_ | refine ts_onA ?_) | refine hd_nil ?_) | refine wkA ?_ | (refine is_ch ?_; refine ch_opAB ?_) | ((first | apply hd_ok | apply ch_ok); (focus exact zCrc22); rfl; rfl)); exact k.go) : A := h ⟨k⟩
theorem ref2_Seal {p : Option Addr} {n c : Nat} {bs : List Int} (h : PH) (hs : Bs h p n c bs) (hn : n ≤ 1000000) : SpecM Tryz.prog 14 #[.slice p n c] h [] fun v h' Ho => ∃ p' m c', v = .slice p' m c' ∧ m = (sealB bs).length ∧ Ho = [row8 p' m c' (sealB bs)] := by
  have hre := rev_turn (sumB bs)
  refine spec_enter (args := [_]) Tryz.func14 rfl Tryz.ntmps14 rfl (fun w l => ?_)
  repeat' (first | (refine is_cx ?_ (by rfl); first | (refine hd_cnA (s := by exact ref_Put _ _ _ (by assumption) (by omega) (by rw [← rev_turn]; exact (w32_in _).2)) (k := ?_); rintro _ h1 _ hle1 ⟨p1, m1, c1, rfl, hm1, rfl⟩)) | refine wCrc22 ?_ | refine wCrc23 ?_ | (refine is_cd ?_; first | refine hd_condA (fun _ => ?_) (fun _ => ?_)) | refine wCrc25 ?_ | refine wkB (fun _ => ?_) | refine wkC (fun _ _ => ?_) | exact tsA | (refine ts_step rfl (fun HF h1 hle => ?_)))
  ((repeat (refine hd_undefer (by first | exact .inl rfl | exact .inr rfl) (by exact aP) ?_)); apply hd_resR; (focus (first | exact .inl rfl | exact .inr rfl)); rfl; exact aR)
  rw [← hre] at hm1 ⊢
  exact ⟨_, _, _, rfl, hm1, rfl⟩
/-! ### Opening -/
def cutN (bs : List Int) : Nat := bs.length - 4
def openK (bs : List Int) : Bool := decide (4 ≤ bs.length) && decide (rev32 (BitVec.ofInt 32 (num (bs.drop (cutN bs)))) = sumB (bs.take (cutN bs)))
def openB (bs : List Int) : List Int := if openK bs then bs.take (cutN bs) else []
def openE (bs : List Int) : Int := if openK bs then 0 else 20
theorem openB_b8 {bs : List Int} (hb : B8 bs) : B8 (openB bs) := by unfold openB; split <;> first | exact hb.take _ | exact B8.nil
theorem openB_len (bs : List Int) : (openB bs).length ≤ bs.length := by unfold openB; split <;> simp <;> omega
theorem take4 {bs : List Int} (hl : bs.length = 4) : takOk bs 4 = true ∧ takN bs 4 = num bs := by
  have h1 : takOk bs 4 = true := by simp [takOk, hl]
  refine ⟨h1, ?_⟩
  unfold takN
  rw [h1, if_pos rfl, List.take_of_length_le (by rw [hl]; decide)]
theorem num4 {bs : List Int} (hb : B8 bs) (hl : bs.length = 4) : 0 ≤ num bs ∧ num bs ≤ 4294967295 := by
  have := num_lt hb
  rw [hl] at this
  have e : (256 : Int) ^ 4 = 4294967296 := by decide
  omega
theorem zCrc21 {A : Prop} (h : A := by ((first | (apply OK.plain; rfl) | (apply OK.guarded; rfl; rfl; (intro hg; (try have hk := hg.2); (try have hl := hg.2.2); (try have hm := hg.2.2.2)))); (first | (apply od_call; exact aX; infer_instance; exact aE; exact aN; (focus (first | exact crc_Sum _ (by (first | assumption | exact SlR.nil _ _ | exact SlR.mono (by assumption) (by exact aL))) | exact bits_rev _ _))) ))) : A := h
theorem wCrc26 {A B : Prop} (k : B) (h : Kx B → A := by intro k; (first | (refine is_pu ?_ (by rfl); first | refine hd_opAB ?_) | (refine is_pn ?_; first | refine hd_pn_nil ?_ | refine hd_pnAB ?_ | (refine hd_pn_op rfl ?_)) | (refine is_co ?_; first | ((first | apply hd_ok | apply ch_ok); (focus exact zCrc21); rfl; rfl) | refine hd_storeA ?_ | refine hd_copyA ?_ | refine hd_storeRA ?_) | (refine is_ni ?_; first | (refine is_on ?_; first | refine pn_barA ?_ | refine pn_goA ?_ | refine pt_goA ?_ | refine ts_onA ?_) | refine hd_nil ?_) | refine wkA ?_ | (refine is_ch ?_; refine ch_opAB ?_) | ((first | apply hd_ok | apply ch_ok); (focus exact zCrc21); rfl; rfl)); exact k.go) : A := h ⟨k⟩
theorem wCrc27 {A B : Prop} (k : B) (h : Kx B → A := by intro k; ((refine is_cw ?_; refine is_rg ?_; first | (refine hd_planT (id := 5) _ [] [.one 0 true, .one 1 true, .one 2 true, .one 3 true, .one 4 true, .one 6 true, .one 7 true, .one 8 true, .one 5 false, .one 9 false, .one 10 true, .one 11 true] follows_any (by kernel_rfl) rfl (by kernel_rfl) rfl ?_) | refine hd_draw follows_any (by decide +kernel) ?_)); exact k.go) : A := h ⟨k⟩
theorem wCrc28 {A B : Prop} (k : B) (h : Kx B → A := by intro k; ((refine is_cw ?_; refine is_cd ?_; first | (refine hd_condT (by exact aX) (by (first | rfl | (rw [hne]; rfl) | (simp only [decide_eq_true_eq, decide_eq_false_iff_not]; omega) | fail)) ?_) | (refine hd_condF (by exact aX) (by (first | rfl | (rw [hne]; rfl) | (simp only [decide_eq_true_eq, decide_eq_false_iff_not]; omega) | fail)) ?_))); exact k.go) : A := h ⟨k⟩
theorem crc_Open {p : Option Addr} {n c : Nat} {bs : List Int} (h : PH) (hs : Bs h p n c bs) (hn : n ≤ 1000000) : SpecM Tryz.prog 35 #[.slice p n c] h [] fun v h' Ho => ∃ p' m c', v = .tuple #[.slice p' m c', .int .i64 (openE bs)] ∧ m = (openB bs).length ∧ Ho = [row8 p' m c' (openB bs)] := by
  have hl := hs.len
  have hcap := hs.cap
  refine spec_enter (args := [_]) Tryz.func35 rfl Tryz.ntmps35 rfl (fun w l => ?_)
  refine hd_split (c := decide (4 ≤ n)) (fun h4 => ?_) (fun h4 => ?_)
  · simp only [decide_eq_true_eq] at h4
    have hcut : ((n : Int) - 4).toNat = cutN bs := by unfold cutN; omega
    have hdr : Bs h (subp p c ((n : Int) - 4).toNat 1) (n - ((n : Int) - 4).toNat) (c - ((n : Int) - 4).toNat) (bs.drop (cutN bs)) := by rw [← hcut]; exact hs.dropS (by omega)
    have htk : Bs h (subp p c 0 1) (((n : Int) - 4).toNat - 0) (c - 0) (bs.take (cutN bs)) := by
      have := hs.sub (lo := 0) (hi := ((n : Int) - 4).toNat) (by omega) (by omega)
      rw [List.drop_zero] at this
      rw [← hcut]; exact this
    have hdl := hdr.len
    have hd4 : (bs.drop (cutN bs)).length = 4 := by rw [hdl]; omega
    obtain ⟨ht1, ht2⟩ := take4 hd4
    obtain ⟨hn1, hn2⟩ := num4 hdr.b8 hd4
    have hbv := bv_of (n := num (bs.drop (cutN bs))) ⟨hn1, hn2⟩
    refine hd_split (c := decide (rev32 (BitVec.ofInt 32 (num (bs.drop (cutN bs)))) = sumB (bs.take (cutN bs)))) (fun hk => ?_) (fun hk => ?_)
    · have hK : openK bs = true := by unfold openK; rw [hk, decide_eq_true (by omega)]; rfl
      simp only [decide_eq_true_eq] at hk
      have e1 : openB bs = bs.take (cutN bs) := by unfold openB; rw [hK]; rfl
      have e2 : openE bs = 0 := by unfold openE; rw [hK]; rfl
      have hne : (((rev32 (BitVec.ofInt 32 (num (bs.drop (cutN bs))))).toNat : Int) != ((sumB (bs.take (cutN bs))).toNat : Int)) = false := by rw [hk]; simp
      have hlt := (BitVec.ofInt 32 (num (bs.drop (cutN bs)))).isLt
      rw [hbv] at ht2
      repeat' (first | (refine is_cx ?_ (by rfl); first | (refine hd_cnA (s := by exact wire_Take 4 _ (by assumption) (by omega)) (k := ?_); (focus (rintro _ h1 _ hle1 ⟨p1, m1, c1, rfl, hm1, rfl⟩; rw [ht1, ht2])))) | refine wCrc27 ?_ | refine wCrc28 ?_ | (refine is_cd ?_; first | refine hd_condA (fun _ => ?_) (fun _ => ?_)) | refine wCrc26 ?_ | refine wkB (fun _ => ?_) | refine wkC (fun _ _ => ?_) | exact tsA | (refine ts_step rfl (fun HF h1 hle => ?_)))
      rename_i b8
      have ecp : List.take (min n ((n : Int) - 4).toNat * 1) (vI .u8 bs) ++ List.drop (min n ((n : Int) - 4).toNat * 1) (zs [.int .u8 0] ((n : Int) - 4).toNat) = vI .u8 (bs.take (cutN bs)) := by
        rw [Nat.mul_one, Nat.min_eq_right (by omega), List.drop_of_length_le (by simp [zs]), List.append_nil, vI_take, hcut]
      rw [ecp]
      apply hd_resS (Hi := [row8 (some ⟨b8, 0, none⟩) (((n : Int) - 4).toNat) (((n : Int) - 4).toNat) (bs.take (cutN bs))])
      · (first | exact .inl rfl | exact .inr rfl)
      · rfl
      · exact aR
      · exact aS
      · exact ⟨_, _, _, by rw [e2]; rfl, by rw [e1, htk.len]; rfl, by rw [e1]⟩
    · have hK : openK bs = false := by unfold openK; rw [hk, Bool.and_false]
      simp only [decide_eq_false_iff_not] at hk
      have e1 : openB bs = [] := by unfold openB; rw [hK]; rfl
      have e2 : openE bs = 20 := by unfold openE; rw [hK]; rfl
      have hne : (((rev32 (BitVec.ofInt 32 (num (bs.drop (cutN bs))))).toNat : Int) != ((sumB (bs.take (cutN bs))).toNat : Int)) = true := by
        simp only [bne_iff_ne, ne_eq]
        exact fun e => hk (BitVec.eq_of_toNat_eq (by omega))
      have hlt := (BitVec.ofInt 32 (num (bs.drop (cutN bs)))).isLt
      rw [hbv] at ht2
      repeat' (first | (refine is_cx ?_ (by rfl); first | (refine hd_cnA (s := by exact wire_Take 4 _ (by assumption) (by omega)) (k := ?_); (focus (rintro _ h1 _ hle1 ⟨p1, m1, c1, rfl, hm1, rfl⟩; rw [ht1, ht2])))) | refine wCrc27 ?_ | refine wCrc28 ?_ | (refine is_cd ?_; first | refine hd_condA (fun _ => ?_) (fun _ => ?_)) | refine wCrc26 ?_ | refine wkB (fun _ => ?_) | refine wkC (fun _ _ => ?_) | exact tsA | (refine ts_step rfl (fun HF h1 hle => ?_)))
      refine hd_nilrow 5 1 ?_
      apply hd_resS (Hi := [row8 none 0 0 []])
      · (first | exact .inl rfl | exact .inr rfl)
      · rfl
      · exact aR
      · exact .cons .here .nil
      · exact ⟨_, _, _, by rw [e2]; rfl, by rw [e1]; rfl, by rw [e1]⟩
  · simp only [decide_eq_false_iff_not] at h4
    repeat' (first | (refine is_cx ?_ (by rfl); first | (refine hd_cnA (s := by exact wire_Take 4 _ (by assumption) (by omega)) (k := ?_); (focus (rintro _ h1 _ hle1 ⟨p1, m1, c1, rfl, hm1, rfl⟩; rw [ht1, ht2])))) | refine wCrc27 ?_ | refine wCrc28 ?_ | (refine is_cd ?_; first | refine hd_condA (fun _ => ?_) (fun _ => ?_)) | refine wCrc26 ?_ | refine wkB (fun _ => ?_) | refine wkC (fun _ _ => ?_) | exact tsA | (refine ts_step rfl (fun HF h1 hle => ?_)))
    refine hd_nilrow 5 1 ?_
    ((repeat (refine hd_undefer (by first | exact .inl rfl | exact .inr rfl) (by exact aP) ?_)); apply hd_resR; (focus (first | exact .inl rfl | exact .inr rfl)); rfl; exact aR)
    have hk : openK bs = false := by unfold openK; rw [decide_eq_false (by omega)]; rfl
    have e1 : openB bs = [] := by unfold openB; rw [hk]; rfl
    have e2 : openE bs = 20 := by unfold openE; rw [hk]; rfl
    exact ⟨_, _, _, by rw [e2]; rfl, by rw [e1]; rfl, by rw [e1]; rfl⟩
end Go.Proofs.YtmpfeaoofkkhjaaGreat
