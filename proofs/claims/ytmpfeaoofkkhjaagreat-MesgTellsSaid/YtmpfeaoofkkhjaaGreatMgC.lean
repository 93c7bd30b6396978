/- mesg.Right. Printed by gen_mgc.py. -/
import Derived.Test.YtmpfeaoofkkhjaaGreatMgB
namespace Go.Proofs.YtmpfeaoofkkhjaaGreat
open Go Go.GV
attribute [local irreducible] cw Go.GV.SpecM Go.GV.wpList Exit.then Exit.inBlock Go.GV.bodyPost wpPl wpPm wpPn TS rnd rPost YieldsB wpPT ptK
set_option maxRecDepth 10000
set_option maxHeartbeats 8000000
set_option linter.unusedVariables false
set_option linter.unusedSimpArgs false
/-- Is a field right? -/
def okF (m : MsD) : Nat → Bool
  | 0 => bif mL m.kind then fLr m else decide (m.list.length = 0)
  | 1 => bif mT m.kind then fTr m else decide (m.table.length = 0)
  | 2 => bif mE m.kind then fEr m else fEn m
  | 3 => bif mH m.kind then true else decide (m.hops = 0)
  | 4 => bif mO m.kind then fOr m else decide (m.origin = mk0)
  | 5 => bif mO m.kind then fMr m else decide (m.marks.length = 0)
  | 6 => bif mJ m.kind then fIr m else decide (m.ids.length = 0)
  | _ => true
def hdF (m : MsD) : Bool := kdM m.kind && decide (m.frm < 12) && decide (m.to_ < 12) && decide (m.inc ≠ 0)
theorem rightM_eq (m : MsD) : rightM m = (hdF m && okF m 0 && okF m 1 && okF m 2 && okF m 3 && okF m 4 && okF m 5 && okF m 6) := by
  simp only [rightM, hdF, okF]
  cases mH m.kind <;> rfl
def okT (m : MsD) : Nat → Bool
  | 0 => true
  | i + 1 => okT m i && okF m i
theorem right_no {m : MsD} {i : Nat} (hi : i < 7) (h : okF m i = false) : rightM m = false := by
  rw [rightM_eq]
  have : i = 0 ∨ i = 1 ∨ i = 2 ∨ i = 3 ∨ i = 4 ∨ i = 5 ∨ i = 6 := by omega
  rcases this with rfl | rfl | rfl | rfl | rfl | rfl | rfl <;> rw [h] <;> simp
theorem right_yes {m : MsD} (h0 : hdF m = true) (h : okT m 7 = true) : rightM m = true := by
  rw [rightM_eq, h0]
  simpa [okT] using h

theorem pvMgC1 {A : Prop} (h : A := by (first | rfl | assumption | exact bne_self_eq_false _ | (rw [hu]; rfl) | (rw [hu2]; rfl) | (rw [hu3]; rfl) | (simp only [decide_eq_true_eq, decide_eq_false_iff_not, beq_eq_false_iff_ne, beq_iff_eq]; omega) | fail)) : A := h
theorem nvMgC1 {A : Prop} (h : A := by (first | decide | (rw [hu]; decide) | (rw [hu2]; decide) | fail)) : A := h
theorem zMgC1 {A : Prop} (h : A := by ((first | (apply OK.plain; rfl) | (apply OK.guarded; rfl; rfl; (intro hg; (try have hk := hg.2); (try have hl := hg.2.2); (try have hm := hg.2.2.2)))); (first | (apply od_call; exact aX; infer_instance; exact aE; exact aN; (focus (first | exact mesg_fieldsOf _ _ | exact list_3 _ (hv.mono (by exact aL)) | exact list_4 _ (hv.mono (by exact aL)) | exact table_3 _ (hv.mono (by exact aL)) | exact table_4 _ (hv.mono (by exact aL)) | exact event_3 _ (hv.mono (by exact aL)) | exact event_4 _ (hv.mono (by exact aL)) | exact hops_3 _ (hv.mono (by exact aL)) | exact hops_4 _ (hv.mono (by exact aL)) | exact origin_3 _ (hv.mono (by exact aL)) | exact origin_4 _ (hv.mono (by exact aL)) | exact marks_3 _ (hv.mono (by exact aL)) | exact marks_4 _ (hv.mono (by exact aL)) | exact ids_3 _ (hv.mono (by exact aL)) | exact ids_4 _ (hv.mono (by exact aL))))) ))) : A := h
theorem zMgC2 {A : Prop} (h : A := by ((first | (apply OK.plain; rfl; apply OD.of) | (apply OKp.plain; rfl)); (first | (apply od_pickX; exact aX; exact pvMgC1; exact aX) | (apply od_pickY; exact aX; exact pvMgC1; exact aX)))) : A := h
theorem zMgC3 {A : Prop} (h : A := by ((first | (apply OK.plain; rfl; apply OD.of) | (apply OKp.plain; rfl)); (first | fail))) : A := h
theorem wMgC1 {A B : Prop} (k : B) (h : Kx B → A := by intro k; (first | (refine is_pu ?_ (by rfl); first | (apply hd_gon; rfl; rfl; (focus (constructor; exact pvMgC1; trivial))) | (apply hd_goff; rfl; rfl; (focus exact fun hs => absurd hs.1 (by exact nvMgC1)); rfl) | (apply hd_gundef; rfl; rfl; rfl) | refine hd_opAB ?_ | ((first | apply hd_ok | apply ch_ok | (apply hd_pn_run; rfl; exact aM)); (focus exact zMgC3); rfl; rfl) | ((first | apply hd_ok | apply ch_ok | (apply hd_pn_run; rfl; exact aM)); (focus exact zMgC2); rfl; rfl)) | (refine is_pn ?_; first | refine hd_pn_nil ?_ | refine hd_pnAB ?_ | ((first | apply hd_ok | apply ch_ok | (apply hd_pn_run; rfl; exact aM)); (focus exact zMgC3); rfl; rfl) | ((first | apply hd_ok | apply ch_ok | (apply hd_pn_run; rfl; exact aM)); (focus exact zMgC2); rfl; rfl) | (refine hd_pn_op rfl ?_)) | (refine is_co ?_; first | (apply hd_gon; rfl; rfl; (focus (constructor; exact pvMgC1; trivial))) | (apply hd_goff; rfl; rfl; (focus exact fun hs => absurd hs.1 (by exact nvMgC1)); rfl) | (apply hd_gundef; rfl; rfl; rfl) | ((first | apply hd_ok | apply ch_ok); (focus exact zMgC1); rfl; rfl) | refine hd_storeA ?_ | refine hd_copyA ?_) | (refine is_ni ?_; first | (refine is_on ?_; first | refine pn_barA ?_ | refine pn_goA ?_ | refine pt_goA ?_ | refine ts_onA ?_) | refine hd_nil ?_) | refine wkA ?_ | (refine is_ch ?_; refine ch_opAB ?_) | ((first | apply hd_ok | apply ch_ok); (focus exact zMgC1); rfl; rfl) | ((first | apply hd_ok | apply ch_ok | (apply hd_pn_run; rfl; exact aM)); (focus exact zMgC3); rfl; rfl) | ((first | apply hd_ok | apply ch_ok | (apply hd_pn_run; rfl; exact aM)); (focus exact zMgC2); rfl; rfl)); exact k.go) : A := h ⟨k⟩
theorem wMgC2 {A B : Prop} (k : B) (h : Kx B → A := by intro k; ((refine is_cw ?_; refine is_rg ?_; first | refine hd_draw follows_any (by decide +kernel) ?_)); exact k.go) : A := h ⟨k⟩
theorem wMgC3 {A B : Prop} (k : B) (h : Kx B → A := by intro k; ((refine is_cw ?_; refine is_cd ?_; first | (refine hd_condT (by exact aX) (by exact pvMgC1) ?_) | (refine hd_condF (by exact aX) (by exact pvMgC1) ?_))); exact k.go) : A := h ⟨k⟩
theorem wMgC4 {A B : Prop} (k : B) (h : Kx B → A := by intro k; (first | (refine is_pu ?_ (by rfl); first | (apply hd_gon; rfl; rfl; (focus (constructor; exact pvMgC1; trivial))) | (apply hd_goff; rfl; rfl; (focus exact fun hs => absurd hs.1 (by exact nvMgC1)); rfl) | (apply hd_gundef; rfl; rfl; rfl) | ((first | apply hd_ok | apply ch_ok | (apply hd_pn_run; rfl; exact aM)); (focus ((first | (apply OK.plain; rfl) | (apply OK.guarded; rfl; rfl; (intro hg))); apply OD.of; apply od_and1; exact aX; exact aX; (focus omega); (focus omega); exact cc)); rfl; rfl) | refine hd_opAB ?_ | ((first | apply hd_ok | apply ch_ok | (apply hd_pn_run; rfl; exact aM)); (focus exact zMgC3); rfl; rfl) | ((first | apply hd_ok | apply ch_ok | (apply hd_pn_run; rfl; exact aM)); (focus exact zMgC2); rfl; rfl)) | (refine is_pn ?_; first | refine hd_pn_nil ?_ | ((first | apply hd_ok | apply ch_ok | (apply hd_pn_run; rfl; exact aM)); (focus ((first | (apply OK.plain; rfl) | (apply OK.guarded; rfl; rfl; (intro hg))); apply OD.of; apply od_and1; exact aX; exact aX; (focus omega); (focus omega); exact cc)); rfl; rfl) | refine hd_pnAB ?_ | ((first | apply hd_ok | apply ch_ok | (apply hd_pn_run; rfl; exact aM)); (focus exact zMgC3); rfl; rfl) | ((first | apply hd_ok | apply ch_ok | (apply hd_pn_run; rfl; exact aM)); (focus exact zMgC2); rfl; rfl) | (refine hd_pn_op rfl ?_)) | (refine is_co ?_; first | (apply hd_gon; rfl; rfl; (focus (constructor; exact pvMgC1; trivial))) | (apply hd_goff; rfl; rfl; (focus exact fun hs => absurd hs.1 (by exact nvMgC1)); rfl) | (apply hd_gundef; rfl; rfl; rfl) | ((first | apply hd_ok | apply ch_ok); (focus exact zMgC1); rfl; rfl) | refine hd_storeA ?_ | refine hd_copyA ?_) | (refine is_ni ?_; first | (refine is_on ?_; first | refine pn_barA ?_ | refine pn_goA ?_ | refine pt_goA ?_ | refine ts_onA ?_) | refine hd_nil ?_) | refine wkA ?_ | (refine is_ch ?_; refine ch_opAB ?_) | ((first | apply hd_ok | apply ch_ok); (focus exact zMgC1); rfl; rfl) | ((first | apply hd_ok | apply ch_ok | (apply hd_pn_run; rfl; exact aM)); (focus exact zMgC3); rfl; rfl) | ((first | apply hd_ok | apply ch_ok | (apply hd_pn_run; rfl; exact aM)); (focus exact zMgC2); rfl; rfl)); exact k.go) : A := h ⟨k⟩
theorem mesg_Right {m : MsD} {a : MsP} (h : PH) (hv : VMsP h a m) : Det Tryz.prog 8 #[.agg #[.int .u8 m.kind, .int .u8 m.frm, .int .u16 m.inc, .int .u8 m.to_, .slice a.pl a.nl a.cl, .slice a.pt a.nt a.ct, .int .u8 m.ev.1.1, .int .u16 m.ev.1.2.1, .int .u32 m.ev.1.2.2, .slice a.pv a.nv a.cv, .slice a.pd a.nd a.cd, .int .u8 m.hops, .int .u8 m.origin.1, .int .u16 m.origin.2.1, .int .u32 m.origin.2.2, .slice a.pm a.nm a.cm, .slice a.pi a.ni a.ci]] h (.bool (rightM m)) := by
  have hr1 := hv.r.kind
  have hr2 := hv.r.frm
  have hr3 := hv.r.inc
  have hr4 := hv.r.to_
  simp only [inR] at hr1 hr2 hr3 hr4
  refine spec_enter (args := [_]) Tryz.func8 rfl Tryz.ntmps8 rfl (fun w l => ?_)
  have hu2 := True.intro
  have hu3 := True.intro
  refine hd_split (c := kdM m.kind) (fun hu => ?_) (fun hu => ?_)
  rotate_left
  · have e : rightM m = false := by simp [rightM, hu]
    repeat' (first | (refine is_cx ?_ (by rfl); first | (refine hd_cA (s := by exact mesg_fields _) (k := ?_); rintro _ h1 hle1 ⟨pF, cF, rfl, hF⟩)) | refine wMgC2 ?_ | refine wMgC3 ?_ | (refine is_cd ?_; first | refine hd_condA (fun _ => ?_) (fun _ => ?_)) | refine wMgC1 ?_ | refine wkB (fun _ => ?_) | refine wkC (fun _ _ => ?_) | exact tsA | (refine ts_step rfl (fun HF h1 hle => ?_)))
    ((repeat (refine hd_undefer (by first | exact .inl rfl | exact .inr rfl) (by exact aP) ?_)); apply hd_res0; (focus (first | exact .inl rfl | exact .inr rfl)); rfl; exact aR)
    exact ret_bool e.symm
  refine hd_split (c := decide (m.frm < 12)) (fun g1 => ?_) (fun g1 => ?_)
  rotate_left
  · have e : rightM m = false := by simp only [rightM, g1, Bool.and_false, Bool.false_and]
    simp only [decide_eq_false_iff_not] at g1
    have hu2 : decide (12 ≤ m.frm) = true := decide_eq_true (by omega)
    repeat' (first | (refine is_cx ?_ (by rfl); first | (refine hd_cA (s := by exact mesg_fields _) (k := ?_); rintro _ h1 hle1 ⟨pF, cF, rfl, hF⟩)) | refine wMgC2 ?_ | refine wMgC3 ?_ | (refine is_cd ?_; first | refine hd_condA (fun _ => ?_) (fun _ => ?_)) | refine wMgC1 ?_ | refine wkB (fun _ => ?_) | refine wkC (fun _ _ => ?_) | exact tsA | (refine ts_step rfl (fun HF h1 hle => ?_)))
    ((repeat (refine hd_undefer (by first | exact .inl rfl | exact .inr rfl) (by exact aP) ?_)); apply hd_res0; (focus (first | exact .inl rfl | exact .inr rfl)); rfl; exact aR)
    exact ret_bool e.symm
  refine hd_split (c := decide (m.to_ < 12)) (fun g2 => ?_) (fun g2 => ?_)
  rotate_left
  · have e : rightM m = false := by simp only [rightM, g2, Bool.and_false, Bool.false_and]
    simp only [decide_eq_true_eq, decide_eq_false_iff_not] at g1 g2
    have hu2 : decide (12 ≤ m.to_) = true := decide_eq_true (by omega)
    repeat' (first | (refine is_cx ?_ (by rfl); first | (refine hd_cA (s := by exact mesg_fields _) (k := ?_); rintro _ h1 hle1 ⟨pF, cF, rfl, hF⟩)) | refine wMgC2 ?_ | refine wMgC3 ?_ | (refine is_cd ?_; first | refine hd_condA (fun _ => ?_) (fun _ => ?_)) | refine wMgC1 ?_ | refine wkB (fun _ => ?_) | refine wkC (fun _ _ => ?_) | exact tsA | (refine ts_step rfl (fun HF h1 hle => ?_)))
    ((repeat (refine hd_undefer (by first | exact .inl rfl | exact .inr rfl) (by exact aP) ?_)); apply hd_res0; (focus (first | exact .inl rfl | exact .inr rfl)); rfl; exact aR)
    exact ret_bool e.symm
  refine hd_split (c := decide (m.inc ≠ 0)) (fun g3 => ?_) (fun g3 => ?_)
  rotate_left
  · have e : rightM m = false := by simp only [rightM, g3, Bool.and_false, Bool.false_and]
    simp only [decide_eq_true_eq, decide_eq_false_iff_not] at g1 g2 g3
    have hu2 : (m.inc == 0) = true := by simp; omega
    repeat' (first | (refine is_cx ?_ (by rfl); first | (refine hd_cA (s := by exact mesg_fields _) (k := ?_); rintro _ h1 hle1 ⟨pF, cF, rfl, hF⟩)) | refine wMgC2 ?_ | refine wMgC3 ?_ | (refine is_cd ?_; first | refine hd_condA (fun _ => ?_) (fun _ => ?_)) | refine wMgC1 ?_ | refine wkB (fun _ => ?_) | refine wkC (fun _ _ => ?_) | exact tsA | (refine ts_step rfl (fun HF h1 hle => ?_)))
    ((repeat (refine hd_undefer (by first | exact .inl rfl | exact .inr rfl) (by exact aP) ?_)); apply hd_res0; (focus (first | exact .inl rfl | exact .inr rfl)); rfl; exact aR)
    exact ret_bool e.symm
  have hh : hdF m = true := by simp only [hdF, hu, g1, g2, g3, Bool.and_self]
  simp only [decide_eq_true_eq] at g1 g2 g3
  obtain ⟨c0, c1, c2, c3, c4, c5, c6⟩ := bits_at hu
  obtain ⟨bb0, bb1⟩ := bits_bd hu
  repeat' (first | (refine is_cx ?_ (by rfl); first | (refine hd_cA (s := by exact mesg_fields _) (k := ?_); rintro _ h1 hle1 ⟨pF, cF, rfl, hF⟩)) | refine wMgC2 ?_ | refine wMgC3 ?_ | (refine is_cd ?_; first | refine hd_condA (fun _ => ?_) (fun _ => ?_)) | refine wMgC1 ?_ | refine wkB (fun _ => ?_) | refine wkC (fun _ _ => ?_) | exact tsA | (refine ts_step rfl (fun HF h1 hle => ?_)))
  rename_i b1
  generalize bitsM m.kind = B at *
  refine hd_loopS (ι := Nat) (fun i => i ≤ 7 ∧ okT m i = true) (fun i => [(1, [], .pointer (some ⟨b1, 0, none⟩)), (2, [], .bool false), (3, [], .int .u8 B), (30, [], .slice pF 7 cF), (31, [], .int .i64 7), (32, [], .int .i64 i)]) (fun _ => [box b1 [.int .u8 m.kind, .int .u8 m.frm, .int .u16 m.inc, .int .u8 m.to_, .slice a.pl a.nl a.cl, .slice a.pt a.nt a.ct, .int .u8 m.ev.1.1, .int .u16 m.ev.1.2.1, .int .u32 m.ev.1.2.2, .slice a.pv a.nv a.cv, .slice a.pd a.nd a.cd, .int .u8 m.hops, .int .u8 m.origin.1, .int .u16 m.origin.2.1, .int .u32 m.origin.2.2, .slice a.pm a.nm a.cm, .slice a.pi a.ni a.ci] 36]) (fun _ => h1) (fun i => 7 - i) 0 (by simp [okT]) (by exact aU) (fun w hw => inv_only (by exact aS) hw) (fun i hi => ?_)
  obtain ⟨hi7, hT⟩ := hi
  try dsimp only at hi7 hT ⊢
  have h7 : i = 0 ∨ i = 1 ∨ i = 2 ∨ i = 3 ∨ i = 4 ∨ i = 5 ∨ i = 6 ∨ i = 7 := by omega
  rcases h7 with rfl | rfl | rfl | rfl | rfl | rfl | rfl | rfl
  · have hpub := hF.at (i := 0) rfl
    have hptr := hF.ptr (by decide)
    have cc := c0
    have hne : okF m 0 = (bif mL m.kind then fLr m else decide (m.list.length = 0)) := rfl
    refine hd_split (c := mL m.kind) (fun hu => ?_) (fun hu => ?_)
    · rw [hu] at cc hne
      simp only [if_true, cond_true] at cc hne
      refine hd_split (c := fLr m) (fun hu2 => ?_) (fun hu2 => ?_)
      · rw [hu2] at hne
        repeat' (first | (refine is_cx ?_ (by rfl); first | (refine hd_cA (s := by exact mesg_fields _) (k := ?_); rintro _ h1 hle1 ⟨pF, cF, rfl, hF⟩)) | refine wMgC2 ?_ | refine wMgC3 ?_ | (refine is_cd ?_; first | refine hd_condA (fun _ => ?_) (fun _ => ?_)) | refine wMgC4 ?_ | refine wkB (fun _ => ?_) | refine wkC (fun _ _ => ?_) | exact tsA | (refine ts_step rfl (fun HF h1 hle => ?_)))
        exact hd_again 1 ⟨by omega, by simp only [okT, hne, Bool.and_true] at hT ⊢ <;> exact hT⟩ (by omega) (by exact aU) (fun w hw => inv_only (by exact aS) hw)
      · rw [hu2] at hne
        repeat' (first | (refine is_cx ?_ (by rfl); first | (refine hd_cA (s := by exact mesg_fields _) (k := ?_); rintro _ h1 hle1 ⟨pF, cF, rfl, hF⟩)) | refine wMgC2 ?_ | refine wMgC3 ?_ | (refine is_cd ?_; first | refine hd_condA (fun _ => ?_) (fun _ => ?_)) | refine wMgC4 ?_ | refine wkB (fun _ => ?_) | refine wkC (fun _ _ => ?_) | exact tsA | (refine ts_step rfl (fun HF h1 hle => ?_)))
        ((repeat (refine hd_undefer (by first | exact .inl rfl | exact .inr rfl) (by exact aP) ?_)); apply hd_res0; (focus (first | exact .inl rfl | exact .inr rfl)); rfl; exact aR)
        exact ret_bool (right_no (i := 0) (by omega) hne).symm
    · rw [hu] at cc hne
      simp only [Bool.false_eq_true, if_false, cond_false] at cc hne
      refine hd_split (c := decide (m.list.length = 0)) (fun hu2 => ?_) (fun hu2 => ?_)
      · rw [hu2] at hne
        repeat' (first | (refine is_cx ?_ (by rfl); first | (refine hd_cA (s := by exact mesg_fields _) (k := ?_); rintro _ h1 hle1 ⟨pF, cF, rfl, hF⟩)) | refine wMgC2 ?_ | refine wMgC3 ?_ | (refine is_cd ?_; first | refine hd_condA (fun _ => ?_) (fun _ => ?_)) | refine wMgC4 ?_ | refine wkB (fun _ => ?_) | refine wkC (fun _ _ => ?_) | exact tsA | (refine ts_step rfl (fun HF h1 hle => ?_)))
        exact hd_again 1 ⟨by omega, by simp only [okT, hne, Bool.and_true] at hT ⊢ <;> exact hT⟩ (by omega) (by exact aU) (fun w hw => inv_only (by exact aS) hw)
      · rw [hu2] at hne
        repeat' (first | (refine is_cx ?_ (by rfl); first | (refine hd_cA (s := by exact mesg_fields _) (k := ?_); rintro _ h1 hle1 ⟨pF, cF, rfl, hF⟩)) | refine wMgC2 ?_ | refine wMgC3 ?_ | (refine is_cd ?_; first | refine hd_condA (fun _ => ?_) (fun _ => ?_)) | refine wMgC4 ?_ | refine wkB (fun _ => ?_) | refine wkC (fun _ _ => ?_) | exact tsA | (refine ts_step rfl (fun HF h1 hle => ?_)))
        ((repeat (refine hd_undefer (by first | exact .inl rfl | exact .inr rfl) (by exact aP) ?_)); apply hd_res0; (focus (first | exact .inl rfl | exact .inr rfl)); rfl; exact aR)
        exact ret_bool (right_no (i := 0) (by omega) hne).symm
  · have hpub := hF.at (i := 1) rfl
    have hptr := hF.ptr (by decide)
    have cc := c1
    have hne : okF m 1 = (bif mT m.kind then fTr m else decide (m.table.length = 0)) := rfl
    refine hd_split (c := mT m.kind) (fun hu => ?_) (fun hu => ?_)
    · rw [hu] at cc hne
      simp only [if_true, cond_true] at cc hne
      refine hd_split (c := fTr m) (fun hu2 => ?_) (fun hu2 => ?_)
      · rw [hu2] at hne
        repeat' (first | (refine is_cx ?_ (by rfl); first | (refine hd_cA (s := by exact mesg_fields _) (k := ?_); rintro _ h1 hle1 ⟨pF, cF, rfl, hF⟩)) | refine wMgC2 ?_ | refine wMgC3 ?_ | (refine is_cd ?_; first | refine hd_condA (fun _ => ?_) (fun _ => ?_)) | refine wMgC4 ?_ | refine wkB (fun _ => ?_) | refine wkC (fun _ _ => ?_) | exact tsA | (refine ts_step rfl (fun HF h1 hle => ?_)))
        exact hd_again 2 ⟨by omega, by simp only [okT, hne, Bool.and_true] at hT ⊢ <;> exact hT⟩ (by omega) (by exact aU) (fun w hw => inv_only (by exact aS) hw)
      · rw [hu2] at hne
        repeat' (first | (refine is_cx ?_ (by rfl); first | (refine hd_cA (s := by exact mesg_fields _) (k := ?_); rintro _ h1 hle1 ⟨pF, cF, rfl, hF⟩)) | refine wMgC2 ?_ | refine wMgC3 ?_ | (refine is_cd ?_; first | refine hd_condA (fun _ => ?_) (fun _ => ?_)) | refine wMgC4 ?_ | refine wkB (fun _ => ?_) | refine wkC (fun _ _ => ?_) | exact tsA | (refine ts_step rfl (fun HF h1 hle => ?_)))
        ((repeat (refine hd_undefer (by first | exact .inl rfl | exact .inr rfl) (by exact aP) ?_)); apply hd_res0; (focus (first | exact .inl rfl | exact .inr rfl)); rfl; exact aR)
        exact ret_bool (right_no (i := 1) (by omega) hne).symm
    · rw [hu] at cc hne
      simp only [Bool.false_eq_true, if_false, cond_false] at cc hne
      refine hd_split (c := decide (m.table.length = 0)) (fun hu2 => ?_) (fun hu2 => ?_)
      · rw [hu2] at hne
        repeat' (first | (refine is_cx ?_ (by rfl); first | (refine hd_cA (s := by exact mesg_fields _) (k := ?_); rintro _ h1 hle1 ⟨pF, cF, rfl, hF⟩)) | refine wMgC2 ?_ | refine wMgC3 ?_ | (refine is_cd ?_; first | refine hd_condA (fun _ => ?_) (fun _ => ?_)) | refine wMgC4 ?_ | refine wkB (fun _ => ?_) | refine wkC (fun _ _ => ?_) | exact tsA | (refine ts_step rfl (fun HF h1 hle => ?_)))
        exact hd_again 2 ⟨by omega, by simp only [okT, hne, Bool.and_true] at hT ⊢ <;> exact hT⟩ (by omega) (by exact aU) (fun w hw => inv_only (by exact aS) hw)
      · rw [hu2] at hne
        repeat' (first | (refine is_cx ?_ (by rfl); first | (refine hd_cA (s := by exact mesg_fields _) (k := ?_); rintro _ h1 hle1 ⟨pF, cF, rfl, hF⟩)) | refine wMgC2 ?_ | refine wMgC3 ?_ | (refine is_cd ?_; first | refine hd_condA (fun _ => ?_) (fun _ => ?_)) | refine wMgC4 ?_ | refine wkB (fun _ => ?_) | refine wkC (fun _ _ => ?_) | exact tsA | (refine ts_step rfl (fun HF h1 hle => ?_)))
        ((repeat (refine hd_undefer (by first | exact .inl rfl | exact .inr rfl) (by exact aP) ?_)); apply hd_res0; (focus (first | exact .inl rfl | exact .inr rfl)); rfl; exact aR)
        exact ret_bool (right_no (i := 1) (by omega) hne).symm
  · have hpub := hF.at (i := 2) rfl
    have hptr := hF.ptr (by decide)
    have cc := c2
    have hne : okF m 2 = (bif mE m.kind then fEr m else fEn m) := rfl
    refine hd_split (c := mE m.kind) (fun hu => ?_) (fun hu => ?_)
    · rw [hu] at cc hne
      simp only [if_true, cond_true] at cc hne
      refine hd_split (c := fEr m) (fun hu2 => ?_) (fun hu2 => ?_)
      · rw [hu2] at hne
        repeat' (first | (refine is_cx ?_ (by rfl); first | (refine hd_cA (s := by exact mesg_fields _) (k := ?_); rintro _ h1 hle1 ⟨pF, cF, rfl, hF⟩)) | refine wMgC2 ?_ | refine wMgC3 ?_ | (refine is_cd ?_; first | refine hd_condA (fun _ => ?_) (fun _ => ?_)) | refine wMgC4 ?_ | refine wkB (fun _ => ?_) | refine wkC (fun _ _ => ?_) | exact tsA | (refine ts_step rfl (fun HF h1 hle => ?_)))
        exact hd_again 3 ⟨by omega, by simp only [okT, hne, Bool.and_true] at hT ⊢ <;> exact hT⟩ (by omega) (by exact aU) (fun w hw => inv_only (by exact aS) hw)
      · rw [hu2] at hne
        repeat' (first | (refine is_cx ?_ (by rfl); first | (refine hd_cA (s := by exact mesg_fields _) (k := ?_); rintro _ h1 hle1 ⟨pF, cF, rfl, hF⟩)) | refine wMgC2 ?_ | refine wMgC3 ?_ | (refine is_cd ?_; first | refine hd_condA (fun _ => ?_) (fun _ => ?_)) | refine wMgC4 ?_ | refine wkB (fun _ => ?_) | refine wkC (fun _ _ => ?_) | exact tsA | (refine ts_step rfl (fun HF h1 hle => ?_)))
        ((repeat (refine hd_undefer (by first | exact .inl rfl | exact .inr rfl) (by exact aP) ?_)); apply hd_res0; (focus (first | exact .inl rfl | exact .inr rfl)); rfl; exact aR)
        exact ret_bool (right_no (i := 2) (by omega) hne).symm
    · rw [hu] at cc hne
      simp only [Bool.false_eq_true, if_false, cond_false] at cc hne
      refine hd_split (c := fEn m) (fun hu2 => ?_) (fun hu2 => ?_)
      · rw [hu2] at hne
        repeat' (first | (refine is_cx ?_ (by rfl); first | (refine hd_cA (s := by exact mesg_fields _) (k := ?_); rintro _ h1 hle1 ⟨pF, cF, rfl, hF⟩)) | refine wMgC2 ?_ | refine wMgC3 ?_ | (refine is_cd ?_; first | refine hd_condA (fun _ => ?_) (fun _ => ?_)) | refine wMgC4 ?_ | refine wkB (fun _ => ?_) | refine wkC (fun _ _ => ?_) | exact tsA | (refine ts_step rfl (fun HF h1 hle => ?_)))
        exact hd_again 3 ⟨by omega, by simp only [okT, hne, Bool.and_true] at hT ⊢ <;> exact hT⟩ (by omega) (by exact aU) (fun w hw => inv_only (by exact aS) hw)
      · rw [hu2] at hne
        repeat' (first | (refine is_cx ?_ (by rfl); first | (refine hd_cA (s := by exact mesg_fields _) (k := ?_); rintro _ h1 hle1 ⟨pF, cF, rfl, hF⟩)) | refine wMgC2 ?_ | refine wMgC3 ?_ | (refine is_cd ?_; first | refine hd_condA (fun _ => ?_) (fun _ => ?_)) | refine wMgC4 ?_ | refine wkB (fun _ => ?_) | refine wkC (fun _ _ => ?_) | exact tsA | (refine ts_step rfl (fun HF h1 hle => ?_)))
        ((repeat (refine hd_undefer (by first | exact .inl rfl | exact .inr rfl) (by exact aP) ?_)); apply hd_res0; (focus (first | exact .inl rfl | exact .inr rfl)); rfl; exact aR)
        exact ret_bool (right_no (i := 2) (by omega) hne).symm
  · have hpub := hF.at (i := 3) rfl
    have hptr := hF.ptr (by decide)
    have cc := c3
    have hne : okF m 3 = (bif mH m.kind then true else decide (m.hops = 0)) := rfl
    refine hd_split (c := mH m.kind) (fun hu => ?_) (fun hu => ?_)
    · rw [hu] at cc hne
      simp only [if_true, cond_true] at cc hne
      refine hd_split (c := true) (fun hu2 => ?_) (fun hu2 => ?_)
      · rw [hu2] at hne
        repeat' (first | (refine is_cx ?_ (by rfl); first | (refine hd_cA (s := by exact mesg_fields _) (k := ?_); rintro _ h1 hle1 ⟨pF, cF, rfl, hF⟩)) | refine wMgC2 ?_ | refine wMgC3 ?_ | (refine is_cd ?_; first | refine hd_condA (fun _ => ?_) (fun _ => ?_)) | refine wMgC4 ?_ | refine wkB (fun _ => ?_) | refine wkC (fun _ _ => ?_) | exact tsA | (refine ts_step rfl (fun HF h1 hle => ?_)))
        exact hd_again 4 ⟨by omega, by simp only [okT, hne, Bool.and_true] at hT ⊢ <;> exact hT⟩ (by omega) (by exact aU) (fun w hw => inv_only (by exact aS) hw)
      · rw [hu2] at hne
        exact absurd hu2 (by simp)
        
        
    · rw [hu] at cc hne
      simp only [Bool.false_eq_true, if_false, cond_false] at cc hne
      refine hd_split (c := decide (m.hops = 0)) (fun hu2 => ?_) (fun hu2 => ?_)
      · rw [hu2] at hne
        repeat' (first | (refine is_cx ?_ (by rfl); first | (refine hd_cA (s := by exact mesg_fields _) (k := ?_); rintro _ h1 hle1 ⟨pF, cF, rfl, hF⟩)) | refine wMgC2 ?_ | refine wMgC3 ?_ | (refine is_cd ?_; first | refine hd_condA (fun _ => ?_) (fun _ => ?_)) | refine wMgC4 ?_ | refine wkB (fun _ => ?_) | refine wkC (fun _ _ => ?_) | exact tsA | (refine ts_step rfl (fun HF h1 hle => ?_)))
        exact hd_again 4 ⟨by omega, by simp only [okT, hne, Bool.and_true] at hT ⊢ <;> exact hT⟩ (by omega) (by exact aU) (fun w hw => inv_only (by exact aS) hw)
      · rw [hu2] at hne
        repeat' (first | (refine is_cx ?_ (by rfl); first | (refine hd_cA (s := by exact mesg_fields _) (k := ?_); rintro _ h1 hle1 ⟨pF, cF, rfl, hF⟩)) | refine wMgC2 ?_ | refine wMgC3 ?_ | (refine is_cd ?_; first | refine hd_condA (fun _ => ?_) (fun _ => ?_)) | refine wMgC4 ?_ | refine wkB (fun _ => ?_) | refine wkC (fun _ _ => ?_) | exact tsA | (refine ts_step rfl (fun HF h1 hle => ?_)))
        ((repeat (refine hd_undefer (by first | exact .inl rfl | exact .inr rfl) (by exact aP) ?_)); apply hd_res0; (focus (first | exact .inl rfl | exact .inr rfl)); rfl; exact aR)
        exact ret_bool (right_no (i := 3) (by omega) hne).symm
  · have hpub := hF.at (i := 4) rfl
    have hptr := hF.ptr (by decide)
    have cc := c4
    have hne : okF m 4 = (bif mO m.kind then fOr m else decide (m.origin = mk0)) := rfl
    refine hd_split (c := mO m.kind) (fun hu => ?_) (fun hu => ?_)
    · rw [hu] at cc hne
      simp only [if_true, cond_true] at cc hne
      refine hd_split (c := fOr m) (fun hu2 => ?_) (fun hu2 => ?_)
      · rw [hu2] at hne
        repeat' (first | (refine is_cx ?_ (by rfl); first | (refine hd_cA (s := by exact mesg_fields _) (k := ?_); rintro _ h1 hle1 ⟨pF, cF, rfl, hF⟩)) | refine wMgC2 ?_ | refine wMgC3 ?_ | (refine is_cd ?_; first | refine hd_condA (fun _ => ?_) (fun _ => ?_)) | refine wMgC4 ?_ | refine wkB (fun _ => ?_) | refine wkC (fun _ _ => ?_) | exact tsA | (refine ts_step rfl (fun HF h1 hle => ?_)))
        exact hd_again 5 ⟨by omega, by simp only [okT, hne, Bool.and_true] at hT ⊢ <;> exact hT⟩ (by omega) (by exact aU) (fun w hw => inv_only (by exact aS) hw)
      · rw [hu2] at hne
        repeat' (first | (refine is_cx ?_ (by rfl); first | (refine hd_cA (s := by exact mesg_fields _) (k := ?_); rintro _ h1 hle1 ⟨pF, cF, rfl, hF⟩)) | refine wMgC2 ?_ | refine wMgC3 ?_ | (refine is_cd ?_; first | refine hd_condA (fun _ => ?_) (fun _ => ?_)) | refine wMgC4 ?_ | refine wkB (fun _ => ?_) | refine wkC (fun _ _ => ?_) | exact tsA | (refine ts_step rfl (fun HF h1 hle => ?_)))
        ((repeat (refine hd_undefer (by first | exact .inl rfl | exact .inr rfl) (by exact aP) ?_)); apply hd_res0; (focus (first | exact .inl rfl | exact .inr rfl)); rfl; exact aR)
        exact ret_bool (right_no (i := 4) (by omega) hne).symm
    · rw [hu] at cc hne
      simp only [Bool.false_eq_true, if_false, cond_false] at cc hne
      refine hd_split (c := decide (m.origin = mk0)) (fun hu2 => ?_) (fun hu2 => ?_)
      · rw [hu2] at hne
        repeat' (first | (refine is_cx ?_ (by rfl); first | (refine hd_cA (s := by exact mesg_fields _) (k := ?_); rintro _ h1 hle1 ⟨pF, cF, rfl, hF⟩)) | refine wMgC2 ?_ | refine wMgC3 ?_ | (refine is_cd ?_; first | refine hd_condA (fun _ => ?_) (fun _ => ?_)) | refine wMgC4 ?_ | refine wkB (fun _ => ?_) | refine wkC (fun _ _ => ?_) | exact tsA | (refine ts_step rfl (fun HF h1 hle => ?_)))
        exact hd_again 5 ⟨by omega, by simp only [okT, hne, Bool.and_true] at hT ⊢ <;> exact hT⟩ (by omega) (by exact aU) (fun w hw => inv_only (by exact aS) hw)
      · rw [hu2] at hne
        repeat' (first | (refine is_cx ?_ (by rfl); first | (refine hd_cA (s := by exact mesg_fields _) (k := ?_); rintro _ h1 hle1 ⟨pF, cF, rfl, hF⟩)) | refine wMgC2 ?_ | refine wMgC3 ?_ | (refine is_cd ?_; first | refine hd_condA (fun _ => ?_) (fun _ => ?_)) | refine wMgC4 ?_ | refine wkB (fun _ => ?_) | refine wkC (fun _ _ => ?_) | exact tsA | (refine ts_step rfl (fun HF h1 hle => ?_)))
        ((repeat (refine hd_undefer (by first | exact .inl rfl | exact .inr rfl) (by exact aP) ?_)); apply hd_res0; (focus (first | exact .inl rfl | exact .inr rfl)); rfl; exact aR)
        exact ret_bool (right_no (i := 4) (by omega) hne).symm
  · have hpub := hF.at (i := 5) rfl
    have hptr := hF.ptr (by decide)
    have cc := c5
    have hne : okF m 5 = (bif mO m.kind then fMr m else decide (m.marks.length = 0)) := rfl
    refine hd_split (c := mO m.kind) (fun hu => ?_) (fun hu => ?_)
    · rw [hu] at cc hne
      simp only [if_true, cond_true] at cc hne
      refine hd_split (c := fMr m) (fun hu2 => ?_) (fun hu2 => ?_)
      · rw [hu2] at hne
        repeat' (first | (refine is_cx ?_ (by rfl); first | (refine hd_cA (s := by exact mesg_fields _) (k := ?_); rintro _ h1 hle1 ⟨pF, cF, rfl, hF⟩)) | refine wMgC2 ?_ | refine wMgC3 ?_ | (refine is_cd ?_; first | refine hd_condA (fun _ => ?_) (fun _ => ?_)) | refine wMgC4 ?_ | refine wkB (fun _ => ?_) | refine wkC (fun _ _ => ?_) | exact tsA | (refine ts_step rfl (fun HF h1 hle => ?_)))
        exact hd_again 6 ⟨by omega, by simp only [okT, hne, Bool.and_true] at hT ⊢ <;> exact hT⟩ (by omega) (by exact aU) (fun w hw => inv_only (by exact aS) hw)
      · rw [hu2] at hne
        repeat' (first | (refine is_cx ?_ (by rfl); first | (refine hd_cA (s := by exact mesg_fields _) (k := ?_); rintro _ h1 hle1 ⟨pF, cF, rfl, hF⟩)) | refine wMgC2 ?_ | refine wMgC3 ?_ | (refine is_cd ?_; first | refine hd_condA (fun _ => ?_) (fun _ => ?_)) | refine wMgC4 ?_ | refine wkB (fun _ => ?_) | refine wkC (fun _ _ => ?_) | exact tsA | (refine ts_step rfl (fun HF h1 hle => ?_)))
        ((repeat (refine hd_undefer (by first | exact .inl rfl | exact .inr rfl) (by exact aP) ?_)); apply hd_res0; (focus (first | exact .inl rfl | exact .inr rfl)); rfl; exact aR)
        exact ret_bool (right_no (i := 5) (by omega) hne).symm
    · rw [hu] at cc hne
      simp only [Bool.false_eq_true, if_false, cond_false] at cc hne
      refine hd_split (c := decide (m.marks.length = 0)) (fun hu2 => ?_) (fun hu2 => ?_)
      · rw [hu2] at hne
        repeat' (first | (refine is_cx ?_ (by rfl); first | (refine hd_cA (s := by exact mesg_fields _) (k := ?_); rintro _ h1 hle1 ⟨pF, cF, rfl, hF⟩)) | refine wMgC2 ?_ | refine wMgC3 ?_ | (refine is_cd ?_; first | refine hd_condA (fun _ => ?_) (fun _ => ?_)) | refine wMgC4 ?_ | refine wkB (fun _ => ?_) | refine wkC (fun _ _ => ?_) | exact tsA | (refine ts_step rfl (fun HF h1 hle => ?_)))
        exact hd_again 6 ⟨by omega, by simp only [okT, hne, Bool.and_true] at hT ⊢ <;> exact hT⟩ (by omega) (by exact aU) (fun w hw => inv_only (by exact aS) hw)
      · rw [hu2] at hne
        repeat' (first | (refine is_cx ?_ (by rfl); first | (refine hd_cA (s := by exact mesg_fields _) (k := ?_); rintro _ h1 hle1 ⟨pF, cF, rfl, hF⟩)) | refine wMgC2 ?_ | refine wMgC3 ?_ | (refine is_cd ?_; first | refine hd_condA (fun _ => ?_) (fun _ => ?_)) | refine wMgC4 ?_ | refine wkB (fun _ => ?_) | refine wkC (fun _ _ => ?_) | exact tsA | (refine ts_step rfl (fun HF h1 hle => ?_)))
        ((repeat (refine hd_undefer (by first | exact .inl rfl | exact .inr rfl) (by exact aP) ?_)); apply hd_res0; (focus (first | exact .inl rfl | exact .inr rfl)); rfl; exact aR)
        exact ret_bool (right_no (i := 5) (by omega) hne).symm
  · have hpub := hF.at (i := 6) rfl
    have hptr := hF.ptr (by decide)
    have cc := c6
    have hne : okF m 6 = (bif mJ m.kind then fIr m else decide (m.ids.length = 0)) := rfl
    refine hd_split (c := mJ m.kind) (fun hu => ?_) (fun hu => ?_)
    · rw [hu] at cc hne
      simp only [if_true, cond_true] at cc hne
      refine hd_split (c := fIr m) (fun hu2 => ?_) (fun hu2 => ?_)
      · rw [hu2] at hne
        repeat' (first | (refine is_cx ?_ (by rfl); first | (refine hd_cA (s := by exact mesg_fields _) (k := ?_); rintro _ h1 hle1 ⟨pF, cF, rfl, hF⟩)) | refine wMgC2 ?_ | refine wMgC3 ?_ | (refine is_cd ?_; first | refine hd_condA (fun _ => ?_) (fun _ => ?_)) | refine wMgC4 ?_ | refine wkB (fun _ => ?_) | refine wkC (fun _ _ => ?_) | exact tsA | (refine ts_step rfl (fun HF h1 hle => ?_)))
        exact hd_again 7 ⟨by omega, by simp only [okT, hne, Bool.and_true] at hT ⊢ <;> exact hT⟩ (by omega) (by exact aU) (fun w hw => inv_only (by exact aS) hw)
      · rw [hu2] at hne
        repeat' (first | (refine is_cx ?_ (by rfl); first | (refine hd_cA (s := by exact mesg_fields _) (k := ?_); rintro _ h1 hle1 ⟨pF, cF, rfl, hF⟩)) | refine wMgC2 ?_ | refine wMgC3 ?_ | (refine is_cd ?_; first | refine hd_condA (fun _ => ?_) (fun _ => ?_)) | refine wMgC4 ?_ | refine wkB (fun _ => ?_) | refine wkC (fun _ _ => ?_) | exact tsA | (refine ts_step rfl (fun HF h1 hle => ?_)))
        ((repeat (refine hd_undefer (by first | exact .inl rfl | exact .inr rfl) (by exact aP) ?_)); apply hd_res0; (focus (first | exact .inl rfl | exact .inr rfl)); rfl; exact aR)
        exact ret_bool (right_no (i := 6) (by omega) hne).symm
    · rw [hu] at cc hne
      simp only [Bool.false_eq_true, if_false, cond_false] at cc hne
      refine hd_split (c := decide (m.ids.length = 0)) (fun hu2 => ?_) (fun hu2 => ?_)
      · rw [hu2] at hne
        repeat' (first | (refine is_cx ?_ (by rfl); first | (refine hd_cA (s := by exact mesg_fields _) (k := ?_); rintro _ h1 hle1 ⟨pF, cF, rfl, hF⟩)) | refine wMgC2 ?_ | refine wMgC3 ?_ | (refine is_cd ?_; first | refine hd_condA (fun _ => ?_) (fun _ => ?_)) | refine wMgC4 ?_ | refine wkB (fun _ => ?_) | refine wkC (fun _ _ => ?_) | exact tsA | (refine ts_step rfl (fun HF h1 hle => ?_)))
        exact hd_again 7 ⟨by omega, by simp only [okT, hne, Bool.and_true] at hT ⊢ <;> exact hT⟩ (by omega) (by exact aU) (fun w hw => inv_only (by exact aS) hw)
      · rw [hu2] at hne
        repeat' (first | (refine is_cx ?_ (by rfl); first | (refine hd_cA (s := by exact mesg_fields _) (k := ?_); rintro _ h1 hle1 ⟨pF, cF, rfl, hF⟩)) | refine wMgC2 ?_ | refine wMgC3 ?_ | (refine is_cd ?_; first | refine hd_condA (fun _ => ?_) (fun _ => ?_)) | refine wMgC4 ?_ | refine wkB (fun _ => ?_) | refine wkC (fun _ _ => ?_) | exact tsA | (refine ts_step rfl (fun HF h1 hle => ?_)))
        ((repeat (refine hd_undefer (by first | exact .inl rfl | exact .inr rfl) (by exact aP) ?_)); apply hd_res0; (focus (first | exact .inl rfl | exact .inr rfl)); rfl; exact aR)
        exact ret_bool (right_no (i := 6) (by omega) hne).symm
  · repeat' (first | (refine is_cx ?_ (by rfl); first | (refine hd_cA (s := by exact mesg_fields _) (k := ?_); rintro _ h1 hle1 ⟨pF, cF, rfl, hF⟩)) | refine wMgC2 ?_ | refine wMgC3 ?_ | (refine is_cd ?_; first | refine hd_condA (fun _ => ?_) (fun _ => ?_)) | refine wMgC4 ?_ | refine wkB (fun _ => ?_) | refine wkC (fun _ _ => ?_) | exact tsA | (refine ts_step rfl (fun HF h1 hle => ?_)))
    ((repeat (refine hd_undefer (by first | exact .inl rfl | exact .inr rfl) (by exact aP) ?_)); apply hd_res0; (focus (first | exact .inl rfl | exact .inr rfl)); rfl; exact aR)
    exact ret_bool (right_yes hh hT).symm
end Go.Proofs.YtmpfeaoofkkhjaaGreat
