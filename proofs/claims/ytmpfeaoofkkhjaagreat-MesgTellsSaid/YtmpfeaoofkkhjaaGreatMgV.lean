/- What package mesg reads: texts and events. -/
import Derived.Test.YtmpfeaoofkkhjaaGreatMgU
namespace Go.Proofs.YtmpfeaoofkkhjaaGreat
open Go Go.GV
attribute [local irreducible] cw Go.GV.SpecM Go.GV.wpList Exit.then Exit.inBlock Go.GV.bodyPost wpPl wpPm wpPn TS rnd rPost YieldsB wpPT ptK
set_option maxRecDepth 10000
set_option maxHeartbeats 8000000
set_option linter.unusedVariables false
set_option linter.unusedSimpArgs false
theorem rds_text {rem : List Int} (h : tkOk rem 65535 = true) : Rds (some rem) (rdText true) (some (tkR rem 65535)) (tkT rem 65535) := by
  have e : rdText true rem = some (tkT rem 65535, tkR rem 65535) := by simp [rdText, h]
  exact ⟨by simp [e], fun y r hy => by simp [e] at hy; exact hy.1.symm⟩
theorem rds_textN {rem : List Int} (h : tkOk rem 65535 = false) : Rds (some rem) (rdText true) none [] := by
  have e : rdText true rem = none := by simp [rdText, h]
  exact ⟨by simp [e], fun y r hy => by simp [e] at hy⟩
theorem tk_len {b : List Int} (h : tkOk b 65535 = true) : (tkT b 65535).length ≤ 65535 ∧ (tkR b 65535).length ≤ b.length := by
  have h' := h
  simp only [tkOk, Bool.and_eq_true, decide_eq_true_eq] at h'
  have hl : (tkT b 65535).length = (two b).toNat := by
    simp only [tkT, h, if_true, List.length_take, List.length_drop]; omega
  refine ⟨by omega, ?_⟩
  simp only [tkR, h, if_true, List.length_drop]
  omega

theorem pvMgV1 {A : Prop} (h : A := by (first | rfl | assumption | (rw [hu]; rfl) | (simp only [decide_eq_true_eq, decide_eq_false_iff_not, beq_eq_false_iff_ne, beq_iff_eq]; omega) | fail)) : A := h
theorem nvMgV1 {A : Prop} (h : A := by (first | decide | (rw [hu]; decide) | fail)) : A := h
theorem zMgV1 {A : Prop} (h : A := by ((first | (apply OK.plain; rfl; apply OD.of) | (apply OKp.plain; rfl)); (first | (apply od_pickX; exact aX; exact pvMgV1; exact aX) | (apply od_pickY; exact aX; exact pvMgV1; exact aX)))) : A := h
theorem zMgV2 {A : Prop} (h : A := by ((first | (apply OK.plain; rfl) | (apply OK.guarded; rfl; rfl; (intro hg; (try have hk := hg.2); (try have hl := hg.2.2); (try have hm := hg.2.2.2)))); (first | (apply od_call; exact aX; infer_instance; exact aE; exact aN; (focus (first | fail))) ))) : A := h
theorem wMgV1 {A B : Prop} (k : B) (h : Kx B → A := by intro k; (first | (refine is_pu ?_ (by rfl); first | (apply hd_gon; rfl; rfl; (focus (constructor; exact pvMgV1; trivial))) | (apply hd_goff; rfl; rfl; (focus exact fun hs => absurd hs.1 (by exact nvMgV1)); rfl) | (apply hd_gundef; rfl; rfl; rfl) | refine hd_opAB ?_ | ((first | apply hd_ok | apply ch_ok | (apply hd_pn_run; rfl; exact aM)); (focus ((first | (apply OK.plain; rfl; apply OD.of) | (apply OKp.plain; rfl)); (first | (apply od_nil; exact aX)))); rfl; rfl) | ((first | apply hd_ok | apply ch_ok | (apply hd_pn_run; rfl; exact aM)); (focus exact zMgV1); rfl; rfl)) | (refine is_pn ?_; first | refine hd_pn_nil ?_ | refine hd_pnAB ?_ | ((first | apply hd_ok | apply ch_ok | (apply hd_pn_run; rfl; exact aM)); (focus ((first | (apply OK.plain; rfl; apply OD.of) | (apply OKp.plain; rfl)); (first | (apply od_nil; exact aX)))); rfl; rfl) | ((first | apply hd_ok | apply ch_ok | (apply hd_pn_run; rfl; exact aM)); (focus exact zMgV1); rfl; rfl) | (refine hd_pn_op rfl ?_)) | (refine is_co ?_; first | (apply hd_gon; rfl; rfl; (focus (constructor; exact pvMgV1; trivial))) | (apply hd_goff; rfl; rfl; (focus exact fun hs => absurd hs.1 (by exact nvMgV1)); rfl) | (apply hd_gundef; rfl; rfl; rfl) | ((first | apply hd_ok | apply ch_ok); (focus exact zMgV2); rfl; rfl) | refine hd_storeA ?_ | refine hd_copyA ?_) | (refine is_ni ?_; first | (refine is_on ?_; first | refine pn_barA ?_ | refine pn_goA ?_ | refine pt_goA ?_ | refine ts_onA ?_) | refine hd_nil ?_) | refine wkA ?_ | (refine is_ch ?_; refine ch_opAB ?_) | ((first | apply hd_ok | apply ch_ok); (focus exact zMgV2); rfl; rfl) | ((first | apply hd_ok | apply ch_ok | (apply hd_pn_run; rfl; exact aM)); (focus ((first | (apply OK.plain; rfl; apply OD.of) | (apply OKp.plain; rfl)); (first | (apply od_nil; exact aX)))); rfl; rfl) | ((first | apply hd_ok | apply ch_ok | (apply hd_pn_run; rfl; exact aM)); (focus exact zMgV1); rfl; rfl)); exact k.go) : A := h ⟨k⟩
theorem wMgV2 {A B : Prop} (k : B) (h : Kx B → A := by intro k; ((refine is_cw ?_; refine is_rg ?_; first | refine hd_draw follows_any (by decide +kernel) ?_)); exact k.go) : A := h ⟨k⟩
theorem wMgV3 {A B : Prop} (k : B) (h : Kx B → A := by intro k; ((refine is_cw ?_; refine is_cd ?_; first | (refine hd_condT (by exact aX) (by exact pvMgV1) ?_) | (refine hd_condF (by exact aX) (by exact pvMgV1) ?_))); exact k.go) : A := h ⟨k⟩
theorem src_text {b : Nat} {p : Option Addr} {n c : Nat} {rem : List Int} {sh : Bool} (h : PH) (hs : Bs h p n c rem) (hn : n ≤ 60000) : SpecM Tryz.prog 150 #[.pointer (some ⟨b, 0, none⟩)] h [srcB b p n c sh] fun v h' Ho => ∃ (x : List Int) (p' : Option Addr) (n' c' : Nat), v = .slice p' n' c' ∧ Bs (PH.new h h') p' n' c' x ∧ x.length ≤ 65535 ∧ TkP h' b n (so sh rem) (rdText true) x Ho := by
  have hl := hs.len
  have hcap := hs.cap
  have hu := True.intro
  refine spec_enter (args := [_]) Tryz.func150 rfl Tryz.ntmps150 rfl (fun w l => ?_)
  cases sh with
  | true =>
    repeat' (first | (refine is_cx ?_ (by rfl); first | (refine hd_cnA (s := by exact wire_TakeText _ _ hs (by omega)) (k := ?_); rintro _ h1 _ hle1 ⟨p1, m1, c1, q1, j1, d1, rfl, hm1, hj1, rfl⟩)) | refine wMgV2 ?_ | refine wMgV3 ?_ | (refine is_cd ?_; first | refine hd_condA (fun _ => ?_) (fun _ => ?_)) | refine wMgV1 ?_ | refine wkB (fun _ => ?_) | refine wkC (fun _ _ => ?_) | exact tsA | (refine ts_step rfl (fun HF h1 hle => ?_)))
    (apply hd_resS (Hi := [srcB b p n c true]); (focus (first | exact .inl rfl | exact .inr rfl)); rfl; exact aR; exact aS)
    exact ⟨[], none, 0, 0, rfl, SlR.nil _ _, by simp, p, n, c, rem, true, rfl, hs, Nat.le_refl _, Rds.none_ _ _⟩
  | false =>
    refine hd_split (c := tkOk rem 65535) (fun hu => ?_) (fun hu => ?_)
    · have htl := tk_len hu
      repeat' (first | (refine is_cx ?_ (by rfl); first | (refine hd_cnA (s := by exact wire_TakeText _ _ hs (by omega)) (k := ?_); rintro _ h1 _ hle1 ⟨p1, m1, c1, q1, j1, d1, rfl, hm1, hj1, rfl⟩)) | refine wMgV2 ?_ | refine wMgV3 ?_ | (refine is_cd ?_; first | refine hd_condA (fun _ => ?_) (fun _ => ?_)) | refine wMgV1 ?_ | refine wkB (fun _ => ?_) | refine wkC (fun _ _ => ?_) | exact tsA | (refine ts_step rfl (fun HF h1 hle => ?_)))
      refine hd_pubI (k := .u8) (p := q1) (tkR rem 65535) (by exact aP) rfl (tkR_b8 hs.b8 _) hj1.symm (by omega) (fun h2 hle2 hr2 => ?_)
      refine hd_pubN (r := rInt .u8) (hb := h) (p := p1) (PH.le_trans hle1 hle2) (elI .u8 (tkT rem 65535)) (tkT rem 65535) (by exact aP) (elI_flat _ _).symm (All2.of_map fun x hx => ⟨rfl, tkT_b8 hs.b8 _ x hx⟩) hm1.symm (by omega) (fun h3 hle3 ht3 => ?_)
      (apply hd_resS (Hi := [srcB b q1 j1 d1 false]); (focus (first | exact .inl rfl | exact .inr rfl)); rfl; exact aR; exact aS)
      exact ⟨_, _, _, _, rfl, ht3, htl.1, q1, j1, d1, _, false, rfl, hr2.mono hle3, by omega, rds_text hu⟩
    · repeat' (first | (refine is_cx ?_ (by rfl); first | (refine hd_cnA (s := by exact wire_TakeText _ _ hs (by omega)) (k := ?_); rintro _ h1 _ hle1 ⟨p1, m1, c1, q1, j1, d1, rfl, hm1, hj1, rfl⟩)) | refine wMgV2 ?_ | refine wMgV3 ?_ | (refine is_cd ?_; first | refine hd_condA (fun _ => ?_) (fun _ => ?_)) | refine wMgV1 ?_ | refine wkB (fun _ => ?_) | refine wkC (fun _ _ => ?_) | exact tsA | (refine ts_step rfl (fun HF h1 hle => ?_)))
      (apply hd_resS (Hi := [srcB b p n c true]); (focus (first | exact .inl rfl | exact .inr rfl)); rfl; exact aR; exact aS)
      exact ⟨[], none, 0, 0, rfl, SlR.nil _ _, by simp, p, n, c, rem, true, rfl, hs.mono hle1, Nat.le_refl _, rds_textN hu⟩
theorem take_Event {b : Nat} {p : Option Addr} {n c : Nat} {rem : List Int} {sh : Bool} (h : PH) (hs : Bs h p n c rem) (hn : n ≤ 60000) : SpecM Tryz.prog 91 #[.pointer (some ⟨b, 0, none⟩)] h [srcB b p n c sh] fun v h' Ho => ∃ (x : EvD) (pv : Option Addr) (nv cv : Nat) (pd : Option Addr) (nd cd : Nat), v = .agg #[.int .u8 x.1.1, .int .u16 x.1.2.1, .int .u32 x.1.2.2, .slice pv nv cv, .slice pd nd cd] ∧ SlV (PH.new h h') pv nv cv x.2.1 ∧ SlB (PH.new h h') pd nd cd x.2.2 ∧ MkR x.1 ∧ TkP h' b n (so sh rem) pEv x Ho := by
  refine spec_enter (args := [_]) Tryz.func91 rfl Tryz.ntmps91 rfl (fun w l => ?_)
  repeat' (first | (refine is_cx ?_ (by rfl); first | (refine hd_cmA (Hi := [srcB _ _ _ _ _]) (s := by exact take_ID _ (by (first | assumption | exact Bs.mono (by assumption) (by exact aL))) (by omega)) (k := ?_); rintro _ h1 _ hle1 ⟨x1, rfl, hr1, p1, n1, c1, rem1, sh1, rfl, hs1, hn1, R1⟩) | (refine hd_cmA (Hi := [srcB _ _ _ _ _]) (s := by exact takeAll_Val _ (by (first | assumption | exact Bs.mono (by assumption) (by exact aL))) (by omega)) (k := ?_); rintro _ h2 _ hle2 ⟨vs, pv, nv, cv, rfl, hV, hvl, p2, n2, c2, rem2, sh2, rfl, hs2, hn2, R2⟩) | (refine hd_cmA (Hi := [srcB _ _ _ _ _]) (s := by exact src_text _ (by (first | assumption | exact Bs.mono (by assumption) (by exact aL))) (by omega)) (k := ?_); rintro _ h3 _ hle3 ⟨ds, pd, nd, cd, rfl, hD, hdl, p3, n3, c3, rem3, sh3, rfl, hs3, hn3, R3⟩)) | refine wMgV2 ?_ | refine wMgV3 ?_ | (refine is_cd ?_; first | refine hd_condA (fun _ => ?_) (fun _ => ?_)) | refine wMgV1 ?_ | refine wkB (fun _ => ?_) | refine wkC (fun _ _ => ?_) | exact tsA | (refine ts_step rfl (fun HF h1 hle => ?_)))
  (apply hd_resS (Hi := [srcB b p3 n3 c3 sh3]); (focus (first | exact .inl rfl | exact .inr rfl)); rfl; exact aR; exact aS)
  exact ⟨(x1, vs, ds), _, _, _, _, _, _, rfl, (hV.mono (PH.new_back hle1)).mono (PH.new_mono hle3), hD.mono (PH.new_back (PH.le_trans hle1 hle2)), hr1, _, _, _, _, _, rfl, hs3, by omega, R1.bind (R2.bind (R3.bind (Rds.pu _ _)))⟩
end Go.Proofs.YtmpfeaoofkkhjaaGreat
