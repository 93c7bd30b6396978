/- Which messages are right. Printed by gen_mgb.py. -/
import Derived.Test.YtmpfeaoofkkhjaaGreatMgA
namespace Go.Proofs.YtmpfeaoofkkhjaaGreat
open Go Go.GV
attribute [local irreducible] cw Go.GV.SpecM Go.GV.wpList Exit.then Exit.inBlock Go.GV.bodyPost wpPl wpPm wpPn TS rnd rPost YieldsB wpPT ptK
set_option maxRecDepth 10000
set_option maxHeartbeats 8000000
set_option linter.unusedVariables false
set_option linter.unusedSimpArgs false
theorem id_eq {a b : Mk} : eqL [.int .u8 a.1, .int .u16 a.2.1, .int .u32 a.2.2] [.int .u8 b.1, .int .u16 b.2.1, .int .u32 b.2.2] = decide (a = b) := by
  obtain ⟨a1, a2, a3⟩ := a
  obtain ⟨b1, b2, b3⟩ := b
  rw [Bool.eq_iff_iff]; simp [eqL, eqV, and_assoc]
theorem id_eq0 {a : Mk} : eqL [.int .u8 a.1, .int .u16 a.2.1, .int .u32 a.2.2] [.int .u8 0, .int .u16 0, .int .u32 0] = decide (a = mk0) := id_eq (b := mk0)
theorem le_nat {n k : Nat} : decide ((n : Int) ≤ (k : Int)) = decide (n ≤ k) := decide_eq_decide.2 (by omega)
theorem eq_nat {n : Nat} : ((n : Int) == 0) = decide (n = 0) := by rw [Bool.eq_iff_iff]; simp

theorem pvMgB1 {A : Prop} (h : A := by (first | rfl | assumption | (rw [hu]; rfl) | (simp only [decide_eq_true_eq, decide_eq_false_iff_not]; omega) | fail)) : A := h
theorem nvMgB1 {A : Prop} (h : A := by (first | decide | fail)) : A := h
theorem zMgB8 {A : Prop} (h : A := by ((first | (apply OK.plain; rfl) | (apply OK.guarded; rfl; rfl; (intro hg; (try have hk := hg.2); (try have hl := hg.2.2); (try have hm := hg.2.2.2)))); (first | (apply od_call; exact aX; infer_instance; exact aE; exact aN; (focus (first | exact atm_D _ hv.list))) ))) : A := h
theorem wMgB1 {A B : Prop} (k : B) (h : Kx B → A := by intro k; (first | (refine is_pu ?_ (by rfl); first | refine hd_opAB ?_) | (refine is_pn ?_; first | refine hd_pn_nil ?_ | refine hd_pnAB ?_ | (refine hd_pn_op rfl ?_)) | (refine is_co ?_; first | ((first | apply hd_ok | apply ch_ok); (focus exact zMgB8); rfl; rfl) | refine hd_storeA ?_ | refine hd_copyA ?_ | refine hd_storeRA ?_) | (refine is_ni ?_; first | (refine is_on ?_; first | refine pn_barA ?_ | refine pn_goA ?_ | refine pt_goA ?_ | refine ts_onA ?_) | refine hd_nil ?_) | refine wkA ?_ | (refine is_ch ?_; refine ch_opAB ?_) | ((first | apply hd_ok | apply ch_ok); (focus exact zMgB8); rfl; rfl)); exact k.go) : A := h ⟨k⟩
theorem wMgB2 {A B : Prop} (k : B) (h : Kx B → A := by intro k; ((refine is_cw ?_; refine is_rg ?_; first | refine hd_draw follows_any (by decide +kernel) ?_)); exact k.go) : A := h ⟨k⟩
theorem wMgB3 {A B : Prop} (k : B) (h : Kx B → A := by intro k; ((refine is_cw ?_; refine is_cd ?_; first | (refine hd_condT (by exact aX) (by exact pvMgB1) ?_) | (refine hd_condF (by exact aX) (by exact pvMgB1) ?_))); exact k.go) : A := h ⟨k⟩
theorem list_3 {m : MsD} {a : MsP} (h : PH) (hv : VMsP h a m) : Det Tryz.prog 69 #[.agg #[.int .u8 m.kind, .int .u8 m.frm, .int .u16 m.inc, .int .u8 m.to_, .slice a.pl a.nl a.cl, .slice a.pt a.nt a.ct, .int .u8 m.ev.1.1, .int .u16 m.ev.1.2.1, .int .u32 m.ev.1.2.2, .slice a.pv a.nv a.cv, .slice a.pd a.nd a.cd, .int .u8 m.hops, .int .u8 m.origin.1, .int .u16 m.origin.2.1, .int .u32 m.origin.2.2, .slice a.pm a.nm a.cm, .slice a.pi a.ni a.ci]] h (.bool (fLr m)) := by
  refine spec_enter (args := [_]) Tryz.func69 rfl Tryz.ntmps69 rfl (fun w l => ?_)
  repeat' (first | refine wMgB2 ?_ | refine wMgB3 ?_ | (refine is_cd ?_; first | refine hd_condA (fun _ => ?_) (fun _ => ?_)) | refine wMgB1 ?_ | refine wkB (fun _ => ?_) | refine wkC (fun _ _ => ?_) | exact tsA | (refine ts_step rfl (fun HF h1 hle => ?_)))
  all_goals ((repeat (refine hd_undefer (by first | exact .inl rfl | exact .inr rfl) (by exact aP) ?_)); apply hd_res0; (focus (first | exact .inl rfl | exact .inr rfl)); rfl; exact aR)
  all_goals exact ret_bool (by have e := hv.list.len; rw [← e]; simp only [fLr]; exact congrArg (· && _) (le_nat (k := 64)))
theorem zMgB6 {A : Prop} (h : A := by ((first | (apply OK.plain; rfl) | (apply OK.guarded; rfl; rfl; (intro hg; (try have hk := hg.2); (try have hl := hg.2.2); (try have hm := hg.2.2.2)))); (first | (apply od_call; exact aX; infer_instance; exact aE; exact aN; (focus (first | exact atm_M _ hv.table))) ))) : A := h
theorem wMgB4 {A B : Prop} (k : B) (h : Kx B → A := by intro k; (first | (refine is_pu ?_ (by rfl); first | refine hd_opAB ?_) | (refine is_pn ?_; first | refine hd_pn_nil ?_ | refine hd_pnAB ?_ | (refine hd_pn_op rfl ?_)) | (refine is_co ?_; first | ((first | apply hd_ok | apply ch_ok); (focus exact zMgB6); rfl; rfl) | refine hd_storeA ?_ | refine hd_copyA ?_ | refine hd_storeRA ?_) | (refine is_ni ?_; first | (refine is_on ?_; first | refine pn_barA ?_ | refine pn_goA ?_ | refine pt_goA ?_ | refine ts_onA ?_) | refine hd_nil ?_) | refine wkA ?_ | (refine is_ch ?_; refine ch_opAB ?_) | ((first | apply hd_ok | apply ch_ok); (focus exact zMgB6); rfl; rfl)); exact k.go) : A := h ⟨k⟩
theorem table_3 {m : MsD} {a : MsP} (h : PH) (hv : VMsP h a m) : Det Tryz.prog 82 #[.agg #[.int .u8 m.kind, .int .u8 m.frm, .int .u16 m.inc, .int .u8 m.to_, .slice a.pl a.nl a.cl, .slice a.pt a.nt a.ct, .int .u8 m.ev.1.1, .int .u16 m.ev.1.2.1, .int .u32 m.ev.1.2.2, .slice a.pv a.nv a.cv, .slice a.pd a.nd a.cd, .int .u8 m.hops, .int .u8 m.origin.1, .int .u16 m.origin.2.1, .int .u32 m.origin.2.2, .slice a.pm a.nm a.cm, .slice a.pi a.ni a.ci]] h (.bool (fTr m)) := by
  refine spec_enter (args := [_]) Tryz.func82 rfl Tryz.ntmps82 rfl (fun w l => ?_)
  repeat' (first | refine wMgB2 ?_ | refine wMgB3 ?_ | (refine is_cd ?_; first | refine hd_condA (fun _ => ?_) (fun _ => ?_)) | refine wMgB4 ?_ | refine wkB (fun _ => ?_) | refine wkC (fun _ _ => ?_) | exact tsA | (refine ts_step rfl (fun HF h1 hle => ?_)))
  all_goals ((repeat (refine hd_undefer (by first | exact .inl rfl | exact .inr rfl) (by exact aP) ?_)); apply hd_res0; (focus (first | exact .inl rfl | exact .inr rfl)); rfl; exact aR)
  all_goals exact ret_bool (by have e := hv.table.len; rw [← e]; simp only [fTr]; exact congrArg (· && _) (le_nat (k := 12)))
theorem zMgB7 {A : Prop} (h : A := by ((first | (apply OK.plain; rfl) | (apply OK.guarded; rfl; rfl; (intro hg; (try have hk := hg.2); (try have hl := hg.2.2); (try have hm := hg.2.2.2)))); (first | (apply od_call; exact aX; infer_instance; exact aE; exact aN; (focus (first | exact atm_K _ hv.marks))) ))) : A := h
theorem wMgB5 {A B : Prop} (k : B) (h : Kx B → A := by intro k; (first | (refine is_pu ?_ (by rfl); first | refine hd_opAB ?_) | (refine is_pn ?_; first | refine hd_pn_nil ?_ | refine hd_pnAB ?_ | (refine hd_pn_op rfl ?_)) | (refine is_co ?_; first | ((first | apply hd_ok | apply ch_ok); (focus exact zMgB7); rfl; rfl) | refine hd_storeA ?_ | refine hd_copyA ?_ | refine hd_storeRA ?_) | (refine is_ni ?_; first | (refine is_on ?_; first | refine pn_barA ?_ | refine pn_goA ?_ | refine pt_goA ?_ | refine ts_onA ?_) | refine hd_nil ?_) | refine wkA ?_ | (refine is_ch ?_; refine ch_opAB ?_) | ((first | apply hd_ok | apply ch_ok); (focus exact zMgB7); rfl; rfl)); exact k.go) : A := h ⟨k⟩
theorem marks_3 {m : MsD} {a : MsP} (h : PH) (hv : VMsP h a m) : Det Tryz.prog 115 #[.agg #[.int .u8 m.kind, .int .u8 m.frm, .int .u16 m.inc, .int .u8 m.to_, .slice a.pl a.nl a.cl, .slice a.pt a.nt a.ct, .int .u8 m.ev.1.1, .int .u16 m.ev.1.2.1, .int .u32 m.ev.1.2.2, .slice a.pv a.nv a.cv, .slice a.pd a.nd a.cd, .int .u8 m.hops, .int .u8 m.origin.1, .int .u16 m.origin.2.1, .int .u32 m.origin.2.2, .slice a.pm a.nm a.cm, .slice a.pi a.ni a.ci]] h (.bool (fMr m)) := by
  refine spec_enter (args := [_]) Tryz.func115 rfl Tryz.ntmps115 rfl (fun w l => ?_)
  repeat' (first | refine wMgB2 ?_ | refine wMgB3 ?_ | (refine is_cd ?_; first | refine hd_condA (fun _ => ?_) (fun _ => ?_)) | refine wMgB5 ?_ | refine wkB (fun _ => ?_) | refine wkC (fun _ _ => ?_) | exact tsA | (refine ts_step rfl (fun HF h1 hle => ?_)))
  all_goals ((repeat (refine hd_undefer (by first | exact .inl rfl | exact .inr rfl) (by exact aP) ?_)); apply hd_res0; (focus (first | exact .inl rfl | exact .inr rfl)); rfl; exact aR)
  all_goals exact ret_bool (by have e := hv.marks.len; rw [← e]; simp only [fMr]; exact congrArg (· && _) (le_nat (k := 12)))
theorem zMgB9 {A : Prop} (h : A := by ((first | (apply OK.plain; rfl) | (apply OK.guarded; rfl; rfl; (intro hg; (try have hk := hg.2); (try have hl := hg.2.2); (try have hm := hg.2.2.2)))); (first | (apply od_call; exact aX; infer_instance; exact aE; exact aN; (focus (first | exact atm_I _ hv.ids))) ))) : A := h
theorem wMgB6 {A B : Prop} (k : B) (h : Kx B → A := by intro k; (first | (refine is_pu ?_ (by rfl); first | refine hd_opAB ?_) | (refine is_pn ?_; first | refine hd_pn_nil ?_ | refine hd_pnAB ?_ | (refine hd_pn_op rfl ?_)) | (refine is_co ?_; first | ((first | apply hd_ok | apply ch_ok); (focus exact zMgB9); rfl; rfl) | refine hd_storeA ?_ | refine hd_copyA ?_ | refine hd_storeRA ?_) | (refine is_ni ?_; first | (refine is_on ?_; first | refine pn_barA ?_ | refine pn_goA ?_ | refine pt_goA ?_ | refine ts_onA ?_) | refine hd_nil ?_) | refine wkA ?_ | (refine is_ch ?_; refine ch_opAB ?_) | ((first | apply hd_ok | apply ch_ok); (focus exact zMgB9); rfl; rfl)); exact k.go) : A := h ⟨k⟩
theorem ids_3 {m : MsD} {a : MsP} (h : PH) (hv : VMsP h a m) : Det Tryz.prog 126 #[.agg #[.int .u8 m.kind, .int .u8 m.frm, .int .u16 m.inc, .int .u8 m.to_, .slice a.pl a.nl a.cl, .slice a.pt a.nt a.ct, .int .u8 m.ev.1.1, .int .u16 m.ev.1.2.1, .int .u32 m.ev.1.2.2, .slice a.pv a.nv a.cv, .slice a.pd a.nd a.cd, .int .u8 m.hops, .int .u8 m.origin.1, .int .u16 m.origin.2.1, .int .u32 m.origin.2.2, .slice a.pm a.nm a.cm, .slice a.pi a.ni a.ci]] h (.bool (fIr m)) := by
  refine spec_enter (args := [_]) Tryz.func126 rfl Tryz.ntmps126 rfl (fun w l => ?_)
  repeat' (first | refine wMgB2 ?_ | refine wMgB3 ?_ | (refine is_cd ?_; first | refine hd_condA (fun _ => ?_) (fun _ => ?_)) | refine wMgB6 ?_ | refine wkB (fun _ => ?_) | refine wkC (fun _ _ => ?_) | exact tsA | (refine ts_step rfl (fun HF h1 hle => ?_)))
  all_goals ((repeat (refine hd_undefer (by first | exact .inl rfl | exact .inr rfl) (by exact aP) ?_)); apply hd_res0; (focus (first | exact .inl rfl | exact .inr rfl)); rfl; exact aR)
  all_goals exact ret_bool (by have e := hv.ids.len; rw [← e]; simp only [fIr]; exact congrArg (· && _) (le_nat (k := 255)))
theorem zMgB5 {A : Prop} (h : A := by ((first | (apply OK.plain; rfl) | (apply OK.guarded; rfl; rfl; (intro hg; (try have hk := hg.2); (try have hl := hg.2.2); (try have hm := hg.2.2.2)))); (first | (apply od_call; exact aX; infer_instance; exact aE; exact aN; (focus (first | exact right_I (x := m.ev.1) _))) ))) : A := h
theorem wMgB7 {A B : Prop} (k : B) (h : Kx B → A := by intro k; (first | (refine is_pu ?_ (by rfl); first | refine hd_opAB ?_) | (refine is_pn ?_; first | refine hd_pn_nil ?_ | refine hd_pnAB ?_ | (refine hd_pn_op rfl ?_)) | (refine is_co ?_; first | ((first | apply hd_ok | apply ch_ok); (focus exact zMgB5); rfl; rfl) | refine hd_storeA ?_ | refine hd_copyA ?_ | refine hd_storeRA ?_) | (refine is_ni ?_; first | (refine is_on ?_; first | refine pn_barA ?_ | refine pn_goA ?_ | refine pt_goA ?_ | refine ts_onA ?_) | refine hd_nil ?_) | refine wkA ?_ | (refine is_ch ?_; refine ch_opAB ?_) | ((first | apply hd_ok | apply ch_ok); (focus exact zMgB5); rfl; rfl)); exact k.go) : A := h ⟨k⟩
theorem event_3 {m : MsD} {a : MsP} (h : PH) (hv : VMsP h a m) : Det Tryz.prog 92 #[.agg #[.int .u8 m.kind, .int .u8 m.frm, .int .u16 m.inc, .int .u8 m.to_, .slice a.pl a.nl a.cl, .slice a.pt a.nt a.ct, .int .u8 m.ev.1.1, .int .u16 m.ev.1.2.1, .int .u32 m.ev.1.2.2, .slice a.pv a.nv a.cv, .slice a.pd a.nd a.cd, .int .u8 m.hops, .int .u8 m.origin.1, .int .u16 m.origin.2.1, .int .u32 m.origin.2.2, .slice a.pm a.nm a.cm, .slice a.pi a.ni a.ci]] h (.bool (fEr m)) := by
  refine spec_enter (args := [_]) Tryz.func92 rfl Tryz.ntmps92 rfl (fun w l => ?_)
  repeat' (first | refine wMgB2 ?_ | refine wMgB3 ?_ | (refine is_cd ?_; first | refine hd_condA (fun _ => ?_) (fun _ => ?_)) | refine wMgB7 ?_ | refine wkB (fun _ => ?_) | refine wkC (fun _ _ => ?_) | exact tsA | (refine ts_step rfl (fun HF h1 hle => ?_)))
  all_goals ((repeat (refine hd_undefer (by first | exact .inl rfl | exact .inr rfl) (by exact aP) ?_)); apply hd_res0; (focus (first | exact .inl rfl | exact .inr rfl)); rfl; exact aR)
  all_goals exact ret_bool (by have e := hv.vals.len; have e2 := hv.data.len; rw [← e, ← e2]; simp only [fEr]; exact congr (congrArg _ (congr (congrArg _ rfl) (le_nat (k := 4)))) (le_nat (k := 64)))
theorem zMgB1 {A : Prop} (h : A := by ((first | (apply OK.plain; rfl) | (apply OK.guarded; rfl; rfl; (intro hg; (try have hk := hg.2); (try have hl := hg.2.2); (try have hm := hg.2.2.2)))); (first | (apply od_call; exact aX; infer_instance; exact aE; exact aN; (focus (first | fail))) ))) : A := h
theorem wMgB8 {A B : Prop} (k : B) (h : Kx B → A := by intro k; (first | (refine is_pu ?_ (by rfl); first | refine hd_opAB ?_) | (refine is_pn ?_; first | refine hd_pn_nil ?_ | refine hd_pnAB ?_ | (refine hd_pn_op rfl ?_)) | (refine is_co ?_; first | ((first | apply hd_ok | apply ch_ok); (focus exact zMgB1); rfl; rfl) | refine hd_storeA ?_ | refine hd_copyA ?_ | refine hd_storeRA ?_) | (refine is_ni ?_; first | (refine is_on ?_; first | refine pn_barA ?_ | refine pn_goA ?_ | refine pt_goA ?_ | refine ts_onA ?_) | refine hd_nil ?_) | refine wkA ?_ | (refine is_ch ?_; refine ch_opAB ?_) | ((first | apply hd_ok | apply ch_ok); (focus exact zMgB1); rfl; rfl)); exact k.go) : A := h ⟨k⟩
theorem hops_3 {m : MsD} {a : MsP} (h : PH) (hv : VMsP h a m) : Det Tryz.prog 100 #[.agg #[.int .u8 m.kind, .int .u8 m.frm, .int .u16 m.inc, .int .u8 m.to_, .slice a.pl a.nl a.cl, .slice a.pt a.nt a.ct, .int .u8 m.ev.1.1, .int .u16 m.ev.1.2.1, .int .u32 m.ev.1.2.2, .slice a.pv a.nv a.cv, .slice a.pd a.nd a.cd, .int .u8 m.hops, .int .u8 m.origin.1, .int .u16 m.origin.2.1, .int .u32 m.origin.2.2, .slice a.pm a.nm a.cm, .slice a.pi a.ni a.ci]] h (.bool (true)) := by
  refine spec_enter (args := [_]) Tryz.func100 rfl Tryz.ntmps100 rfl (fun w l => ?_)
  repeat' (first | refine wMgB2 ?_ | refine wMgB3 ?_ | (refine is_cd ?_; first | refine hd_condA (fun _ => ?_) (fun _ => ?_)) | refine wMgB8 ?_ | refine wkB (fun _ => ?_) | refine wkC (fun _ _ => ?_) | exact tsA | (refine ts_step rfl (fun HF h1 hle => ?_)))
  all_goals ((repeat (refine hd_undefer (by first | exact .inl rfl | exact .inr rfl) (by exact aP) ?_)); apply hd_res0; (focus (first | exact .inl rfl | exact .inr rfl)); rfl; exact aR)
  all_goals exact ret_bool (by rfl)
theorem zMgB4 {A : Prop} (h : A := by ((first | (apply OK.plain; rfl) | (apply OK.guarded; rfl; rfl; (intro hg; (try have hk := hg.2); (try have hl := hg.2.2); (try have hm := hg.2.2.2)))); (first | (apply od_call; exact aX; infer_instance; exact aE; exact aN; (focus (first | exact right_K (x := m.origin) _))) ))) : A := h
theorem wMgB9 {A B : Prop} (k : B) (h : Kx B → A := by intro k; (first | (refine is_pu ?_ (by rfl); first | refine hd_opAB ?_) | (refine is_pn ?_; first | refine hd_pn_nil ?_ | refine hd_pnAB ?_ | (refine hd_pn_op rfl ?_)) | (refine is_co ?_; first | ((first | apply hd_ok | apply ch_ok); (focus exact zMgB4); rfl; rfl) | refine hd_storeA ?_ | refine hd_copyA ?_ | refine hd_storeRA ?_) | (refine is_ni ?_; first | (refine is_on ?_; first | refine pn_barA ?_ | refine pn_goA ?_ | refine pt_goA ?_ | refine ts_onA ?_) | refine hd_nil ?_) | refine wkA ?_ | (refine is_ch ?_; refine ch_opAB ?_) | ((first | apply hd_ok | apply ch_ok); (focus exact zMgB4); rfl; rfl)); exact k.go) : A := h ⟨k⟩
theorem origin_3 {m : MsD} {a : MsP} (h : PH) (hv : VMsP h a m) : Det Tryz.prog 107 #[.agg #[.int .u8 m.kind, .int .u8 m.frm, .int .u16 m.inc, .int .u8 m.to_, .slice a.pl a.nl a.cl, .slice a.pt a.nt a.ct, .int .u8 m.ev.1.1, .int .u16 m.ev.1.2.1, .int .u32 m.ev.1.2.2, .slice a.pv a.nv a.cv, .slice a.pd a.nd a.cd, .int .u8 m.hops, .int .u8 m.origin.1, .int .u16 m.origin.2.1, .int .u32 m.origin.2.2, .slice a.pm a.nm a.cm, .slice a.pi a.ni a.ci]] h (.bool (fOr m)) := by
  refine spec_enter (args := [_]) Tryz.func107 rfl Tryz.ntmps107 rfl (fun w l => ?_)
  repeat' (first | refine wMgB2 ?_ | refine wMgB3 ?_ | (refine is_cd ?_; first | refine hd_condA (fun _ => ?_) (fun _ => ?_)) | refine wMgB9 ?_ | refine wkB (fun _ => ?_) | refine wkC (fun _ _ => ?_) | exact tsA | (refine ts_step rfl (fun HF h1 hle => ?_)))
  all_goals ((repeat (refine hd_undefer (by first | exact .inl rfl | exact .inr rfl) (by exact aP) ?_)); apply hd_res0; (focus (first | exact .inl rfl | exact .inr rfl)); rfl; exact aR)
  all_goals exact ret_bool (by rfl)
theorem list_4 {m : MsD} {a : MsP} (h : PH) (hv : VMsP h a m) : Det Tryz.prog 72 #[.agg #[.int .u8 m.kind, .int .u8 m.frm, .int .u16 m.inc, .int .u8 m.to_, .slice a.pl a.nl a.cl, .slice a.pt a.nt a.ct, .int .u8 m.ev.1.1, .int .u16 m.ev.1.2.1, .int .u32 m.ev.1.2.2, .slice a.pv a.nv a.cv, .slice a.pd a.nd a.cd, .int .u8 m.hops, .int .u8 m.origin.1, .int .u16 m.origin.2.1, .int .u32 m.origin.2.2, .slice a.pm a.nm a.cm, .slice a.pi a.ni a.ci]] h (.bool (decide (m.list.length = 0))) := by
  refine spec_enter (args := [_]) Tryz.func72 rfl Tryz.ntmps72 rfl (fun w l => ?_)
  repeat' (first | refine wMgB2 ?_ | refine wMgB3 ?_ | (refine is_cd ?_; first | refine hd_condA (fun _ => ?_) (fun _ => ?_)) | refine wMgB8 ?_ | refine wkB (fun _ => ?_) | refine wkC (fun _ _ => ?_) | exact tsA | (refine ts_step rfl (fun HF h1 hle => ?_)))
  all_goals ((repeat (refine hd_undefer (by first | exact .inl rfl | exact .inr rfl) (by exact aP) ?_)); apply hd_res0; (focus (first | exact .inl rfl | exact .inr rfl)); rfl; exact aR)
  all_goals exact ret_bool (by have e := hv.list.len; rw [← e]; exact eq_nat)
theorem table_4 {m : MsD} {a : MsP} (h : PH) (hv : VMsP h a m) : Det Tryz.prog 85 #[.agg #[.int .u8 m.kind, .int .u8 m.frm, .int .u16 m.inc, .int .u8 m.to_, .slice a.pl a.nl a.cl, .slice a.pt a.nt a.ct, .int .u8 m.ev.1.1, .int .u16 m.ev.1.2.1, .int .u32 m.ev.1.2.2, .slice a.pv a.nv a.cv, .slice a.pd a.nd a.cd, .int .u8 m.hops, .int .u8 m.origin.1, .int .u16 m.origin.2.1, .int .u32 m.origin.2.2, .slice a.pm a.nm a.cm, .slice a.pi a.ni a.ci]] h (.bool (decide (m.table.length = 0))) := by
  refine spec_enter (args := [_]) Tryz.func85 rfl Tryz.ntmps85 rfl (fun w l => ?_)
  repeat' (first | refine wMgB2 ?_ | refine wMgB3 ?_ | (refine is_cd ?_; first | refine hd_condA (fun _ => ?_) (fun _ => ?_)) | refine wMgB8 ?_ | refine wkB (fun _ => ?_) | refine wkC (fun _ _ => ?_) | exact tsA | (refine ts_step rfl (fun HF h1 hle => ?_)))
  all_goals ((repeat (refine hd_undefer (by first | exact .inl rfl | exact .inr rfl) (by exact aP) ?_)); apply hd_res0; (focus (first | exact .inl rfl | exact .inr rfl)); rfl; exact aR)
  all_goals exact ret_bool (by have e := hv.table.len; rw [← e]; exact eq_nat)
theorem marks_4 {m : MsD} {a : MsP} (h : PH) (hv : VMsP h a m) : Det Tryz.prog 117 #[.agg #[.int .u8 m.kind, .int .u8 m.frm, .int .u16 m.inc, .int .u8 m.to_, .slice a.pl a.nl a.cl, .slice a.pt a.nt a.ct, .int .u8 m.ev.1.1, .int .u16 m.ev.1.2.1, .int .u32 m.ev.1.2.2, .slice a.pv a.nv a.cv, .slice a.pd a.nd a.cd, .int .u8 m.hops, .int .u8 m.origin.1, .int .u16 m.origin.2.1, .int .u32 m.origin.2.2, .slice a.pm a.nm a.cm, .slice a.pi a.ni a.ci]] h (.bool (decide (m.marks.length = 0))) := by
  refine spec_enter (args := [_]) Tryz.func117 rfl Tryz.ntmps117 rfl (fun w l => ?_)
  repeat' (first | refine wMgB2 ?_ | refine wMgB3 ?_ | (refine is_cd ?_; first | refine hd_condA (fun _ => ?_) (fun _ => ?_)) | refine wMgB8 ?_ | refine wkB (fun _ => ?_) | refine wkC (fun _ _ => ?_) | exact tsA | (refine ts_step rfl (fun HF h1 hle => ?_)))
  all_goals ((repeat (refine hd_undefer (by first | exact .inl rfl | exact .inr rfl) (by exact aP) ?_)); apply hd_res0; (focus (first | exact .inl rfl | exact .inr rfl)); rfl; exact aR)
  all_goals exact ret_bool (by have e := hv.marks.len; rw [← e]; exact eq_nat)
theorem ids_4 {m : MsD} {a : MsP} (h : PH) (hv : VMsP h a m) : Det Tryz.prog 128 #[.agg #[.int .u8 m.kind, .int .u8 m.frm, .int .u16 m.inc, .int .u8 m.to_, .slice a.pl a.nl a.cl, .slice a.pt a.nt a.ct, .int .u8 m.ev.1.1, .int .u16 m.ev.1.2.1, .int .u32 m.ev.1.2.2, .slice a.pv a.nv a.cv, .slice a.pd a.nd a.cd, .int .u8 m.hops, .int .u8 m.origin.1, .int .u16 m.origin.2.1, .int .u32 m.origin.2.2, .slice a.pm a.nm a.cm, .slice a.pi a.ni a.ci]] h (.bool (decide (m.ids.length = 0))) := by
  refine spec_enter (args := [_]) Tryz.func128 rfl Tryz.ntmps128 rfl (fun w l => ?_)
  repeat' (first | refine wMgB2 ?_ | refine wMgB3 ?_ | (refine is_cd ?_; first | refine hd_condA (fun _ => ?_) (fun _ => ?_)) | refine wMgB8 ?_ | refine wkB (fun _ => ?_) | refine wkC (fun _ _ => ?_) | exact tsA | (refine ts_step rfl (fun HF h1 hle => ?_)))
  all_goals ((repeat (refine hd_undefer (by first | exact .inl rfl | exact .inr rfl) (by exact aP) ?_)); apply hd_res0; (focus (first | exact .inl rfl | exact .inr rfl)); rfl; exact aR)
  all_goals exact ret_bool (by have e := hv.ids.len; rw [← e]; exact eq_nat)
theorem event_4 {m : MsD} {a : MsP} (h : PH) (hv : VMsP h a m) : Det Tryz.prog 94 #[.agg #[.int .u8 m.kind, .int .u8 m.frm, .int .u16 m.inc, .int .u8 m.to_, .slice a.pl a.nl a.cl, .slice a.pt a.nt a.ct, .int .u8 m.ev.1.1, .int .u16 m.ev.1.2.1, .int .u32 m.ev.1.2.2, .slice a.pv a.nv a.cv, .slice a.pd a.nd a.cd, .int .u8 m.hops, .int .u8 m.origin.1, .int .u16 m.origin.2.1, .int .u32 m.origin.2.2, .slice a.pm a.nm a.cm, .slice a.pi a.ni a.ci]] h (.bool (fEn m)) := by
  refine spec_enter (args := [_]) Tryz.func94 rfl Tryz.ntmps94 rfl (fun w l => ?_)
  repeat' (first | refine wMgB2 ?_ | refine wMgB3 ?_ | (refine is_cd ?_; first | refine hd_condA (fun _ => ?_) (fun _ => ?_)) | refine wMgB8 ?_ | refine wkB (fun _ => ?_) | refine wkC (fun _ _ => ?_) | exact tsA | (refine ts_step rfl (fun HF h1 hle => ?_)))
  all_goals ((repeat (refine hd_undefer (by first | exact .inl rfl | exact .inr rfl) (by exact aP) ?_)); apply hd_res0; (focus (first | exact .inl rfl | exact .inr rfl)); rfl; exact aR)
  all_goals exact ret_bool (by have e := hv.vals.len; have e2 := hv.data.len; rw [← e, ← e2]; simp only [fEn, id_eq0, eq_nat])
theorem hops_4 {m : MsD} {a : MsP} (h : PH) (hv : VMsP h a m) : Det Tryz.prog 101 #[.agg #[.int .u8 m.kind, .int .u8 m.frm, .int .u16 m.inc, .int .u8 m.to_, .slice a.pl a.nl a.cl, .slice a.pt a.nt a.ct, .int .u8 m.ev.1.1, .int .u16 m.ev.1.2.1, .int .u32 m.ev.1.2.2, .slice a.pv a.nv a.cv, .slice a.pd a.nd a.cd, .int .u8 m.hops, .int .u8 m.origin.1, .int .u16 m.origin.2.1, .int .u32 m.origin.2.2, .slice a.pm a.nm a.cm, .slice a.pi a.ni a.ci]] h (.bool (decide (m.hops = 0))) := by
  refine spec_enter (args := [_]) Tryz.func101 rfl Tryz.ntmps101 rfl (fun w l => ?_)
  repeat' (first | refine wMgB2 ?_ | refine wMgB3 ?_ | (refine is_cd ?_; first | refine hd_condA (fun _ => ?_) (fun _ => ?_)) | refine wMgB8 ?_ | refine wkB (fun _ => ?_) | refine wkC (fun _ _ => ?_) | exact tsA | (refine ts_step rfl (fun HF h1 hle => ?_)))
  all_goals ((repeat (refine hd_undefer (by first | exact .inl rfl | exact .inr rfl) (by exact aP) ?_)); apply hd_res0; (focus (first | exact .inl rfl | exact .inr rfl)); rfl; exact aR)
  all_goals exact ret_bool (by rfl)
theorem origin_4 {m : MsD} {a : MsP} (h : PH) (hv : VMsP h a m) : Det Tryz.prog 109 #[.agg #[.int .u8 m.kind, .int .u8 m.frm, .int .u16 m.inc, .int .u8 m.to_, .slice a.pl a.nl a.cl, .slice a.pt a.nt a.ct, .int .u8 m.ev.1.1, .int .u16 m.ev.1.2.1, .int .u32 m.ev.1.2.2, .slice a.pv a.nv a.cv, .slice a.pd a.nd a.cd, .int .u8 m.hops, .int .u8 m.origin.1, .int .u16 m.origin.2.1, .int .u32 m.origin.2.2, .slice a.pm a.nm a.cm, .slice a.pi a.ni a.ci]] h (.bool (decide (m.origin = mk0))) := by
  refine spec_enter (args := [_]) Tryz.func109 rfl Tryz.ntmps109 rfl (fun w l => ?_)
  repeat' (first | refine wMgB2 ?_ | refine wMgB3 ?_ | (refine is_cd ?_; first | refine hd_condA (fun _ => ?_) (fun _ => ?_)) | refine wMgB8 ?_ | refine wkB (fun _ => ?_) | refine wkC (fun _ _ => ?_) | exact tsA | (refine ts_step rfl (fun HF h1 hle => ?_)))
  all_goals ((repeat (refine hd_undefer (by first | exact .inl rfl | exact .inr rfl) (by exact aP) ?_)); apply hd_res0; (focus (first | exact .inl rfl | exact .inr rfl)); rfl; exact aR)
  all_goals exact ret_bool (by exact id_eq0)
theorem fld_list (h : PH) : Det Tryz.prog 43 #[] h (.agg #[.func (.func 63) #[] #[], .func (.func 66) #[] #[], .func (.func 69) #[] #[], .func (.func 72) #[] #[], .func (.func 73) #[] #[]]) := by
  refine spec_enter (args := []) Tryz.func43 rfl Tryz.ntmps43 rfl (fun w l => ?_)
  repeat' (first | refine wMgB2 ?_ | refine wMgB3 ?_ | (refine is_cd ?_; first | refine hd_condA (fun _ => ?_) (fun _ => ?_)) | refine wMgB8 ?_ | refine wkB (fun _ => ?_) | refine wkC (fun _ _ => ?_) | exact tsA | (refine ts_step rfl (fun HF h1 hle => ?_)))
  ((repeat (refine hd_undefer (by first | exact .inl rfl | exact .inr rfl) (by exact aP) ?_)); apply hd_res0; (focus (first | exact .inl rfl | exact .inr rfl)); rfl; exact aR)
  exact rfl
theorem fld_table (h : PH) : Det Tryz.prog 44 #[] h (.agg #[.func (.func 76) #[] #[], .func (.func 79) #[] #[], .func (.func 82) #[] #[], .func (.func 85) #[] #[], .func (.func 86) #[] #[]]) := by
  refine spec_enter (args := []) Tryz.func44 rfl Tryz.ntmps44 rfl (fun w l => ?_)
  repeat' (first | refine wMgB2 ?_ | refine wMgB3 ?_ | (refine is_cd ?_; first | refine hd_condA (fun _ => ?_) (fun _ => ?_)) | refine wMgB8 ?_ | refine wkB (fun _ => ?_) | refine wkC (fun _ _ => ?_) | exact tsA | (refine ts_step rfl (fun HF h1 hle => ?_)))
  ((repeat (refine hd_undefer (by first | exact .inl rfl | exact .inr rfl) (by exact aP) ?_)); apply hd_res0; (focus (first | exact .inl rfl | exact .inr rfl)); rfl; exact aR)
  exact rfl
theorem fld_event (h : PH) : Det Tryz.prog 45 #[] h (.agg #[.func (.func 88) #[] #[], .func (.func 90) #[] #[], .func (.func 92) #[] #[], .func (.func 94) #[] #[], .func (.func 95) #[] #[]]) := by
  refine spec_enter (args := []) Tryz.func45 rfl Tryz.ntmps45 rfl (fun w l => ?_)
  repeat' (first | refine wMgB2 ?_ | refine wMgB3 ?_ | (refine is_cd ?_; first | refine hd_condA (fun _ => ?_) (fun _ => ?_)) | refine wMgB8 ?_ | refine wkB (fun _ => ?_) | refine wkC (fun _ _ => ?_) | exact tsA | (refine ts_step rfl (fun HF h1 hle => ?_)))
  ((repeat (refine hd_undefer (by first | exact .inl rfl | exact .inr rfl) (by exact aP) ?_)); apply hd_res0; (focus (first | exact .inl rfl | exact .inr rfl)); rfl; exact aR)
  exact rfl
theorem fld_hops (h : PH) : Det Tryz.prog 46 #[] h (.agg #[.func (.func 98) #[] #[], .func (.func 99) #[] #[], .func (.func 100) #[] #[], .func (.func 101) #[] #[], .func (.func 102) #[] #[]]) := by
  refine spec_enter (args := []) Tryz.func46 rfl Tryz.ntmps46 rfl (fun w l => ?_)
  repeat' (first | refine wMgB2 ?_ | refine wMgB3 ?_ | (refine is_cd ?_; first | refine hd_condA (fun _ => ?_) (fun _ => ?_)) | refine wMgB8 ?_ | refine wkB (fun _ => ?_) | refine wkC (fun _ _ => ?_) | exact tsA | (refine ts_step rfl (fun HF h1 hle => ?_)))
  ((repeat (refine hd_undefer (by first | exact .inl rfl | exact .inr rfl) (by exact aP) ?_)); apply hd_res0; (focus (first | exact .inl rfl | exact .inr rfl)); rfl; exact aR)
  exact rfl
theorem fld_origin (h : PH) : Det Tryz.prog 47 #[] h (.agg #[.func (.func 103) #[] #[], .func (.func 105) #[] #[], .func (.func 107) #[] #[], .func (.func 109) #[] #[], .func (.func 110) #[] #[]]) := by
  refine spec_enter (args := []) Tryz.func47 rfl Tryz.ntmps47 rfl (fun w l => ?_)
  repeat' (first | refine wMgB2 ?_ | refine wMgB3 ?_ | (refine is_cd ?_; first | refine hd_condA (fun _ => ?_) (fun _ => ?_)) | refine wMgB8 ?_ | refine wkB (fun _ => ?_) | refine wkC (fun _ _ => ?_) | exact tsA | (refine ts_step rfl (fun HF h1 hle => ?_)))
  ((repeat (refine hd_undefer (by first | exact .inl rfl | exact .inr rfl) (by exact aP) ?_)); apply hd_res0; (focus (first | exact .inl rfl | exact .inr rfl)); rfl; exact aR)
  exact rfl
theorem fld_marks (h : PH) : Det Tryz.prog 48 #[] h (.agg #[.func (.func 111) #[] #[], .func (.func 113) #[] #[], .func (.func 115) #[] #[], .func (.func 117) #[] #[], .func (.func 118) #[] #[]]) := by
  refine spec_enter (args := []) Tryz.func48 rfl Tryz.ntmps48 rfl (fun w l => ?_)
  repeat' (first | refine wMgB2 ?_ | refine wMgB3 ?_ | (refine is_cd ?_; first | refine hd_condA (fun _ => ?_) (fun _ => ?_)) | refine wMgB8 ?_ | refine wkB (fun _ => ?_) | refine wkC (fun _ _ => ?_) | exact tsA | (refine ts_step rfl (fun HF h1 hle => ?_)))
  ((repeat (refine hd_undefer (by first | exact .inl rfl | exact .inr rfl) (by exact aP) ?_)); apply hd_res0; (focus (first | exact .inl rfl | exact .inr rfl)); rfl; exact aR)
  exact rfl
theorem fld_ids (h : PH) : Det Tryz.prog 49 #[] h (.agg #[.func (.func 120) #[] #[], .func (.func 123) #[] #[], .func (.func 126) #[] #[], .func (.func 128) #[] #[], .func (.func 129) #[] #[]]) := by
  refine spec_enter (args := []) Tryz.func49 rfl Tryz.ntmps49 rfl (fun w l => ?_)
  repeat' (first | refine wMgB2 ?_ | refine wMgB3 ?_ | (refine is_cd ?_; first | refine hd_condA (fun _ => ?_) (fun _ => ?_)) | refine wMgB8 ?_ | refine wkB (fun _ => ?_) | refine wkC (fun _ _ => ?_) | exact tsA | (refine ts_step rfl (fun HF h1 hle => ?_)))
  ((repeat (refine hd_undefer (by first | exact .inl rfl | exact .inr rfl) (by exact aP) ?_)); apply hd_res0; (focus (first | exact .inl rfl | exact .inr rfl)); rfl; exact aR)
  exact rfl
def fldC : List (List Value) := [[.func (.func 63) #[] #[], .func (.func 66) #[] #[], .func (.func 69) #[] #[], .func (.func 72) #[] #[], .func (.func 73) #[] #[]], [.func (.func 76) #[] #[], .func (.func 79) #[] #[], .func (.func 82) #[] #[], .func (.func 85) #[] #[], .func (.func 86) #[] #[]], [.func (.func 88) #[] #[], .func (.func 90) #[] #[], .func (.func 92) #[] #[], .func (.func 94) #[] #[], .func (.func 95) #[] #[]], [.func (.func 98) #[] #[], .func (.func 99) #[] #[], .func (.func 100) #[] #[], .func (.func 101) #[] #[], .func (.func 102) #[] #[]], [.func (.func 103) #[] #[], .func (.func 105) #[] #[], .func (.func 107) #[] #[], .func (.func 109) #[] #[], .func (.func 110) #[] #[]], [.func (.func 111) #[] #[], .func (.func 113) #[] #[], .func (.func 115) #[] #[], .func (.func 117) #[] #[], .func (.func 118) #[] #[]], [.func (.func 120) #[] #[], .func (.func 123) #[] #[], .func (.func 126) #[] #[], .func (.func 128) #[] #[], .func (.func 129) #[] #[]]]
theorem zMgB2 {A : Prop} (h : A := by ((first | (apply OK.plain; rfl) | (apply OK.guarded; rfl; rfl; (intro hg; (try have hk := hg.2); (try have hl := hg.2.2); (try have hm := hg.2.2.2)))); (first | (apply od_call; exact aX; infer_instance; exact aE; exact aN; (focus (first | exact fld_list _ | exact fld_table _ | exact fld_event _ | exact fld_hops _ | exact fld_origin _ | exact fld_marks _ | exact fld_ids _))) ))) : A := h
theorem wMgB10 {A B : Prop} (k : B) (h : Kx B → A := by intro k; (first | (refine is_pu ?_ (by rfl); first | (apply hd_gon; rfl; rfl; (focus (constructor; exact pvMgB1; trivial))) | (apply hd_goff; rfl; rfl; (focus exact fun hs => absurd hs.1 (by exact nvMgB1)); rfl) | (apply hd_gundef; rfl; rfl; rfl) | refine hd_opAB ?_) | (refine is_pn ?_; first | refine hd_pn_nil ?_ | refine hd_pnAB ?_ | (refine hd_pn_op rfl ?_)) | (refine is_co ?_; first | (apply hd_gon; rfl; rfl; (focus (constructor; exact pvMgB1; trivial))) | (apply hd_goff; rfl; rfl; (focus exact fun hs => absurd hs.1 (by exact nvMgB1)); rfl) | (apply hd_gundef; rfl; rfl; rfl) | ((first | apply hd_ok | apply ch_ok); (focus exact zMgB2); rfl; rfl) | refine hd_storeA ?_ | refine hd_copyA ?_) | (refine is_ni ?_; first | (refine is_on ?_; first | refine pn_barA ?_ | refine pn_goA ?_ | refine pt_goA ?_ | refine ts_onA ?_) | refine hd_nil ?_) | refine wkA ?_ | (refine is_ch ?_; refine ch_opAB ?_) | ((first | apply hd_ok | apply ch_ok); (focus exact zMgB2); rfl; rfl)); exact k.go) : A := h ⟨k⟩
theorem mesg_fields (h : PH) : GV.Spec Tryz.prog 21 #[] h fun v h' => ∃ p c, v = .slice p 7 c ∧ Sl h' 5 p 7 c fldC := by
  refine spec_enter (args := []) Tryz.func21 rfl Tryz.ntmps21 rfl (fun w l => ?_)
  repeat' (first | refine wMgB2 ?_ | refine wMgB3 ?_ | (refine is_cd ?_; first | refine hd_condA (fun _ => ?_) (fun _ => ?_)) | refine wMgB10 ?_ | refine wkB (fun _ => ?_) | refine wkC (fun _ _ => ?_) | exact tsA | (refine ts_step rfl (fun HF h1 hle => ?_)))
  refine hd_publish fldC (by exact aP) rfl rfl (by simp [fldC]) (by decide) (fun h1 hle1 hs => ?_)
  ((repeat (refine hd_undefer (by first | exact .inl rfl | exact .inr rfl) (by exact aP) ?_)); apply hd_res0; (focus (first | exact .inl rfl | exact .inr rfl)); rfl; exact aR)
  exact ⟨_, _, rfl, hs⟩
/-! ### Kinds -/
section
variable {P : Program} {C : Ctx} {N : Fr} {L : En} {H H' : List HE} {h : PH} {ops : Array Oper} {Q : Exit → Act → World → Prop} {rest : List Oper} {ty : TypeId} {pos : String} {after : Array Edge} {b : Nat} {dst : Option Nat} {gd : Option (Nat × Bool)}
theorem hd_mapInsI {t kt et : TypeId} {k k' : IntKind} {x y z : Operand} {a v : Int} {l : List (Int × Int)} [TMap P t kt et] [TKy P kt [some k] false]
    (hx : Ev L x (.map (some b))) (hy : Ev L y (.int k a)) (hz : Ev L z (.int k' v)) (hpk : Pick H (mp b [some k] false (mI k k' l)) H')
    (next : Hd C N L (mp b [some k] false (mI k k' (putI a v l)) :: H') h (GV.wpList P ops Q rest)) : Hd C N L H h (GV.wpList P ops Q (⟨none, .insert t x y z, ty, pos, after, none⟩ :: rest)) :=
  hd_mapIns hx hy hz hpk KV.one (.int .nil) (by rw [putM_I]; exact next)
theorem hd_makeMapI {t kt et : TypeId} {d : Nat} {k k' : IntKind} [TMap P t kt et] [TKy P kt [some k] false] (hN : Nat.blt d N.n = true)
    (next : ∀ b, Hd C N ((d, [], .map (some b)) :: L) (mp b [some k] false (mI k k' []) :: H) h (GV.wpList P ops Q rest)) :
    Hd C N L H h (GV.wpList P ops Q (⟨some d, .makeMap t none, ty, pos, after, none⟩ :: rest)) := hd_makeMap (.inl rfl) hN next
theorem and1_dec : ∀ a : Fin 256, IntKind.u8.wrap ((BitVec.ofInt 8 (a.val : Int) &&& BitVec.ofInt 8 1).toNat : Int) = ((a.val % 2 : Nat) : Int) := by decide
theorem bi_and1 {a : Int} (h0 : 0 ≤ a) (h1 : a ≤ 255) : bi .and .u8 a 1 = some (.int .u8 (a % 2)) := by
  have := and1_dec ⟨a.toNat, by omega⟩
  simp only [Int.toNat_of_nonneg h0] at this
  show some (Value.int .u8 (IntKind.u8.wrap ((BitVec.ofInt 8 a &&& BitVec.ofInt 8 1).toNat : Int))) = _
  rw [this]
  congr 2
  omega
theorem od_and1 {t t' : TypeId} {x y : Operand} {a c : Int} (hx : Ev L x (.int .u8 a)) (hy : Ev L y (.int .u8 1)) (h0 : 0 ≤ a) (h1 : a ≤ 255) (hc : a % 2 = c) : OP P C ⟨dst, .binOp .and t x y t', ty, pos, after, gd⟩ L H h (.int .u8 c) := by
  subst hc
  exact od_bin hx hy (bi_and1 h0 h1)
end
def kinds : List (Int × Int) := [(1, 1), (2, 3), (3, 1), (4, 1), (5, 1), (6, 1), (7, 1), (8, 2), (9, 0), (10, 12), (11, 122), (12, 64)]
def bitsM (k : Int) : Int := (lookI k kinds).getD 0
theorem kd_cases (k : Int) : (k ≤ 0 ∨ 13 ≤ k) ∨ k = 1 ∨ k = 2 ∨ k = 3 ∨ k = 4 ∨ k = 5 ∨ k = 6 ∨ k = 7 ∨ k = 8 ∨ k = 9 ∨ k = 10 ∨ k = 11 ∨ k = 12 := by omega
theorem kd_look (k : Int) : (lookI k kinds).isSome = kdM k := by
  rcases kd_cases k with h | rfl | rfl | rfl | rfl | rfl | rfl | rfl | rfl | rfl | rfl | rfl | rfl
  · have e1 : kdM k = false := by unfold kdM; rcases h with h | h <;> simp <;> omega
    rw [e1]
    simp only [kinds, lookI, beq_iff_eq]
    repeat rw [if_neg (by omega)]
    rfl
  all_goals decide
theorem bits_bd {k : Int} (h : kdM k = true) : 0 ≤ bitsM k ∧ bitsM k ≤ 255 := by
  rcases kd_cases k with hh | rfl | rfl | rfl | rfl | rfl | rfl | rfl | rfl | rfl | rfl | rfl | rfl
  · exfalso; simp [kdM] at h; omega
  all_goals decide
theorem bits_at {k : Int} (h : kdM k = true) : bitsM k / 2 ^ 0 % 2 = (if mL k then 1 else 0) ∧ bitsM k / 2 ^ 1 % 2 = (if mT k then 1 else 0) ∧ bitsM k / 2 ^ 2 % 2 = (if mE k then 1 else 0) ∧ bitsM k / 2 ^ 3 % 2 = (if mH k then 1 else 0) ∧ bitsM k / 2 ^ 4 % 2 = (if mO k then 1 else 0) ∧ bitsM k / 2 ^ 5 % 2 = (if mO k then 1 else 0) ∧ bitsM k / 2 ^ 6 % 2 = (if mJ k then 1 else 0) := by
  rcases kd_cases k with hh | rfl | rfl | rfl | rfl | rfl | rfl | rfl | rfl | rfl | rfl | rfl | rfl
  · exfalso; simp [kdM] at h; omega
  all_goals decide
theorem zMgB3 {A : Prop} (h : A := by ((first | (apply OK.plain; rfl; apply OD.of) | (apply OKp.plain; rfl)); (first | (apply od_pickX; exact aX; exact pvMgB1; exact aX) | (apply od_pickY; exact aX; exact pvMgB1; exact aX)))) : A := h
theorem zMgB10 {A : Prop} (h : A := by ((first | (apply OK.plain; rfl; apply OD.of) | (apply OKp.plain; rfl)); (first | (apply od_lookupI; exact aX; exact aX; exact aH)))) : A := h
theorem wMgB11 {A B : Prop} (k : B) (h : Kx B → A := by intro k; (first | (refine is_pu ?_ (by rfl); first | (apply hd_gon; rfl; rfl; (focus (constructor; exact pvMgB1; trivial))) | (apply hd_goff; rfl; rfl; (focus exact fun hs => absurd hs.1 (by exact nvMgB1)); rfl) | (apply hd_gundef; rfl; rfl; rfl) | refine hd_opAB ?_ | ((first | apply hd_ok | apply ch_ok | (apply hd_pn_run; rfl; exact aM)); (focus exact zMgB10); rfl; rfl) | ((first | apply hd_ok | apply ch_ok | (apply hd_pn_run; rfl; exact aM)); (focus exact zMgB3); rfl; rfl)) | (refine is_pn ?_; first | refine hd_pn_nil ?_ | refine hd_pnAB ?_ | ((first | apply hd_ok | apply ch_ok | (apply hd_pn_run; rfl; exact aM)); (focus exact zMgB10); rfl; rfl) | ((first | apply hd_ok | apply ch_ok | (apply hd_pn_run; rfl; exact aM)); (focus exact zMgB3); rfl; rfl) | (refine hd_pn_op rfl ?_)) | (refine is_co ?_; first | (apply hd_gon; rfl; rfl; (focus (constructor; exact pvMgB1; trivial))) | (apply hd_goff; rfl; rfl; (focus exact fun hs => absurd hs.1 (by exact nvMgB1)); rfl) | (apply hd_gundef; rfl; rfl; rfl) | (apply hd_mapInsI; exact aX; exact aX; exact aX; exact aP) | ((first | apply hd_ok | apply ch_ok); (focus exact zMgB1); rfl; rfl) | refine hd_storeA ?_ | refine hd_copyA ?_) | (refine is_ni ?_; first | (refine is_on ?_; first | refine pn_barA ?_ | refine pn_goA ?_ | refine pt_goA ?_ | refine ts_onA ?_) | refine hd_nil ?_) | refine wkA ?_ | (refine is_ch ?_; refine ch_opAB ?_) | ((first | apply hd_ok | apply ch_ok); (focus exact zMgB1); rfl; rfl) | ((first | apply hd_ok | apply ch_ok | (apply hd_pn_run; rfl; exact aM)); (focus exact zMgB10); rfl; rfl) | ((first | apply hd_ok | apply ch_ok | (apply hd_pn_run; rfl; exact aM)); (focus exact zMgB3); rfl; rfl)); exact k.go) : A := h ⟨k⟩
theorem mesg_fieldsOf (k : Int) (h : PH) : Det Tryz.prog 20 #[.int .u8 k] h (.tuple #[.int .u8 (bitsM k), .bool (kdM k)]) := by
  refine spec_enter (args := [_]) Tryz.func20 rfl Tryz.ntmps20 rfl (fun w l => ?_)
  repeat' (first | (refine is_cx ?_ (by rfl); first | (apply hd_makeMapI (k := .u8) (k' := .u8); rfl; (refine fun b7 => ?_))) | refine wMgB2 ?_ | refine wMgB3 ?_ | (refine is_cd ?_; first | refine hd_condA (fun _ => ?_) (fun _ => ?_)) | refine wMgB11 ?_ | refine wkB (fun _ => ?_) | refine wkC (fun _ _ => ?_) | exact tsA | (refine ts_step rfl (fun HF h1 hle => ?_)))
  ((repeat (refine hd_undefer (by first | exact .inl rfl | exact .inr rfl) (by exact aP) ?_)); apply hd_res0; (focus (first | exact .inl rfl | exact .inr rfl)); rfl; exact aR)
  rw [← kd_look]
  exact rfl
end Go.Proofs.YtmpfeaoofkkhjaaGreat
