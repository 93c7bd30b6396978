/- grapevineref20: what a kind has, and which messages are right. Printed by gen_mgta.py. -/
import Derived.Test.YtmpfeaoofkkhjaaGreatMgF
namespace Go.Proofs.YtmpfeaoofkkhjaaGreat
open Go Go.GV
attribute [local irreducible] cw Go.GV.SpecM Go.GV.wpList Exit.then Exit.inBlock Go.GV.bodyPost wpPl wpPm wpPn TS rnd rPost YieldsB wpPT ptK
set_option maxRecDepth 10000
set_option maxHeartbeats 8000000
set_option linter.unusedVariables false
set_option linter.unusedSimpArgs false

theorem pvMgTa1 {A : Prop} (h : A := by (first | rfl | (simp only [beq_eq_false_iff_ne]; omega) | fail)) : A := h
def hasV (k : Int) : List Value := [.bool (mL k), .bool (mT k), .bool (mE k), .bool (mH k), .bool (mO k), .bool (mO k), .bool (mJ k)]
theorem zMgTa1 {A : Prop} (h : A := by ((first | (apply OK.plain; rfl; apply OD.of) | (apply OKp.plain; rfl)); (first | (apply od_pickX; exact aX; exact pvMgTa1; exact aX) | (apply od_pickY; exact aX; exact pvMgTa1; exact aX)))) : A := h
theorem wMgTa1 {A B : Prop} (k : B) (h : Kx B → A := by intro k; (first | (refine is_pu ?_ (by rfl); first | refine hd_opTB ?_ | ((first | apply hd_ok | apply ch_ok | (apply hd_pn_run; rfl; exact aM)); (focus exact zMgTa1); rfl; rfl)) | (refine is_pn ?_; first | refine hd_pn_nil ?_ | refine hd_pnTB ?_ | ((first | apply hd_ok | apply ch_ok | (apply hd_pn_run; rfl; exact aM)); (focus exact zMgTa1); rfl; rfl) | (refine hd_pn_op rfl ?_)) | (refine is_co ?_; first | ((first | apply hd_ok | apply ch_ok); (focus ((first | (apply OK.plain; rfl)  ); (first | (apply od_call; exact aX; infer_instance; exact aE; exact aN; (focus (first | fail))) ))); rfl; rfl) | refine hd_storeA ?_ | refine hd_copyA ?_) | (refine is_ni ?_; first | (refine is_on ?_; first | refine pn_barA ?_ | refine pn_goA ?_ | refine pt_goA ?_ | refine ts_onA ?_) | refine hd_nil ?_) | refine wkA ?_ | (refine is_ch ?_; refine ch_opTB ?_) | ((first | apply hd_ok | apply ch_ok); (focus ((first | (apply OK.plain; rfl)  ); (first | (apply od_call; exact aX; infer_instance; exact aE; exact aN; (focus (first | fail))) ))); rfl; rfl) | ((first | apply hd_ok | apply ch_ok | (apply hd_pn_run; rfl; exact aM)); (focus exact zMgTa1); rfl; rfl)); exact k.go) : A := h ⟨k⟩
theorem wMgTa2 {A B : Prop} (k : B) (h : Kx B → A := by intro k; ((refine is_cw ?_; refine is_rg ?_; first | refine hd_draw follows_any (by decide +kernel) ?_)); exact k.go) : A := h ⟨k⟩
theorem wMgTa3 {A B : Prop} (k : B) (h : Kx B → A := by intro k; ((refine is_cw ?_; refine is_cd ?_; first | (refine hd_condT (by exact aX) (by exact pvMgTa1) ?_) | (refine hd_condF (by exact aX) (by exact pvMgTa1) ?_))); exact k.go) : A := h ⟨k⟩
theorem ref20_has (k : Int) (h : PH) : Det Tryz.prog 25 #[.int .u8 k] h (.agg #[.bool (mL k), .bool (mT k), .bool (mE k), .bool (mH k), .bool (mO k), .bool (mO k), .bool (mJ k)]) := by
  refine spec_enter (args := [_]) Tryz.func25 rfl Tryz.ntmps25 rfl (fun w l => ?_)
  rcases kd_cases k with hk | rfl | rfl | rfl | rfl | rfl | rfl | rfl | rfl | rfl | rfl | rfl | rfl
  all_goals repeat' (first | refine wMgTa2 ?_ | refine wMgTa3 ?_ | (refine is_cd ?_; first | refine hd_condA (fun _ => ?_) (fun _ => ?_)) | refine wMgTa1 ?_ | refine wkB (fun _ => ?_) | refine wkC (fun _ _ => ?_) | exact tsA | (refine ts_step rfl (fun HF h1 hle => ?_)))
  all_goals (apply hd_resS (Hi := []); (focus (first | exact .inl rfl | exact .inr rfl)); rfl; exact aR; exact aS)
  all_goals refine ⟨?_, rfl⟩
  all_goals first
    | rfl
    | (have e1 : mL k = false := by unfold mL; rcases hk with h | h <;> simp <;> omega
       have e2 : mT k = false := by unfold mT; rcases hk with h | h <;> simp <;> omega
       have e3 : mE k = false := by unfold mE; rcases hk with h | h <;> simp <;> omega
       have e4 : mH k = false := by unfold mH; rcases hk with h | h <;> simp <;> omega
       have e5 : mO k = false := by unfold mO; rcases hk with h | h <;> simp <;> omega
       have e6 : mJ k = false := by unfold mJ; rcases hk with h | h <;> simp <;> omega
       rw [e1, e2, e3, e4, e5, e6]; rfl)

theorem zMgTa4 {A : Prop} (h : A := by ((first | (apply OK.plain; rfl) | (apply OK.guarded; rfl; rfl; (intro hg; (try have hk := hg.2); (try have hl := hg.2.2); (try have hm := hg.2.2.2)))); (first | (apply od_call; exact aX; infer_instance; exact aE; exact aN; (focus (first | fail))) ))) : A := h
theorem wMgTa4 {A B : Prop} (k : B) (h : Kx B → A := by intro k; (first | (refine is_pu ?_ (by rfl); first | refine hd_opAB ?_) | (refine is_pn ?_; first | refine hd_pn_nil ?_ | refine hd_pnAB ?_ | (refine hd_pn_op rfl ?_)) | (refine is_co ?_; first | ((first | apply hd_ok | apply ch_ok); (focus exact zMgTa4); rfl; rfl) | refine hd_storeA ?_ | refine hd_copyA ?_) | (refine is_ni ?_; first | (refine is_on ?_; first | refine pn_barA ?_ | refine pn_goA ?_ | refine pt_goA ?_ | refine ts_onA ?_) | refine hd_nil ?_) | refine wkA ?_ | (refine is_ch ?_; refine ch_opAB ?_) | ((first | apply hd_ok | apply ch_ok); (focus exact zMgTa4); rfl; rfl)); exact k.go) : A := h ⟨k⟩
theorem ref20_id {x : Mk} (h : PH) : Det Tryz.prog 31 #[.agg #[.int .u8 x.1, .int .u16 x.2.1, .int .u32 x.2.2]] h (.bool (okId x)) := by
  refine spec_enter (args := [_]) Tryz.func31 rfl Tryz.ntmps31 rfl (fun w l => ?_)
  repeat' (first | refine wMgTa2 ?_ | refine wMgTa3 ?_ | (refine is_cd ?_; first | refine hd_condA (fun _ => ?_) (fun _ => ?_)) | refine wMgTa4 ?_ | refine wkB (fun _ => ?_) | refine wkC (fun _ _ => ?_) | exact tsA | (refine ts_step rfl (fun HF h1 hle => ?_)))
  ((repeat (refine hd_undefer (by first | exact .inl rfl | exact .inr rfl) (by exact aP) ?_)); apply hd_res0; (focus (first | exact .inl rfl | exact .inr rfl)); rfl; exact aR)
  exact ret_bool (by rw [Bool.eq_iff_iff]; simp [okId])
theorem pvMgTa2 {A : Prop} (h : A := by (first | rfl | (simp only [decide_eq_true_eq, decide_eq_false_iff_not]; omega) | fail)) : A := h
def listsR (m : MsD) : Bool := decide (m.list.length ≤ 64) && decide (m.table.length ≤ 12) && decide (m.marks.length ≤ 12) && decide (m.ids.length ≤ 255) && m.list.all okDs && m.table.all okMm && m.marks.all okMk && m.ids.all okId
theorem zMgTa3 {A : Prop} (h : A := by ((first | (apply OK.plain; rfl) | (apply OK.guarded; rfl; rfl; (intro hg; (try have hk := hg.2); (try have hl := hg.2.2); (try have hm := hg.2.2.2)))); (first | (apply od_call; exact aX; infer_instance; exact aE; exact aN; (focus (first | exact ref20_id _))) ))) : A := h
theorem wMgTa5 {A B : Prop} (k : B) (h : Kx B → A := by intro k; (first | (refine is_pu ?_ (by rfl); first | refine hd_opAB ?_) | (refine is_pn ?_; first | refine hd_pn_nil ?_ | refine hd_pnAB ?_ | (refine hd_pn_op rfl ?_)) | (refine is_co ?_; first | ((first | apply hd_ok | apply ch_ok); (focus exact zMgTa3); rfl; rfl) | refine hd_storeA ?_ | refine hd_copyA ?_ | refine hd_storeRA ?_) | (refine is_ni ?_; first | (refine is_on ?_; first | refine pn_barA ?_ | refine pn_goA ?_ | refine pt_goA ?_ | refine ts_onA ?_) | refine hd_nil ?_) | refine wkA ?_ | (refine is_ch ?_; refine ch_opAB ?_) | ((first | apply hd_ok | apply ch_ok); (focus exact zMgTa3); rfl; rfl)); exact k.go) : A := h ⟨k⟩
theorem wMgTa6 {A B : Prop} (k : B) (h : Kx B → A := by intro k; ((refine is_cw ?_; refine is_cd ?_; first | (refine hd_condT (by exact aX) (by exact pvMgTa2) ?_) | (refine hd_condF (by exact aX) (by exact pvMgTa2) ?_))); exact k.go) : A := h ⟨k⟩
theorem ref20_lists {m : MsD} {a : MsP} (h : PH) (hv : VMsP h a m) : Det Tryz.prog 30 #[.agg #[.int .u8 m.kind, .int .u8 m.frm, .int .u16 m.inc, .int .u8 m.to_, .slice a.pl a.nl a.cl, .slice a.pt a.nt a.ct, .int .u8 m.ev.1.1, .int .u16 m.ev.1.2.1, .int .u32 m.ev.1.2.2, .slice a.pv a.nv a.cv, .slice a.pd a.nd a.cd, .int .u8 m.hops, .int .u8 m.origin.1, .int .u16 m.origin.2.1, .int .u32 m.origin.2.2, .slice a.pm a.nm a.cm, .slice a.pi a.ni a.ci]] h (.bool (listsR m)) := by
  have l1 := hv.list.len
  have l2 := hv.table.len
  have l3 := hv.marks.len
  have l4 := hv.ids.len
  have t1 := hv.list.top
  have t2 := hv.table.top
  have t3 := hv.marks.top
  have t4 := hv.ids.top
  refine spec_enter (args := [_]) Tryz.func30 rfl Tryz.ntmps30 rfl (fun w l => ?_)
  repeat' (first | refine wMgTa2 ?_ | refine wMgTa6 ?_ | (refine is_cd ?_; first | refine hd_condA (fun _ => ?_) (fun _ => ?_)) | refine wMgTa5 ?_ | refine wkB (fun _ => ?_) | refine wkC (fun _ _ => ?_) | exact tsA | (refine ts_step rfl (fun HF h1 hle => ?_)))
  · rename_i hd
    ((repeat (refine hd_undefer (by first | exact .inl rfl | exact .inr rfl) (by exact aP) ?_)); apply hd_res0; (focus (first | exact .inl rfl | exact .inr rfl)); rfl; exact aR)
    refine ret_bool ?_
    simp only [Bool.or_eq_true, decide_eq_true_eq] at hd
    symm
    have e0 : (decide (m.list.length ≤ 64) && decide (m.table.length ≤ 12) && decide (m.marks.length ≤ 12) && decide (m.ids.length ≤ 255)) = false := by
      simp only [l1, l2, l3, l4, Bool.and_eq_false_iff, decide_eq_false_iff_not]; omega
    simp only [listsR, e0, Bool.false_and]
  rename_i b1 hd
  simp only [Bool.or_eq_false_iff, decide_eq_false_iff_not] at hd
  have e0 : (decide (m.list.length ≤ 64) && decide (m.table.length ≤ 12) && decide (m.marks.length ≤ 12) && decide (m.ids.length ≤ 255)) = true := by
    simp only [l1, l2, l3, l4, Bool.and_eq_true, decide_eq_true_eq]; omega
  refine hd_loopS (ι := Nat) (fun i => i ≤ a.nl ∧ (m.list.take i).all okDs = true) (fun i => [(1, [], .pointer (some ⟨b1, 0, none⟩)), (3, [], .int .i64 i)]) (fun _ => [box b1 [.int .u8 m.kind, .int .u8 m.frm, .int .u16 m.inc, .int .u8 m.to_, .slice a.pl a.nl a.cl, .slice a.pt a.nt a.ct, .int .u8 m.ev.1.1, .int .u16 m.ev.1.2.1, .int .u32 m.ev.1.2.2, .slice a.pv a.nv a.cv, .slice a.pd a.nd a.cd, .int .u8 m.hops, .int .u8 m.origin.1, .int .u16 m.origin.2.1, .int .u32 m.origin.2.2, .slice a.pm a.nm a.cm, .slice a.pi a.ni a.ci] 36]) (fun _ => h) (fun i => a.nl - i) 0 (by simp) (by exact aU) (fun w hw => inv_only (by exact aS) hw) (fun i hi => ?_)
  refine hd_split (c := decide (i < a.nl)) (fun hlt => ?_) (fun hlt => ?_)
  · simp only [decide_eq_true_eq] at hlt
    obtain ⟨y1, hy1⟩ := get_of l1 hlt
    obtain ⟨cs1, hpub, hok1, hptr⟩ := hv.list.at hy1
    obtain ⟨pf, nf, cf, rfl, hf, hz1, hz2, hz3⟩ := rDs_ok hok1
    simp only [inR] at hz1 hz2
    have l5 := hf.len
    repeat' (first | refine wMgTa2 ?_ | refine wMgTa6 ?_ | (refine is_cd ?_; first | refine hd_condA (fun _ => ?_) (fun _ => ?_)) | refine wMgTa5 ?_ | refine wkB (fun _ => ?_) | refine wkC (fun _ _ => ?_) | exact tsA | (refine ts_step rfl (fun HF h1 hle => ?_)))
    · rename_i hd
      ((repeat (refine hd_undefer (by first | exact .inl rfl | exact .inr rfl) (by exact aP) ?_)); apply hd_res0; (focus (first | exact .inl rfl | exact .inr rfl)); rfl; exact aR)
      refine ret_bool ?_
      rw [listsR, all_not (f := okDs) hy1 (by simp only [okDs, l5, Bool.and_eq_false_iff, decide_eq_false_iff_not]; simp only [Bool.or_eq_true, decide_eq_true_eq, beq_iff_eq] at hd; omega)]
      simp
    · rename_i hd
      exact hd_again (i + 1) ⟨by omega, all_step hy1 hi.2 (by simp only [okDs, l5, Bool.and_eq_true, decide_eq_true_eq]; simp only [Bool.or_eq_false_iff, decide_eq_false_iff_not, beq_eq_false_iff_ne] at hd; omega)⟩ (by omega) (by exact aU) (fun w hw => inv_only (by exact aS) hw)
  simp only [decide_eq_false_iff_not] at hlt
  have p0 := all_end (f := okDs) (by omega) hi.2
  repeat' (first | refine wMgTa2 ?_ | refine wMgTa6 ?_ | (refine is_cd ?_; first | refine hd_condA (fun _ => ?_) (fun _ => ?_)) | refine wMgTa5 ?_ | refine wkB (fun _ => ?_) | refine wkC (fun _ _ => ?_) | exact tsA | (refine ts_step rfl (fun HF h1 hle => ?_)))
  refine hd_loopS (ι := Nat) (fun i => i ≤ a.nt ∧ (m.table.take i).all okMm = true) (fun i => [(1, [], .pointer (some ⟨b1, 0, none⟩)), (5, [], .int .i64 i)]) (fun _ => [box b1 [.int .u8 m.kind, .int .u8 m.frm, .int .u16 m.inc, .int .u8 m.to_, .slice a.pl a.nl a.cl, .slice a.pt a.nt a.ct, .int .u8 m.ev.1.1, .int .u16 m.ev.1.2.1, .int .u32 m.ev.1.2.2, .slice a.pv a.nv a.cv, .slice a.pd a.nd a.cd, .int .u8 m.hops, .int .u8 m.origin.1, .int .u16 m.origin.2.1, .int .u32 m.origin.2.2, .slice a.pm a.nm a.cm, .slice a.pi a.ni a.ci] 36]) (fun _ => h) (fun i => a.nt - i) 0 (by simp) (by exact aU) (fun w hw => inv_only (by exact aS) hw) (fun i hi => ?_)
  refine hd_split (c := decide (i < a.nt)) (fun hlt => ?_) (fun hlt => ?_)
  · simp only [decide_eq_true_eq] at hlt
    obtain ⟨y1, hy1⟩ := get_of l2 hlt
    obtain ⟨cs1, hpub, hok1, hptr⟩ := hv.table.at hy1
    obtain ⟨rfl, hz⟩ := rMm_ok hok1
    simp only [MmR, inR] at hz
    repeat' (first | refine wMgTa2 ?_ | refine wMgTa6 ?_ | (refine is_cd ?_; first | refine hd_condA (fun _ => ?_) (fun _ => ?_)) | refine wMgTa5 ?_ | refine wkB (fun _ => ?_) | refine wkC (fun _ _ => ?_) | exact tsA | (refine ts_step rfl (fun HF h1 hle => ?_)))
    · rename_i hd
      ((repeat (refine hd_undefer (by first | exact .inl rfl | exact .inr rfl) (by exact aP) ?_)); apply hd_res0; (focus (first | exact .inl rfl | exact .inr rfl)); rfl; exact aR)
      refine ret_bool ?_
      rw [listsR, all_not (f := okMm) hy1 (by simp only [okMm, decide_eq_false_iff_not]; simp only [decide_eq_true_eq] at hd; omega)]
      simp
    · rename_i hd
      exact hd_again (i + 1) ⟨by omega, all_step hy1 hi.2 (by simp only [okMm, decide_eq_true_eq]; simp only [decide_eq_false_iff_not] at hd; omega)⟩ (by omega) (by exact aU) (fun w hw => inv_only (by exact aS) hw)
  simp only [decide_eq_false_iff_not] at hlt
  have p1 := all_end (f := okMm) (by omega) hi.2
  repeat' (first | refine wMgTa2 ?_ | refine wMgTa6 ?_ | (refine is_cd ?_; first | refine hd_condA (fun _ => ?_) (fun _ => ?_)) | refine wMgTa5 ?_ | refine wkB (fun _ => ?_) | refine wkC (fun _ _ => ?_) | exact tsA | (refine ts_step rfl (fun HF h1 hle => ?_)))
  refine hd_loopS (ι := Nat) (fun i => i ≤ a.nm ∧ (m.marks.take i).all okMk = true) (fun i => [(1, [], .pointer (some ⟨b1, 0, none⟩)), (6, [], .int .i64 i)]) (fun _ => [box b1 [.int .u8 m.kind, .int .u8 m.frm, .int .u16 m.inc, .int .u8 m.to_, .slice a.pl a.nl a.cl, .slice a.pt a.nt a.ct, .int .u8 m.ev.1.1, .int .u16 m.ev.1.2.1, .int .u32 m.ev.1.2.2, .slice a.pv a.nv a.cv, .slice a.pd a.nd a.cd, .int .u8 m.hops, .int .u8 m.origin.1, .int .u16 m.origin.2.1, .int .u32 m.origin.2.2, .slice a.pm a.nm a.cm, .slice a.pi a.ni a.ci] 36]) (fun _ => h) (fun i => a.nm - i) 0 (by simp) (by exact aU) (fun w hw => inv_only (by exact aS) hw) (fun i hi => ?_)
  refine hd_split (c := decide (i < a.nm)) (fun hlt => ?_) (fun hlt => ?_)
  · simp only [decide_eq_true_eq] at hlt
    obtain ⟨y1, hy1⟩ := get_of l3 hlt
    obtain ⟨cs1, hpub, hok1, hptr⟩ := hv.marks.at hy1
    obtain ⟨rfl, hz⟩ := rID_ok hok1
    simp only [MkR, inR] at hz
    repeat' (first | refine wMgTa2 ?_ | refine wMgTa6 ?_ | (refine is_cd ?_; first | refine hd_condA (fun _ => ?_) (fun _ => ?_)) | refine wMgTa5 ?_ | refine wkB (fun _ => ?_) | refine wkC (fun _ _ => ?_) | exact tsA | (refine ts_step rfl (fun HF h1 hle => ?_)))
    · rename_i hd
      ((repeat (refine hd_undefer (by first | exact .inl rfl | exact .inr rfl) (by exact aP) ?_)); apply hd_res0; (focus (first | exact .inl rfl | exact .inr rfl)); rfl; exact aR)
      refine ret_bool ?_
      rw [listsR, all_not (f := okMk) hy1 (by simp only [okMk, decide_eq_false_iff_not]; simp only [decide_eq_true_eq] at hd; omega)]
      simp
    · rename_i hd
      exact hd_again (i + 1) ⟨by omega, all_step hy1 hi.2 (by simp only [okMk, decide_eq_true_eq]; simp only [decide_eq_false_iff_not] at hd; omega)⟩ (by omega) (by exact aU) (fun w hw => inv_only (by exact aS) hw)
  simp only [decide_eq_false_iff_not] at hlt
  have p2 := all_end (f := okMk) (by omega) hi.2
  repeat' (first | refine wMgTa2 ?_ | refine wMgTa6 ?_ | (refine is_cd ?_; first | refine hd_condA (fun _ => ?_) (fun _ => ?_)) | refine wMgTa5 ?_ | refine wkB (fun _ => ?_) | refine wkC (fun _ _ => ?_) | exact tsA | (refine ts_step rfl (fun HF h1 hle => ?_)))
  refine hd_loopS (ι := Nat) (fun i => i ≤ a.ni ∧ (m.ids.take i).all okId = true) (fun i => [(1, [], .pointer (some ⟨b1, 0, none⟩)), (7, [], .int .i64 i)]) (fun _ => [box b1 [.int .u8 m.kind, .int .u8 m.frm, .int .u16 m.inc, .int .u8 m.to_, .slice a.pl a.nl a.cl, .slice a.pt a.nt a.ct, .int .u8 m.ev.1.1, .int .u16 m.ev.1.2.1, .int .u32 m.ev.1.2.2, .slice a.pv a.nv a.cv, .slice a.pd a.nd a.cd, .int .u8 m.hops, .int .u8 m.origin.1, .int .u16 m.origin.2.1, .int .u32 m.origin.2.2, .slice a.pm a.nm a.cm, .slice a.pi a.ni a.ci] 36]) (fun _ => h) (fun i => a.ni - i) 0 (by simp) (by exact aU) (fun w hw => inv_only (by exact aS) hw) (fun i hi => ?_)
  refine hd_split (c := decide (i < a.ni)) (fun hlt => ?_) (fun hlt => ?_)
  · simp only [decide_eq_true_eq] at hlt
    obtain ⟨y1, hy1⟩ := get_of l4 hlt
    obtain ⟨cs1, hpub, hok1, hptr⟩ := hv.ids.at hy1
    obtain ⟨rfl, hz⟩ := rID_ok hok1
    simp only [MkR, inR] at hz
    repeat' (first | refine wMgTa2 ?_ | refine wMgTa6 ?_ | (refine is_cd ?_; first | refine hd_condA (fun _ => ?_) (fun _ => ?_)) | refine wMgTa5 ?_ | refine wkB (fun _ => ?_) | refine wkC (fun _ _ => ?_) | exact tsA | (refine ts_step rfl (fun HF h1 hle => ?_)))
    · rename_i hd
      ((repeat (refine hd_undefer (by first | exact .inl rfl | exact .inr rfl) (by exact aP) ?_)); apply hd_res0; (focus (first | exact .inl rfl | exact .inr rfl)); rfl; exact aR)
      refine ret_bool ?_
      rw [listsR, all_not (f := okId) hy1 (by simpa using hd)]
      simp
    · rename_i hd
      exact hd_again (i + 1) ⟨by omega, all_step hy1 hi.2 (by simpa using hd)⟩ (by omega) (by exact aU) (fun w hw => inv_only (by exact aS) hw)
  simp only [decide_eq_false_iff_not] at hlt
  have p3 := all_end (f := okId) (by omega) hi.2
  repeat' (first | refine wMgTa2 ?_ | refine wMgTa6 ?_ | (refine is_cd ?_; first | refine hd_condA (fun _ => ?_) (fun _ => ?_)) | refine wMgTa5 ?_ | refine wkB (fun _ => ?_) | refine wkC (fun _ _ => ?_) | exact tsA | (refine ts_step rfl (fun HF h1 hle => ?_)))
  ((repeat (refine hd_undefer (by first | exact .inl rfl | exact .inr rfl) (by exact aP) ?_)); apply hd_res0; (focus (first | exact .inl rfl | exact .inr rfl)); rfl; exact aR)
  exact ret_bool (by simp only [listsR, e0, p0, p1, p2, p3, Bool.and_self])
def noEv (m : MsD) : Bool := decide (m.ev.1 = mk0) && decide (m.ev.2.1.length = 0) && decide (m.ev.2.2.length = 0)
def refR (m : MsD) : Bool := kdM m.kind && decide (m.frm < 12) && decide (m.to_ < 12) && decide (m.inc ≠ 0) && listsR m && (!mE m.kind || fEr m) && okMk m.origin &&
  (mL m.kind || decide (m.list.length = 0)) && (mT m.kind || decide (m.table.length = 0)) && (mE m.kind || fEn m) && (mH m.kind || decide (m.hops = 0)) && (mO m.kind || decide (m.origin = mk0)) && (mO m.kind || decide (m.marks.length = 0)) && (mJ m.kind || decide (m.ids.length = 0))
theorem refR_eq (m : MsD) : refR m = rightM m := by
  have hnil : ∀ {α : Type} (l : List α), decide (l.length = 0) = true → l = [] := fun l h => List.eq_nil_of_length_eq_zero (by simpa using h)
  rw [Bool.eq_iff_iff]
  simp only [refR, rightM, listsR, Bool.and_eq_true]
  constructor
  · rintro ⟨⟨⟨⟨⟨⟨⟨⟨⟨⟨⟨⟨⟨a1, a2⟩, a3⟩, a4⟩, ⟨⟨⟨⟨⟨⟨⟨b1, b2⟩, b3⟩, b4⟩, b5⟩, b6⟩, b7⟩, b8⟩⟩, c1⟩, c2⟩, d0⟩, d1⟩, d2⟩, d3⟩, d4⟩, d5⟩, d6⟩
    refine ⟨⟨⟨⟨⟨⟨⟨⟨⟨⟨a1, a2⟩, a3⟩, a4⟩, ?_⟩, ?_⟩, ?_⟩, d3⟩, ?_⟩, ?_⟩, ?_⟩
    · cases e : mL m.kind <;> simp_all [fLr]
    · cases e : mT m.kind <;> simp_all [fTr]
    · cases e : mE m.kind <;> simp_all
    · cases e : mO m.kind <;> simp_all [fOr]
    · cases e : mO m.kind <;> simp_all [fMr]
    · cases e : mJ m.kind <;> simp_all [fIr]
  · rintro ⟨⟨⟨⟨⟨⟨⟨⟨⟨⟨a1, a2⟩, a3⟩, a4⟩, b0⟩, b1⟩, b2⟩, b3⟩, b4⟩, b5⟩, b6⟩
    have e0 : decide (m.list.length ≤ 64) = true ∧ m.list.all okDs = true ∧ (mL m.kind || decide (m.list.length = 0)) = true := by
      cases e : mL m.kind <;> rw [e] at b0
      · have := hnil _ b0; simp [this]
      · simp only [cond_true, fLr, Bool.and_eq_true] at b0; exact ⟨b0.1, b0.2, rfl⟩
    have e1 : decide (m.table.length ≤ 12) = true ∧ m.table.all okMm = true ∧ (mT m.kind || decide (m.table.length = 0)) = true := by
      cases e : mT m.kind <;> rw [e] at b1
      · have := hnil _ b1; simp [this]
      · simp only [cond_true, fTr, Bool.and_eq_true] at b1; exact ⟨b1.1, b1.2, rfl⟩
    have e2 : (!mE m.kind || fEr m) = true ∧ (mE m.kind || fEn m) = true := by
      cases e : mE m.kind <;> rw [e] at b2
      · exact ⟨rfl, b2⟩
      · exact ⟨b2, rfl⟩
    have e4 : okMk m.origin = true ∧ (mO m.kind || decide (m.origin = mk0)) = true := by
      cases e : mO m.kind <;> rw [e] at b4
      · have h0 : m.origin = mk0 := by simpa using b4
        rw [h0]; exact ⟨by decide, by decide⟩
      · exact ⟨b4, rfl⟩
    have e5 : decide (m.marks.length ≤ 12) = true ∧ m.marks.all okMk = true ∧ (mO m.kind || decide (m.marks.length = 0)) = true := by
      cases e : mO m.kind <;> rw [e] at b5
      · have := hnil _ b5; simp [this]
      · simp only [cond_true, fMr, Bool.and_eq_true] at b5; exact ⟨b5.1, b5.2, rfl⟩
    have e6 : decide (m.ids.length ≤ 255) = true ∧ m.ids.all okId = true ∧ (mJ m.kind || decide (m.ids.length = 0)) = true := by
      cases e : mJ m.kind <;> rw [e] at b6
      · have := hnil _ b6; simp [this]
      · simp only [cond_true, fIr, Bool.and_eq_true] at b6; exact ⟨b6.1, b6.2, rfl⟩
    exact ⟨⟨⟨⟨⟨⟨⟨⟨⟨⟨⟨⟨⟨a1, a2⟩, a3⟩, a4⟩, ⟨⟨⟨⟨⟨⟨⟨e0.1, e1.1⟩, e5.1⟩, e6.1⟩, e0.2.1⟩, e1.2.1⟩, e5.2.1⟩, e6.2.1⟩⟩, e2.1⟩, e4.1⟩, e0.2.2⟩, e1.2.2⟩, e2.2⟩, b3⟩, e4.2⟩, e5.2.2⟩, e6.2.2⟩

theorem pvMgTa3 {A : Prop} (h : A := by (first | rfl | fail)) : A := h
theorem zMgTa2 {A : Prop} (h : A := by ((first | (apply OK.plain; rfl) | (apply OK.guarded; rfl; rfl; (intro hg; (try have hk := hg.2); (try have hl := hg.2.2); (try have hm := hg.2.2.2)))); (first | (apply od_call; exact aX; infer_instance; exact aE; exact aN; (focus (first | exact ref20_has _ _ | exact ref20_lists _ (hv.mono (by exact aL)) | exact ref20_id _))) ))) : A := h
theorem wMgTa7 {A B : Prop} (k : B) (h : Kx B → A := by intro k; (first | (refine is_pu ?_ (by rfl); first | refine hd_opAB ?_) | (refine is_pn ?_; first | refine hd_pn_nil ?_ | refine hd_pnAB ?_ | (refine hd_pn_op rfl ?_)) | (refine is_co ?_; first | ((first | apply hd_ok | apply ch_ok); (focus exact zMgTa2); rfl; rfl) | refine hd_storeA ?_ | refine hd_copyA ?_) | (refine is_ni ?_; first | (refine is_on ?_; first | refine pn_barA ?_ | refine pn_goA ?_ | refine pt_goA ?_ | refine ts_onA ?_) | refine hd_nil ?_) | refine wkA ?_ | (refine is_ch ?_; refine ch_opAB ?_) | ((first | apply hd_ok | apply ch_ok); (focus exact zMgTa2); rfl; rfl)); exact k.go) : A := h ⟨k⟩
theorem wMgTa8 {A B : Prop} (k : B) (h : Kx B → A := by intro k; ((refine is_cw ?_; refine is_cd ?_; first | (refine hd_condT (by exact aX) (by exact pvMgTa3) ?_) | (refine hd_condF (by exact aX) (by exact pvMgTa3) ?_))); exact k.go) : A := h ⟨k⟩
theorem ref20_Right {m : MsD} {a : MsP} (h : PH) (hv : VMsP h a m) : Det Tryz.prog 12 #[.agg #[.int .u8 m.kind, .int .u8 m.frm, .int .u16 m.inc, .int .u8 m.to_, .slice a.pl a.nl a.cl, .slice a.pt a.nt a.ct, .int .u8 m.ev.1.1, .int .u16 m.ev.1.2.1, .int .u32 m.ev.1.2.2, .slice a.pv a.nv a.cv, .slice a.pd a.nd a.cd, .int .u8 m.hops, .int .u8 m.origin.1, .int .u16 m.origin.2.1, .int .u32 m.origin.2.2, .slice a.pm a.nm a.cm, .slice a.pi a.ni a.ci]] h (.bool (rightM m)) := by
  have l1 := hv.list.len
  have l2 := hv.table.len
  have l3 := hv.marks.len
  have l4 := hv.ids.len
  have l5 := hv.vals.len
  have l6 := hv.data.len
  have i1 := hv.r.kind
  have i2 := hv.r.inc
  simp only [inR] at i1 i2
  rw [← refR_eq]
  refine spec_enter (args := [_]) Tryz.func12 rfl Tryz.ntmps12 rfl (fun w l => ?_)
  repeat' (first | refine wMgTa2 ?_ | refine wMgTa8 ?_ | (refine is_cd ?_; first | refine hd_condA (fun _ => ?_) (fun _ => ?_)) | refine wMgTa7 ?_ | refine wkB (fun _ => ?_) | refine wkC (fun _ _ => ?_) | exact tsA | (refine ts_step rfl (fun HF h1 hle => ?_)))
  all_goals ((repeat (refine hd_undefer (by first | exact .inl rfl | exact .inr rfl) (by exact aP) ?_)); apply hd_res0; (focus (first | exact .inl rfl | exact .inr rfl)); rfl; exact aR)
  · rename_i hd
    refine ret_bool (Eq.symm ?_)
    rw [Bool.eq_false_iff]
    intro hr
    simp only [refR, kdM, Bool.and_eq_true, decide_eq_true_eq] at hr
    obtain ⟨⟨⟨⟨⟨⟨⟨⟨⟨⟨⟨⟨⟨⟨a0, a1⟩, a2⟩, a3⟩, a4⟩, b0⟩, c1⟩, c2⟩, d0⟩, d1⟩, d2⟩, d3⟩, d4⟩, d5⟩, d6⟩ := hr
    simp only [b0, Bool.not_true, Bool.or_false, Bool.or_eq_true, decide_eq_true_eq, beq_iff_eq] at hd
    omega
  · rename_i hd1 hd
    refine ret_bool (Eq.symm ?_)
    rw [Bool.eq_false_iff]
    intro hr
    simp only [refR, kdM, Bool.and_eq_true, decide_eq_true_eq] at hr
    obtain ⟨⟨⟨⟨⟨⟨⟨⟨⟨⟨⟨⟨⟨⟨a0, a1⟩, a2⟩, a3⟩, a4⟩, b0⟩, c1⟩, c2⟩, d0⟩, d1⟩, d2⟩, d3⟩, d4⟩, d5⟩, d6⟩ := hr
    simp only [Bool.or_eq_true, Bool.and_eq_true, decide_eq_true_eq, Bool.not_eq_true'] at hd
    simp only [okMk, decide_eq_true_eq] at c2
    rcases hd with ⟨e, hx⟩ | hx
    · rw [e] at c1
      simp only [fEr, l5, l6, Bool.not_true, Bool.false_or, Bool.and_eq_true, decide_eq_true_eq] at c1
      rcases hx with (hx | hx) | hx
      · rw [c1.1.1] at hx; cases hx
      · omega
      · omega
    · omega
  · rename_i hd1 q3 q4 hd
    refine ret_bool ?_
    simp only [Bool.or_eq_false_iff, decide_eq_false_iff_not, beq_eq_false_iff_ne, Bool.not_eq_false'] at hd1
    obtain ⟨⟨⟨⟨⟨a0, a1⟩, a2⟩, a3⟩, a4⟩, b0⟩ := hd1
    have e0 : kdM m.kind = true := by simp only [kdM, Bool.and_eq_true, decide_eq_true_eq]; omega
    have e1 : decide (m.frm < 12) = true := by simp; omega
    have e2 : decide (m.to_ < 12) = true := by simp; omega
    have e3 : decide (m.inc ≠ 0) = true := by simpa using a4
    have e4 : (!mE m.kind || fEr m) = true ∧ okMk m.origin = true := by
      simp only [Bool.or_eq_false_iff, decide_eq_false_iff_not] at hd
      refine ⟨?_, by simp only [okMk, decide_eq_true_eq]; omega⟩
      have h1 := hd.1
      cases e : mE m.kind
      · rfl
      · rw [e] at h1
        simp only [Bool.true_and, Bool.or_eq_false_iff, decide_eq_false_iff_not, Bool.not_eq_false'] at h1
        simp only [fEr, l5, l6, h1.1.1, Bool.not_true, Bool.false_or, Bool.true_and, Bool.and_eq_true, decide_eq_true_eq]
        omega
    have z : ∀ n : Nat, ((n : Int) == 0) = decide (n = 0) := fun n => by rw [Bool.eq_iff_iff]; simp
    have z2 : (m.hops == 0) = decide (m.hops = 0) := by rw [Bool.eq_iff_iff]; simp
    have q1 : eqL [.int .u8 m.ev.1.1, .int .u16 m.ev.1.2.1, .int .u32 m.ev.1.2.2] [.int .u8 0, .int .u16 0, .int .u32 0] = decide (m.ev.1 = mk0) := eq3_eq (b := mk0)
    have q2 : eqL [.int .u8 m.origin.1, .int .u16 m.origin.2.1, .int .u32 m.origin.2.2] [.int .u8 0, .int .u16 0, .int .u32 0] = decide (m.origin = mk0) := eq3_eq (b := mk0)
    simp only [refR, e0, e1, e2, e3, b0, e4.1, e4.2, Bool.true_and, fEn, l1, l2, l3, l4, l5, l6, z, z2, q1, q2]
end Go.Proofs.YtmpfeaoofkkhjaaGreat
