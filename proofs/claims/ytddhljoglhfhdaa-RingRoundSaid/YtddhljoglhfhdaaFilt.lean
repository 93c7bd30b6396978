/- What package filter yields. -/
import Derived.Test.YtddhljoglhfhdaaFiltP
namespace Go.Proofs.Ytddhljoglhfhdaa
open Go Go.GV
attribute [local irreducible] cw Go.GV.SpecM Go.GV.wpList Exit.then Exit.inBlock Go.GV.bodyPost wpPl wpPm wpPn TS rnd rPost YieldsB wpPT ptK
set_option maxRecDepth 10000
set_option maxHeartbeats 4000000
set_option linter.unusedVariables false
set_option linter.unusedSimpArgs false
/-- What the iterator yields. -/
--%set FIRST
theorem ref5_Right {p q : Option Addr} {n c m d : Nat} {a b : List Sp} (h : PH) (ha : SlS h p n c a) (hb : SlS h q m d b) : Det Try.prog 28 #[.slice p n c, .slice q m d] h (.bool (rightF a b)) := by
  have la := ha.len
  have lb := hb.len
  have tb := hb.top
  refine spec_enter (args := [_, _]) Try.func28 rfl Try.ntmps28 rfl (fun w l => ?_)
  repeat' (first | (refine is_pu ?_ (by rfl); first  | fail | refine hd_opAB ?_ | fail) | (refine is_pn ?_; first | refine hd_pn_nil ?_ | fail  | fail | refine hd_pnAB ?_ | fail | (refine hd_pn_op rfl ?_)) | (refine is_co ?_; first | fail  | ((first | apply hd_ok | apply ch_ok); (focus ((first | (apply OK.plain; rfl) | (apply OK.guarded; rfl; rfl; (intro hg; (try have hk := hg.2); (try have hl := hg.2.2); (try have hm := hg.2.2.2)))); (first | (apply od_call; exact aX; infer_instance; exact aE; exact aN; (focus (first | exact ref4_Meet _ _ _ _ _ | exact ref4_Covers _ _ _ _ _ | exact ref4_Has _ _ _ _))) ))); rfl; rfl) | refine hd_storeA ?_ | refine hd_boxA (fun _ => ?_) | refine hd_alloc rfl (fun _ => ?_) | refine hd_makeA (fun _ => ?_) | refine hd_copyA ?_ | refine hd_litA (fun _ => ?_) | refine hd_appendA (fun _ _ => ?_) | refine hd_storeRA ?_) | (refine is_ni ?_; first | (refine is_on ?_; first | refine pn_barA ?_ | refine pn_goA ?_ | refine pt_goA ?_  | refine ts_onA ?_) | refine hd_nil ?_) | (refine is_cw ?_; first | (refine is_rg ?_; first | fail | fail | refine hd_draw follows_any (by decide +kernel) ?_) | (refine is_cd ?_; first | (refine hd_condT (by exact aX) (by (first | rfl | (simp only [decide_eq_true_eq, decide_eq_false_iff_not]; omega) | fail)) ?_) | (refine hd_condF (by exact aX) (by (first | rfl | (simp only [decide_eq_true_eq, decide_eq_false_iff_not]; omega) | fail)) ?_) | (refine hd_cond (by exact aX) (fun _ => ?_) (fun _ => ?_))) | fail | refine wkA ?_) | refine wkA ?_ | (refine is_ch ?_; refine ch_opAB ?_) | ((first | apply hd_ok | apply ch_ok); (focus ((first | (apply OK.plain; rfl) | (apply OK.guarded; rfl; rfl; (intro hg; (try have hk := hg.2); (try have hl := hg.2.2); (try have hm := hg.2.2.2)))); (first | (apply od_call; exact aX; infer_instance; exact aE; exact aN; (focus (first | exact ref4_Meet _ _ _ _ _ | exact ref4_Covers _ _ _ _ _ | exact ref4_Has _ _ _ _))) ))); rfl; rfl) | fail | fail | exact tsA | fail | (refine ts_step rfl (fun HF h1 hle => ?_)) | fail | fail)
  · rename_i hc
    ((repeat (refine hd_undefer (by first | exact .inl rfl | exact .inr rfl) (by exact aP) ?_)); apply hd_res0; (focus (first | exact .inl rfl | exact .inr rfl)); rfl; exact aR)
    exact ret_bool (by simp at hc; simp [rightF]; left; exact List.length_eq_zero_iff.1 (by omega))
  · rename_i hc0 hc
    ((repeat (refine hd_undefer (by first | exact .inl rfl | exact .inr rfl) (by exact aP) ?_)); apply hd_res0; (focus (first | exact .inl rfl | exact .inr rfl)); rfl; exact aR)
    exact ret_bool (by simp at hc hc0; simp only [rightF]; rw [decide_eq_false (by omega), decide_eq_false (by omega)]; rfl)
  rename_i hc0 hc
  have hmn : m = n := by simp at hc; omega
  subst hmn
  have hm0 : m ≠ 0 := by simp at hc0; omega
  refine hd_loopS (ι := Nat) (fun i => i ≤ m ∧ ((a.zip b).take i).all rgb = true) (fun i => [(0, [], .slice p m c), (1, [], .slice q m d), (5, [], .int .i64 i)]) (fun _ => []) (fun _ => h) (fun i => m - i) 0 (by simp) (by exact aU) (fun _ hw => hw) (fun i hi => ?_)
  refine hd_split (c := decide (i < m)) (fun hlt => ?_) (fun hlt => ?_)
  · simp only [decide_eq_true_eq] at hlt
    obtain ⟨x, hx⟩ := get_of la hlt
    obtain ⟨hpub, hx1, hx2, hptr⟩ := SlS_at ha hx
    obtain ⟨y, hy⟩ := get_of lb hlt
    obtain ⟨hpub2, hy1, hy2, hptr2⟩ := SlS_at hb hy
    have hz := zip_at hx hy
    repeat' (first | (refine is_pu ?_ (by rfl); first  | fail | refine hd_opAB ?_ | fail) | (refine is_pn ?_; first | refine hd_pn_nil ?_ | fail  | fail | refine hd_pnAB ?_ | fail | (refine hd_pn_op rfl ?_)) | (refine is_co ?_; first | fail  | ((first | apply hd_ok | apply ch_ok); (focus ((first | (apply OK.plain; rfl) | (apply OK.guarded; rfl; rfl; (intro hg; (try have hk := hg.2); (try have hl := hg.2.2); (try have hm := hg.2.2.2)))); (first | (apply od_call; exact aX; infer_instance; exact aE; exact aN; (focus (first | exact ref4_Meet _ _ _ _ _ | exact ref4_Covers _ _ _ _ _ | exact ref4_Has _ _ _ _))) ))); rfl; rfl) | refine hd_storeA ?_ | refine hd_boxA (fun _ => ?_) | refine hd_alloc rfl (fun _ => ?_) | refine hd_makeA (fun _ => ?_) | refine hd_copyA ?_ | refine hd_litA (fun _ => ?_) | refine hd_appendA (fun _ _ => ?_) | refine hd_storeRA ?_) | (refine is_ni ?_; first | (refine is_on ?_; first | refine pn_barA ?_ | refine pn_goA ?_ | refine pt_goA ?_  | refine ts_onA ?_) | refine hd_nil ?_) | (refine is_cw ?_; first | (refine is_rg ?_; first | fail | fail | refine hd_draw follows_any (by decide +kernel) ?_) | (refine is_cd ?_; first | (refine hd_condT (by exact aX) (by (first | rfl | (simp only [decide_eq_true_eq, decide_eq_false_iff_not]; omega) | fail)) ?_) | (refine hd_condF (by exact aX) (by (first | rfl | (simp only [decide_eq_true_eq, decide_eq_false_iff_not]; omega) | fail)) ?_) | (refine hd_cond (by exact aX) (fun _ => ?_) (fun _ => ?_))) | fail | refine wkA ?_) | refine wkA ?_ | (refine is_ch ?_; refine ch_opAB ?_) | ((first | apply hd_ok | apply ch_ok); (focus ((first | (apply OK.plain; rfl) | (apply OK.guarded; rfl; rfl; (intro hg; (try have hk := hg.2); (try have hl := hg.2.2); (try have hm := hg.2.2.2)))); (first | (apply od_call; exact aX; infer_instance; exact aE; exact aN; (focus (first | exact ref4_Meet _ _ _ _ _ | exact ref4_Covers _ _ _ _ _ | exact ref4_Has _ _ _ _))) ))); rfl; rfl) | fail | fail | exact tsA | fail | (refine ts_step rfl (fun HF h1 hle => ?_)) | fail | fail)
    · rename_i hd
      ((repeat (refine hd_undefer (by first | exact .inl rfl | exact .inr rfl) (by exact aP) ?_)); apply hd_res0; (focus (first | exact .inl rfl | exact .inr rfl)); rfl; exact aR)
      refine ret_bool ?_
      simp only [rightF, all_not (f := rgb) hz (by simp only [rgb, covb, cov]; grind)]
      rw [decide_eq_false (show ¬ b.length = 0 by omega)]; simp
    · rename_i hd
      refine hd_again (i + 1) ⟨by omega, all_step hz hi.2 (by simp only [rgb, covb, cov]; grind)⟩ (by omega) (by exact aU) (fun w hw => inv_only .nil hw)
  · simp only [decide_eq_false_iff_not] at hlt
    repeat' (first | (refine is_pu ?_ (by rfl); first  | fail | refine hd_opAB ?_ | fail) | (refine is_pn ?_; first | refine hd_pn_nil ?_ | fail  | fail | refine hd_pnAB ?_ | fail | (refine hd_pn_op rfl ?_)) | (refine is_co ?_; first | fail  | ((first | apply hd_ok | apply ch_ok); (focus ((first | (apply OK.plain; rfl) | (apply OK.guarded; rfl; rfl; (intro hg; (try have hk := hg.2); (try have hl := hg.2.2); (try have hm := hg.2.2.2)))); (first | (apply od_call; exact aX; infer_instance; exact aE; exact aN; (focus (first | exact ref4_Meet _ _ _ _ _ | exact ref4_Covers _ _ _ _ _ | exact ref4_Has _ _ _ _))) ))); rfl; rfl) | refine hd_storeA ?_ | refine hd_boxA (fun _ => ?_) | refine hd_alloc rfl (fun _ => ?_) | refine hd_makeA (fun _ => ?_) | refine hd_copyA ?_ | refine hd_litA (fun _ => ?_) | refine hd_appendA (fun _ _ => ?_) | refine hd_storeRA ?_) | (refine is_ni ?_; first | (refine is_on ?_; first | refine pn_barA ?_ | refine pn_goA ?_ | refine pt_goA ?_  | refine ts_onA ?_) | refine hd_nil ?_) | (refine is_cw ?_; first | (refine is_rg ?_; first | fail | fail | refine hd_draw follows_any (by decide +kernel) ?_) | (refine is_cd ?_; first | (refine hd_condT (by exact aX) (by (first | rfl | (simp only [decide_eq_true_eq, decide_eq_false_iff_not]; omega) | fail)) ?_) | (refine hd_condF (by exact aX) (by (first | rfl | (simp only [decide_eq_true_eq, decide_eq_false_iff_not]; omega) | fail)) ?_) | (refine hd_cond (by exact aX) (fun _ => ?_) (fun _ => ?_))) | fail | refine wkA ?_) | refine wkA ?_ | (refine is_ch ?_; refine ch_opAB ?_) | ((first | apply hd_ok | apply ch_ok); (focus ((first | (apply OK.plain; rfl) | (apply OK.guarded; rfl; rfl; (intro hg; (try have hk := hg.2); (try have hl := hg.2.2); (try have hm := hg.2.2.2)))); (first | (apply od_call; exact aX; infer_instance; exact aE; exact aN; (focus (first | exact ref4_Meet _ _ _ _ _ | exact ref4_Covers _ _ _ _ _ | exact ref4_Has _ _ _ _))) ))); rfl; rfl) | fail | fail | exact tsA | fail | (refine ts_step rfl (fun HF h1 hle => ?_)) | fail | fail)
    ((repeat (refine hd_undefer (by first | exact .inl rfl | exact .inr rfl) (by exact aP) ?_)); apply hd_res0; (focus (first | exact .inl rfl | exact .inr rfl)); rfl; exact aR)
    refine ret_bool ?_
    simp only [rightF, all_end (xs := a.zip b) (by simp; omega) hi.2]
    rw [decide_eq_true (show b.length = a.length by omega)]; simp
end Go.Proofs.Ytddhljoglhfhdaa
