/- What packages desc, near and grapevinelow say of descriptors. -/
import Derived.Test.YtddhljoglhfhdaaDscP
import Derived.Test.YtddhljoglhfhdaaFilt2
namespace Go.Proofs.Ytddhljoglhfhdaa
open Go Go.GV
attribute [local irreducible] cw Go.GV.SpecM Go.GV.wpList Exit.then Exit.inBlock Go.GV.bodyPost wpPl wpPm wpPn TS rnd rPost YieldsB wpPT ptK
set_option maxRecDepth 10000
set_option maxHeartbeats 4000000
set_option linter.unusedVariables false
set_option linter.unusedSimpArgs false

theorem newer_eq (a b : DD) : (bif a.inc != b.inc then decide (b.inc < a.inc) else decide (a.age < b.age)) = newer a b := by
  unfold newer
  by_cases h : a.inc = b.inc
  · simp [h]
  · have : (a.inc != b.inc) = true := by simpa using h
    rw [this]; simp [h]
theorem near_newer {u v : Value} {a b : DD} (h : PH) (hu : VDs h u a) (hv : VDs h v b) : Det Try.prog 32 #[u, v] h (.bool (newer a b)) := by
  obtain ⟨p, n, c, rfl, ha, _⟩ := hu
  obtain ⟨q, m, d, rfl, hb, _⟩ := hv
  refine spec_enter (args := [_, _]) Try.func32 rfl Try.ntmps32 rfl (fun w l => ?_)
  repeat' (first | fail | fail | refine wkA ?_ | fail | fail | refine hd_draw follows_any (by decide +kernel) ?_ | (refine is_on ?_; first | refine ts_onA ?_ | refine pn_barA ?_ | refine pn_goA ?_ | refine pt_goA ?_) | refine hd_nil ?_ | exact tsA | fail | (refine hd_cond (by exact aX) (fun _ => ?_) (fun _ => ?_))  | fail | refine hd_opA ?_ | refine ch_opA ?_ | refine hd_pnA ?_ | fail | ((first | apply hd_ok | apply ch_ok); (focus ((first | (apply OK.plain; rfl) | (apply OK.guarded; rfl; rfl; (intro hg; (try have hk := hg.2); (try have hl := hg.2.2); (try have hm := hg.2.2.2)))); (first | (apply od_call; exact aX; infer_instance; exact aE; exact aN; (focus (first | fail))) ))); rfl; rfl) | (refine hd_pn_op rfl ?_) | (refine ts_step rfl (fun HF h1 hle => ?_)) | refine hd_storeA ?_ | refine hd_boxA (fun _ => ?_) | refine hd_alloc rfl (fun _ => ?_) | refine hd_makeA (fun _ => ?_) | refine hd_copyA ?_ | refine hd_litA (fun _ => ?_) | refine hd_appendA (fun _ _ => ?_) | refine hd_storeRA ?_)
  all_goals ((repeat (refine hd_undefer (by first | exact .inl rfl | exact .inr rfl) (by exact aP) ?_)); apply hd_res0; (focus (first | exact .inl rfl | exact .inr rfl)); rfl; exact aR)
  · rename_i hc; exact ret_bool (by rw [← newer_eq, hc]; rfl)
  · rename_i hc; exact ret_bool (by rw [← newer_eq, hc]; rfl)
theorem ref09_Newer {u v : Value} {a b : DD} (h : PH) (hu : VDs h u a) (hv : VDs h v b) : Det Try.prog 43 #[u, v] h (.bool (newer a b)) := by
  obtain ⟨p, n, c, rfl, ha, _⟩ := hu
  obtain ⟨q, m, d, rfl, hb, _⟩ := hv
  refine spec_enter (args := [_, _]) Try.func43 rfl Try.ntmps43 rfl (fun w l => ?_)
  repeat' (first | fail | fail | refine wkA ?_ | fail | fail | refine hd_draw follows_any (by decide +kernel) ?_ | (refine is_on ?_; first | refine ts_onA ?_ | refine pn_barA ?_ | refine pn_goA ?_ | refine pt_goA ?_) | refine hd_nil ?_ | exact tsA | fail | (refine hd_cond (by exact aX) (fun _ => ?_) (fun _ => ?_))  | fail | refine hd_opA ?_ | refine ch_opA ?_ | refine hd_pnA ?_ | fail | ((first | apply hd_ok | apply ch_ok); (focus ((first | (apply OK.plain; rfl) | (apply OK.guarded; rfl; rfl; (intro hg; (try have hk := hg.2); (try have hl := hg.2.2); (try have hm := hg.2.2.2)))); (first | (apply od_call; exact aX; infer_instance; exact aE; exact aN; (focus (first | fail))) ))); rfl; rfl) | (refine hd_pn_op rfl ?_) | (refine ts_step rfl (fun HF h1 hle => ?_)) | refine hd_storeA ?_ | refine hd_boxA (fun _ => ?_) | refine hd_alloc rfl (fun _ => ?_) | refine hd_makeA (fun _ => ?_) | refine hd_copyA ?_ | refine hd_litA (fun _ => ?_) | refine hd_appendA (fun _ _ => ?_) | refine hd_storeRA ?_)
  all_goals ((repeat (refine hd_undefer (by first | exact .inl rfl | exact .inr rfl) (by exact aP) ?_)); apply hd_res0; (focus (first | exact .inl rfl | exact .inr rfl)); rfl; exact aR)
  · rename_i hc; exact ret_bool (by rw [← newer_eq, hc]; rfl)
  · rename_i hc; exact ret_bool (by rw [← newer_eq, hc]; rfl)
theorem low_Spans {p q : Option Addr} {n c m d : Nat} {xs ys : List Sp} (h : PH) (hx : SlS h p n c xs) (hy : SlS h q m d ys) : Det Try.prog 38 #[.slice p n c, .slice q m d] h (.bool (decide (xs = ys))) := by
  have hl := hx.len
  have hl2 := hy.len
  have ht := hx.top
  refine spec_enter (args := [_, _]) Try.func38 rfl Try.ntmps38 rfl (fun w l => ?_)
  repeat' (first | fail | fail | refine wkA ?_ | fail | (refine hd_planT (id := 6) [(0, 17, 1), (0, 18, 32), (3, 19, 196608), (4, 20, 262144), (0, 21, 2), (0, 22, 32), (48, 23, 3145728), (64, 24, 4194304), (136, 25, 8912896)] [] [.one 0 true, .one 1 true, .one 2 true, .one 3 true, .one 4 true, .one 5 true, .one 6 true, .one 7 true, .one 8 true] follows_any (by kernel_rfl) (by kernel_rfl) (by kernel_rfl) rfl ?_) | refine hd_draw follows_any (by decide +kernel) ?_ | (refine is_on ?_; first | refine ts_onA ?_ | refine pn_barA ?_ | refine pn_goA ?_ | refine pt_goA ?_) | refine hd_nil ?_ | exact tsA | fail | (refine hd_cond (by exact aX) (fun _ => ?_) (fun _ => ?_))  | fail | refine hd_opA ?_ | refine ch_opA ?_ | refine hd_pnA ?_ | fail | ((first | apply hd_ok | apply ch_ok); (focus ((first | (apply OK.plain; rfl) | (apply OK.guarded; rfl; rfl; (intro hg; (try have hk := hg.2); (try have hl := hg.2.2); (try have hm := hg.2.2.2)))); (first | (apply od_call; exact aX; infer_instance; exact aE; exact aN; (focus (first | fail))) ))); rfl; rfl) | (refine hd_pn_op rfl ?_) | (refine ts_step rfl (fun HF h1 hle => ?_)) | refine hd_storeA ?_ | refine hd_boxA (fun _ => ?_) | refine hd_alloc rfl (fun _ => ?_) | refine hd_makeA (fun _ => ?_) | refine hd_copyA ?_ | refine hd_litA (fun _ => ?_) | refine hd_appendA (fun _ _ => ?_) | refine hd_storeRA ?_)
  · rename_i hc
    ((repeat (refine hd_undefer (by first | exact .inl rfl | exact .inr rfl) (by exact aP) ?_)); apply hd_res0; (focus (first | exact .inl rfl | exact .inr rfl)); rfl; exact aR)
    refine ret_bool ?_
    simp at hc
    simp; intro e; rw [e] at hl; omega
  · rename_i hc
    have hmn : n = m := by simp at hc; omega
    subst hmn
    refine hd_loopS (ι := Nat) (fun i => i ≤ n ∧ xs.take i = ys.take i) (fun i => [(0, [], .slice p n c), (1, [], .slice q n d), (12, [], .int .i64 n), (13, [], .int .i64 i)]) (fun _ => []) (fun _ => h) (fun i => n - i) 0 (by simp) (by exact aU) (fun _ hw => hw) (fun i hi => ?_)
    refine hd_split (c := decide (i < n)) (fun hlt => ?_) (fun hlt => ?_)
    · simp only [decide_eq_true_eq] at hlt
      obtain ⟨y1, hy1⟩ := get_of hl hlt
      obtain ⟨hpub, hr1, hr1', hptr⟩ := SlS_at hx hy1
      obtain ⟨y2, hy2⟩ := get_of hl2 hlt
      obtain ⟨hpub2, hr2, hr2', hptr2⟩ := SlS_at hy hy2
      repeat' (first | fail | fail | refine wkA ?_ | fail | (refine hd_planT (id := 6) [(0, 17, 1), (0, 18, 32), (3, 19, 196608), (4, 20, 262144), (0, 21, 2), (0, 22, 32), (48, 23, 3145728), (64, 24, 4194304), (136, 25, 8912896)] [] [.one 0 true, .one 1 true, .one 2 true, .one 3 true, .one 4 true, .one 5 true, .one 6 true, .one 7 true, .one 8 true] follows_any (by kernel_rfl) (by kernel_rfl) (by kernel_rfl) rfl ?_) | refine hd_draw follows_any (by decide +kernel) ?_ | (refine is_on ?_; first | refine ts_onA ?_ | refine pn_barA ?_ | refine pn_goA ?_ | refine pt_goA ?_) | refine hd_nil ?_ | exact tsA | fail | (refine hd_condT (by exact aX) (by (first | rfl | (simp only [decide_eq_true_eq, decide_eq_false_iff_not]; omega) | fail)) ?_) | (refine hd_condF (by exact aX) (by (first | rfl | (simp only [decide_eq_true_eq, decide_eq_false_iff_not]; omega) | fail)) ?_) | (refine hd_cond (by exact aX) (fun _ => ?_) (fun _ => ?_))  | fail | refine hd_opA ?_ | refine ch_opA ?_ | refine hd_pnA ?_ | fail | ((first | apply hd_ok | apply ch_ok); (focus ((first | (apply OK.plain; rfl) | (apply OK.guarded; rfl; rfl; (intro hg; (try have hk := hg.2); (try have hl := hg.2.2); (try have hm := hg.2.2.2)))); (first | (apply od_call; exact aX; infer_instance; exact aE; exact aN; (focus (first | fail))) ))); rfl; rfl) | (refine hd_pn_op rfl ?_) | (refine ts_step rfl (fun HF h1 hle => ?_)) | refine hd_storeA ?_ | refine hd_boxA (fun _ => ?_) | refine hd_alloc rfl (fun _ => ?_) | refine hd_makeA (fun _ => ?_) | refine hd_copyA ?_ | refine hd_litA (fun _ => ?_) | refine hd_appendA (fun _ _ => ?_) | refine hd_storeRA ?_)
      · rename_i hd
        ((repeat (refine hd_undefer (by first | exact .inl rfl | exact .inr rfl) (by exact aP) ?_)); apply hd_res0; (focus (first | exact .inl rfl | exact .inr rfl)); rfl; exact aR)
        refine ret_bool ?_
        simp at hd
        simp [take_neq hy1 hy2 (sp_ne hd)]
      · rename_i hd
        simp at hd
        refine hd_again (i + 1) ⟨by omega, takeq_step hy1 hy2 hi.2 (sp_eq hd)⟩ (by omega) (by exact aU) (fun w hw => inv_only .nil hw)
    · simp only [decide_eq_false_iff_not] at hlt
      repeat' (first | fail | fail | refine wkA ?_ | fail | (refine hd_planT (id := 6) [(0, 17, 1), (0, 18, 32), (3, 19, 196608), (4, 20, 262144), (0, 21, 2), (0, 22, 32), (48, 23, 3145728), (64, 24, 4194304), (136, 25, 8912896)] [] [.one 0 true, .one 1 true, .one 2 true, .one 3 true, .one 4 true, .one 5 true, .one 6 true, .one 7 true, .one 8 true] follows_any (by kernel_rfl) (by kernel_rfl) (by kernel_rfl) rfl ?_) | refine hd_draw follows_any (by decide +kernel) ?_ | (refine is_on ?_; first | refine ts_onA ?_ | refine pn_barA ?_ | refine pn_goA ?_ | refine pt_goA ?_) | refine hd_nil ?_ | exact tsA | fail | (refine hd_condT (by exact aX) (by (first | rfl | (simp only [decide_eq_true_eq, decide_eq_false_iff_not]; omega) | fail)) ?_) | (refine hd_condF (by exact aX) (by (first | rfl | (simp only [decide_eq_true_eq, decide_eq_false_iff_not]; omega) | fail)) ?_) | (refine hd_cond (by exact aX) (fun _ => ?_) (fun _ => ?_))  | fail | refine hd_opA ?_ | refine ch_opA ?_ | refine hd_pnA ?_ | fail | ((first | apply hd_ok | apply ch_ok); (focus ((first | (apply OK.plain; rfl) | (apply OK.guarded; rfl; rfl; (intro hg; (try have hk := hg.2); (try have hl := hg.2.2); (try have hm := hg.2.2.2)))); (first | (apply od_call; exact aX; infer_instance; exact aE; exact aN; (focus (first | fail))) ))); rfl; rfl) | (refine hd_pn_op rfl ?_) | (refine ts_step rfl (fun HF h1 hle => ?_)) | refine hd_storeA ?_ | refine hd_boxA (fun _ => ?_) | refine hd_alloc rfl (fun _ => ?_) | refine hd_makeA (fun _ => ?_) | refine hd_copyA ?_ | refine hd_litA (fun _ => ?_) | refine hd_appendA (fun _ _ => ?_) | refine hd_storeRA ?_)
      ((repeat (refine hd_undefer (by first | exact .inl rfl | exact .inr rfl) (by exact aP) ?_)); apply hd_res0; (focus (first | exact .inl rfl | exact .inr rfl)); rfl; exact aR)
      refine ret_bool ?_
      have e := hi.2
      rw [List.take_of_length_le (by omega), List.take_of_length_le (by omega)] at e
      simp [e]
theorem low_Desc {u v : Value} {a b : DD} (h : PH) (hu : VDs h u a) (hv : VDs h v b) : Det Try.prog 13 #[u, v] h (.bool (decide (a = b))) := by
  obtain ⟨p, n, c, rfl, ha, ha3⟩ := hu
  obtain ⟨q, m, d, rfl, hb, hb3⟩ := hv
  refine spec_enter (args := [_, _]) Try.func13 rfl Try.ntmps13 rfl (fun w l => ?_)
  repeat' (first | fail | fail | refine wkA ?_ | fail | fail | refine hd_draw follows_any (by decide +kernel) ?_ | (refine is_on ?_; first | refine ts_onA ?_ | refine pn_barA ?_ | refine pn_goA ?_ | refine pt_goA ?_) | refine hd_nil ?_ | exact tsA | fail | (refine hd_cond (by exact aX) (fun _ => ?_) (fun _ => ?_))  | fail | refine hd_opA ?_ | refine ch_opA ?_ | refine hd_pnA ?_ | fail | ((first | apply hd_ok | apply ch_ok); (focus ((first | (apply OK.plain; rfl) | (apply OK.guarded; rfl; rfl; (intro hg; (try have hk := hg.2); (try have hl := hg.2.2); (try have hm := hg.2.2.2)))); (first | (apply od_call; exact aX; infer_instance; exact aE; exact aN; (focus (first | exact low_Spans _ (by assumption) (by assumption)))) ))); rfl; rfl) | (refine hd_pn_op rfl ?_) | (refine ts_step rfl (fun HF h1 hle => ?_)) | refine hd_storeA ?_ | refine hd_boxA (fun _ => ?_) | refine hd_alloc rfl (fun _ => ?_) | refine hd_makeA (fun _ => ?_) | refine hd_copyA ?_ | refine hd_litA (fun _ => ?_) | refine hd_appendA (fun _ _ => ?_) | refine hd_storeRA ?_)
  all_goals ((repeat (refine hd_undefer (by first | exact .inl rfl | exact .inr rfl) (by exact aP) ?_)); apply hd_res0; (focus (first | exact .inl rfl | exact .inr rfl)); rfl; exact aR)
  refine ret_bool ?_
  obtain ⟨a0, a1, a2, a3⟩ := a
  obtain ⟨b0, b1, b2, b3⟩ := b
  rw [Bool.eq_iff_iff]
  simp
  constructor
  · rintro ⟨⟨⟨h1, h2⟩, h3⟩, h4⟩; exact ⟨h1, h2, h3, h4⟩
  · rintro ⟨h1, h2, h3, h4⟩; exact ⟨⟨⟨h1, h2⟩, h3⟩, h4⟩
theorem low_Descs {p q : Option Addr} {n c m d : Nat} {xs ys : List DD} (h : PH) (hx : SlD h p n c xs) (hy : SlD h q m d ys) : Det Try.prog 21 #[.slice p n c, .slice q m d] h (.bool (decide (xs = ys))) := by
  have hl := hx.len
  have hl2 := hy.len
  have ht := hx.top
  refine spec_enter (args := [_, _]) Try.func21 rfl Try.ntmps21 rfl (fun w l => ?_)
  repeat' (first | fail | fail | refine wkA ?_ | fail | (refine hd_planT (id := 6) [(0, 17, 1), (0, 18, 32), (3, 19, 196608), (4, 20, 262144), (0, 21, 2), (0, 22, 32), (48, 23, 3145728), (64, 24, 4194304), (136, 25, 8912896), (256, 26, 16777216)] [] [.one 0 true, .one 1 true, .one 2 true, .one 3 true, .one 4 true, .one 5 true, .one 6 true, .one 7 true, .one 8 false, .one 9 true] follows_any (by kernel_rfl) (by kernel_rfl) (by kernel_rfl) rfl ?_) | refine hd_draw follows_any (by decide +kernel) ?_ | (refine is_on ?_; first | refine ts_onA ?_ | refine pn_barA ?_ | refine pn_goA ?_ | refine pt_goA ?_) | refine hd_nil ?_ | exact tsA | fail | (refine hd_cond (by exact aX) (fun _ => ?_) (fun _ => ?_))  | fail | refine hd_opA ?_ | refine ch_opA ?_ | refine hd_pnA ?_ | fail | ((first | apply hd_ok | apply ch_ok); (focus ((first | (apply OK.plain; rfl) | (apply OK.guarded; rfl; rfl; (intro hg; (try have hk := hg.2); (try have hl := hg.2.2); (try have hm := hg.2.2.2)))); (first | (apply od_call; exact aX; infer_instance; exact aE; exact aN; (focus (first | exact low_Desc _ (VDs.of hr1 g1) (VDs.of hr2 g2)))) ))); rfl; rfl) | (refine hd_pn_op rfl ?_) | (refine ts_step rfl (fun HF h1 hle => ?_)) | refine hd_storeA ?_ | refine hd_boxA (fun _ => ?_) | refine hd_alloc rfl (fun _ => ?_) | refine hd_makeA (fun _ => ?_) | refine hd_copyA ?_ | refine hd_litA (fun _ => ?_) | refine hd_appendA (fun _ _ => ?_) | refine hd_storeRA ?_)
  · rename_i hc
    ((repeat (refine hd_undefer (by first | exact .inl rfl | exact .inr rfl) (by exact aP) ?_)); apply hd_res0; (focus (first | exact .inl rfl | exact .inr rfl)); rfl; exact aR)
    refine ret_bool ?_
    simp at hc
    simp; intro e; rw [e] at hl; omega
  · rename_i hc
    have hmn : n = m := by simp at hc; omega
    subst hmn
    refine hd_loopS (ι := Nat) (fun i => i ≤ n ∧ xs.take i = ys.take i) (fun i => [(0, [], .slice p n c), (1, [], .slice q n d), (12, [], .int .i64 n), (13, [], .int .i64 i)]) (fun _ => []) (fun _ => h) (fun i => n - i) 0 (by simp) (by exact aU) (fun _ hw => hw) (fun i hi => ?_)
    refine hd_split (c := decide (i < n)) (fun hlt => ?_) (fun hlt => ?_)
    · simp only [decide_eq_true_eq] at hlt
      obtain ⟨y1, hy1⟩ := get_of hl hlt
      obtain ⟨p1, n1, c1, hpub, hr1, g1, hptr⟩ := SlD_at hx hy1
      obtain ⟨y2, hy2⟩ := get_of hl2 hlt
      obtain ⟨p2, n2, c2, hpub2, hr2, g2, hptr2⟩ := SlD_at hy hy2
      repeat' (first | fail | fail | refine wkA ?_ | fail | (refine hd_planT (id := 6) [(0, 17, 1), (0, 18, 32), (3, 19, 196608), (4, 20, 262144), (0, 21, 2), (0, 22, 32), (48, 23, 3145728), (64, 24, 4194304), (136, 25, 8912896), (256, 26, 16777216)] [] [.one 0 true, .one 1 true, .one 2 true, .one 3 true, .one 4 true, .one 5 true, .one 6 true, .one 7 true, .one 8 false, .one 9 true] follows_any (by kernel_rfl) (by kernel_rfl) (by kernel_rfl) rfl ?_) | refine hd_draw follows_any (by decide +kernel) ?_ | (refine is_on ?_; first | refine ts_onA ?_ | refine pn_barA ?_ | refine pn_goA ?_ | refine pt_goA ?_) | refine hd_nil ?_ | exact tsA | fail | (refine hd_condT (by exact aX) (by (first | rfl | (simp only [decide_eq_true_eq, decide_eq_false_iff_not]; omega) | fail)) ?_) | (refine hd_condF (by exact aX) (by (first | rfl | (simp only [decide_eq_true_eq, decide_eq_false_iff_not]; omega) | fail)) ?_) | (refine hd_cond (by exact aX) (fun _ => ?_) (fun _ => ?_))  | fail | refine hd_opA ?_ | refine ch_opA ?_ | refine hd_pnA ?_ | fail | ((first | apply hd_ok | apply ch_ok); (focus ((first | (apply OK.plain; rfl) | (apply OK.guarded; rfl; rfl; (intro hg; (try have hk := hg.2); (try have hl := hg.2.2); (try have hm := hg.2.2.2)))); (first | (apply od_call; exact aX; infer_instance; exact aE; exact aN; (focus (first | exact low_Desc _ (VDs.of hr1 g1) (VDs.of hr2 g2)))) ))); rfl; rfl) | (refine hd_pn_op rfl ?_) | (refine ts_step rfl (fun HF h1 hle => ?_)) | refine hd_storeA ?_ | refine hd_boxA (fun _ => ?_) | refine hd_alloc rfl (fun _ => ?_) | refine hd_makeA (fun _ => ?_) | refine hd_copyA ?_ | refine hd_litA (fun _ => ?_) | refine hd_appendA (fun _ _ => ?_) | refine hd_storeRA ?_)
      · rename_i hd
        ((repeat (refine hd_undefer (by first | exact .inl rfl | exact .inr rfl) (by exact aP) ?_)); apply hd_res0; (focus (first | exact .inl rfl | exact .inr rfl)); rfl; exact aR)
        refine ret_bool ?_
        simp at hd
        simp [take_neq hy1 hy2 hd]
      · rename_i hd
        simp at hd
        refine hd_again (i + 1) ⟨by omega, takeq_step hy1 hy2 hi.2 hd⟩ (by omega) (by exact aU) (fun w hw => inv_only .nil hw)
    · simp only [decide_eq_false_iff_not] at hlt
      repeat' (first | fail | fail | refine wkA ?_ | fail | (refine hd_planT (id := 6) [(0, 17, 1), (0, 18, 32), (3, 19, 196608), (4, 20, 262144), (0, 21, 2), (0, 22, 32), (48, 23, 3145728), (64, 24, 4194304), (136, 25, 8912896), (256, 26, 16777216)] [] [.one 0 true, .one 1 true, .one 2 true, .one 3 true, .one 4 true, .one 5 true, .one 6 true, .one 7 true, .one 8 false, .one 9 true] follows_any (by kernel_rfl) (by kernel_rfl) (by kernel_rfl) rfl ?_) | refine hd_draw follows_any (by decide +kernel) ?_ | (refine is_on ?_; first | refine ts_onA ?_ | refine pn_barA ?_ | refine pn_goA ?_ | refine pt_goA ?_) | refine hd_nil ?_ | exact tsA | fail | (refine hd_condT (by exact aX) (by (first | rfl | (simp only [decide_eq_true_eq, decide_eq_false_iff_not]; omega) | fail)) ?_) | (refine hd_condF (by exact aX) (by (first | rfl | (simp only [decide_eq_true_eq, decide_eq_false_iff_not]; omega) | fail)) ?_) | (refine hd_cond (by exact aX) (fun _ => ?_) (fun _ => ?_))  | fail | refine hd_opA ?_ | refine ch_opA ?_ | refine hd_pnA ?_ | fail | ((first | apply hd_ok | apply ch_ok); (focus ((first | (apply OK.plain; rfl) | (apply OK.guarded; rfl; rfl; (intro hg; (try have hk := hg.2); (try have hl := hg.2.2); (try have hm := hg.2.2.2)))); (first | (apply od_call; exact aX; infer_instance; exact aE; exact aN; (focus (first | exact low_Desc _ (VDs.of hr1 g1) (VDs.of hr2 g2)))) ))); rfl; rfl) | (refine hd_pn_op rfl ?_) | (refine ts_step rfl (fun HF h1 hle => ?_)) | refine hd_storeA ?_ | refine hd_boxA (fun _ => ?_) | refine hd_alloc rfl (fun _ => ?_) | refine hd_makeA (fun _ => ?_) | refine hd_copyA ?_ | refine hd_litA (fun _ => ?_) | refine hd_appendA (fun _ _ => ?_) | refine hd_storeRA ?_)
      ((repeat (refine hd_undefer (by first | exact .inl rfl | exact .inr rfl) (by exact aP) ?_)); apply hd_res0; (focus (first | exact .inl rfl | exact .inr rfl)); rfl; exact aR)
      refine ret_bool ?_
      have e := hi.2
      rw [List.take_of_length_le (by omega), List.take_of_length_le (by omega)] at e
      simp [e]
def smallD (d : DD) : Bool := decide (d.filter.length ≤ 8)
def few (xs : List DD) : Bool := xs.all smallD && decide (xs.length ≤ 20)
theorem law09_Few {p : Option Addr} {n c : Nat} {xs : List DD} (h : PH) (hx : SlD h p n c xs) : Det Try.prog 8 #[.slice p n c] h (.bool (few xs)) := by
  have hl := hx.len
  have ht := hx.top
  refine spec_enter (args := [_]) Try.func8 rfl Try.ntmps8 rfl (fun w l => ?_)
  repeat' (first | fail | fail | refine wkA ?_ | fail | fail | refine hd_draw follows_any (by decide +kernel) ?_ | (refine is_on ?_; first | refine ts_onA ?_ | refine pn_barA ?_ | refine pn_goA ?_ | refine pt_goA ?_) | refine hd_nil ?_ | exact tsA | fail | (refine hd_cond (by exact aX) (fun _ => ?_) (fun _ => ?_))  | fail | refine hd_opA ?_ | refine ch_opA ?_ | refine hd_pnA ?_ | fail | ((first | apply hd_ok | apply ch_ok); (focus ((first | (apply OK.plain; rfl) | (apply OK.guarded; rfl; rfl; (intro hg; (try have hk := hg.2); (try have hl := hg.2.2); (try have hm := hg.2.2.2)))); (first | (apply od_call; exact aX; infer_instance; exact aE; exact aN; (focus (first | fail))) ))); rfl; rfl) | (refine hd_pn_op rfl ?_) | (refine ts_step rfl (fun HF h1 hle => ?_)) | refine hd_storeA ?_ | refine hd_boxA (fun _ => ?_) | refine hd_alloc rfl (fun _ => ?_) | refine hd_makeA (fun _ => ?_) | refine hd_copyA ?_ | refine hd_litA (fun _ => ?_) | refine hd_appendA (fun _ _ => ?_) | refine hd_storeRA ?_)
  refine hd_loopS (ι := Nat) (fun i => i ≤ n ∧ (xs.take i).all smallD = true) (fun i => [(0, [], .slice p n c), (5, [], .slice p n c), (6, [], .int .i64 n), (7, [], .int .i64 i)]) (fun _ => []) (fun _ => h) (fun i => n - i) 0 (by simp) (by exact aU) (fun _ hw => hw) (fun i hi => ?_)
  refine hd_split (c := decide (i < n)) (fun hlt => ?_) (fun hlt => ?_)
  · simp only [decide_eq_true_eq] at hlt
    obtain ⟨y1, hy1⟩ := get_of hl hlt
    obtain ⟨p1, n1, c1, hpub, hr1, g1, hptr⟩ := SlD_at hx hy1
    have l1 := g1.len
    repeat' (first | fail | fail | refine wkA ?_ | fail | fail | refine hd_draw follows_any (by decide +kernel) ?_ | (refine is_on ?_; first | refine ts_onA ?_ | refine pn_barA ?_ | refine pn_goA ?_ | refine pt_goA ?_) | refine hd_nil ?_ | exact tsA | fail | (refine hd_condT (by exact aX) (by (first | rfl | (simp only [decide_eq_true_eq, decide_eq_false_iff_not]; omega) | fail)) ?_) | (refine hd_condF (by exact aX) (by (first | rfl | (simp only [decide_eq_true_eq, decide_eq_false_iff_not]; omega) | fail)) ?_) | (refine hd_cond (by exact aX) (fun _ => ?_) (fun _ => ?_))  | fail | refine hd_opA ?_ | refine ch_opA ?_ | refine hd_pnA ?_ | fail | ((first | apply hd_ok | apply ch_ok); (focus ((first | (apply OK.plain; rfl) | (apply OK.guarded; rfl; rfl; (intro hg; (try have hk := hg.2); (try have hl := hg.2.2); (try have hm := hg.2.2.2)))); (first | (apply od_call; exact aX; infer_instance; exact aE; exact aN; (focus (first | fail))) ))); rfl; rfl) | (refine hd_pn_op rfl ?_) | (refine ts_step rfl (fun HF h1 hle => ?_)) | refine hd_storeA ?_ | refine hd_boxA (fun _ => ?_) | refine hd_alloc rfl (fun _ => ?_) | refine hd_makeA (fun _ => ?_) | refine hd_copyA ?_ | refine hd_litA (fun _ => ?_) | refine hd_appendA (fun _ _ => ?_) | refine hd_storeRA ?_)
    · rename_i hd
      ((repeat (refine hd_undefer (by first | exact .inl rfl | exact .inr rfl) (by exact aP) ?_)); apply hd_res0; (focus (first | exact .inl rfl | exact .inr rfl)); rfl; exact aR)
      refine ret_bool ?_
      simp only [decide_eq_true_eq] at hd
      unfold few
      rw [all_not hy1 (by simp only [smallD, l1, decide_eq_false_iff_not]; omega)]; rfl
    · rename_i hd
      simp only [decide_eq_false_iff_not] at hd
      refine hd_again (i + 1) ⟨by omega, all_step hy1 hi.2 (by simp only [smallD, l1, decide_eq_true_eq]; omega)⟩ (by omega) (by exact aU) (fun w hw => inv_only .nil hw)
  · simp only [decide_eq_false_iff_not] at hlt
    repeat' (first | fail | fail | refine wkA ?_ | fail | fail | refine hd_draw follows_any (by decide +kernel) ?_ | (refine is_on ?_; first | refine ts_onA ?_ | refine pn_barA ?_ | refine pn_goA ?_ | refine pt_goA ?_) | refine hd_nil ?_ | exact tsA | fail | (refine hd_condT (by exact aX) (by (first | rfl | (simp only [decide_eq_true_eq, decide_eq_false_iff_not]; omega) | fail)) ?_) | (refine hd_condF (by exact aX) (by (first | rfl | (simp only [decide_eq_true_eq, decide_eq_false_iff_not]; omega) | fail)) ?_) | (refine hd_cond (by exact aX) (fun _ => ?_) (fun _ => ?_))  | fail | refine hd_opA ?_ | refine ch_opA ?_ | refine hd_pnA ?_ | fail | ((first | apply hd_ok | apply ch_ok); (focus ((first | (apply OK.plain; rfl) | (apply OK.guarded; rfl; rfl; (intro hg; (try have hk := hg.2); (try have hl := hg.2.2); (try have hm := hg.2.2.2)))); (first | (apply od_call; exact aX; infer_instance; exact aE; exact aN; (focus (first | fail))) ))); rfl; rfl) | (refine hd_pn_op rfl ?_) | (refine ts_step rfl (fun HF h1 hle => ?_)) | refine hd_storeA ?_ | refine hd_boxA (fun _ => ?_) | refine hd_alloc rfl (fun _ => ?_) | refine hd_makeA (fun _ => ?_) | refine hd_copyA ?_ | refine hd_litA (fun _ => ?_) | refine hd_appendA (fun _ _ => ?_) | refine hd_storeRA ?_)
    ((repeat (refine hd_undefer (by first | exact .inl rfl | exact .inr rfl) (by exact aP) ?_)); apply hd_res0; (focus (first | exact .inl rfl | exact .inr rfl)); rfl; exact aR)
    refine ret_bool ?_
    unfold few
    rw [all_end (by omega) hi.2, hl]
    simp; omega
/-! ### Copies -/
theorem desc_own {v : Value} {x : DD} (h : PH) (hv : VDs h v x) (hn : x.filter.length ≤ 1000000) : GV.Spec Try.prog 45 #[v] h fun v' h' => VDs h' v' x := by
  obtain ⟨p, n, c, rfl, hx, h3⟩ := hv
  have hl := h3.len
  refine spec_enter (args := [_]) Try.func45 rfl Try.ntmps45 rfl (fun w l => ?_)
  refine hd_nilrow 64 2 ?_
  repeat' (first | refine hd_stop1 (id := 3) ?_ | fail | refine wkA ?_ | fail | fail | refine hd_draw follows_any (by decide +kernel) ?_ | (refine is_on ?_; first | refine ts_onA ?_ | refine pn_barA ?_ | refine pn_goA ?_ | refine pt_goA ?_) | refine hd_nil ?_ | exact tsA | fail | (refine hd_cond (by exact aX) (fun _ => ?_) (fun _ => ?_))  | fail | refine hd_opA ?_ | refine ch_opA ?_ | refine hd_pnA ?_ | fail | ((first | apply hd_ok | apply ch_ok); (focus ((first | (apply OK.plain; rfl) | (apply OK.guarded; rfl; rfl; (intro hg; (try have hk := hg.2); (try have hl := hg.2.2); (try have hm := hg.2.2.2)))); (first | (apply od_call; exact aX; infer_instance; exact aE; exact aN; (focus (first | fail))) ))); rfl; rfl) | (refine hd_pn_op rfl ?_) | (refine ts_step rfl (fun HF h1 hle => ?_)) | refine hd_storeA ?_ | refine hd_boxA (fun _ => ?_) | refine hd_alloc rfl (fun _ => ?_) | refine hd_makeA (fun _ => ?_) | refine hd_copyA ?_ | refine hd_litA (fun _ => ?_) | refine hd_appendA (fun _ _ => ?_) | refine hd_storeRA ?_)
  rename_i b1 b2 g1 c1
  refine Stop.mk ?_
  refine hd_pubS (p := g1) (by exact aP) (C2.of x.filter) (SlS_in h3) (by omega) (by omega) (fun h1 hle1 hsl => ?_)
  repeat' (first | fail | fail | refine wkA ?_ | fail | fail | refine hd_draw follows_any (by decide +kernel) ?_ | (refine is_on ?_; first | refine ts_onA ?_ | refine pn_barA ?_ | refine pn_goA ?_ | refine pt_goA ?_) | refine hd_nil ?_ | exact tsA | fail | (refine hd_cond (by exact aX) (fun _ => ?_) (fun _ => ?_))  | fail | refine hd_opA ?_ | refine ch_opA ?_ | refine hd_pnA ?_ | fail | ((first | apply hd_ok | apply ch_ok); (focus ((first | (apply OK.plain; rfl) | (apply OK.guarded; rfl; rfl; (intro hg; (try have hk := hg.2); (try have hl := hg.2.2); (try have hm := hg.2.2.2)))); (first | (apply od_call; exact aX; infer_instance; exact aE; exact aN; (focus (first | fail))) ))); rfl; rfl) | (refine hd_pn_op rfl ?_) | (refine ts_step rfl (fun HF h1 hle => ?_)) | refine hd_storeA ?_ | refine hd_boxA (fun _ => ?_) | refine hd_alloc rfl (fun _ => ?_) | refine hd_makeA (fun _ => ?_) | refine hd_copyA ?_ | refine hd_litA (fun _ => ?_) | refine hd_appendA (fun _ _ => ?_) | refine hd_storeRA ?_)
  ((repeat (refine hd_undefer (by first | exact .inl rfl | exact .inr rfl) (by exact aP) ?_)); apply hd_res0; (focus (first | exact .inl rfl | exact .inr rfl)); rfl; exact aR)
  exact ⟨_, _, _, rfl, hx, hsl⟩
theorem zs_eq (z : List Value) (k : Nat) : zs z k = (List.replicate k z).flatten := rfl
theorem wide_ok {h : PH} : ∀ {css : List (List Value)} {xs : List DD}, All2 (rDesc.ok h) css xs → Wide 4 css
  | [], [], _ => fun x hx => by cases hx
  | c :: css, y :: ys, ha => fun x hx => by
    rcases List.mem_cons.1 hx with rfl | hx
    · obtain ⟨p, n, c, rfl, _⟩ := rDesc_ok ha.1; rfl
    · exact wide_ok ha.2 x hx
  | [], _ :: _, ha => ha.elim
  | _ :: _, [], ha => ha.elim
abbrev zD : List Value := [.int .u8 0, .int .u16 0, .int .u8 0, .slice none 0 0]
theorem copy_set {css : List (List Value)} {n i : Nat} (hw : Wide 4 css) (hi : css.length = i) (hn : i < n) : ∀ vs : List Value, vs.length = 4 → GV.spl (css ++ List.replicate (n - i) zD).flatten (i * 4) vs = ((css ++ [vs]) ++ List.replicate (n - (i + 1)) zD).flatten := by
  intro vs hv
  rw [(hw.append (Wide.rep _ rfl)).spl (by simp; omega) hv]
  congr 1
  obtain ⟨k, hk⟩ : ∃ k, n - i = k + 1 := ⟨n - i - 1, by omega⟩
  have hk2 : n - (i + 1) = k := by omega
  rw [hk, hk2, List.set_append, if_neg (by omega), hi, Nat.sub_self, List.replicate_succ, List.set_cons_zero]
  simp
theorem desc_CopyM {p : Option Addr} {n c : Nat} {xs : List DD} (h : PH) (hx : SlD h p n c xs) (hn : n ≤ 1000000) (hf : ∀ x ∈ xs, x.filter.length ≤ 1000000) :
    SpecM Try.prog 33 #[.slice p n c] h [] fun v h' Ho => ∃ p' c' css, v = .slice p' n c' ∧ All2 (rDesc.ok h') css xs ∧ Ho = [row p' n c' 32 4 css.flatten] := by
  have hl := hx.len
  refine spec_enter (args := [_]) Try.func33 rfl Try.ntmps33 rfl (fun w l => ?_)
  repeat' (first | fail | fail | refine wkA ?_ | fail | fail | refine hd_draw follows_any (by decide +kernel) ?_ | (refine is_on ?_; first | refine ts_onA ?_ | refine pn_barA ?_ | refine pn_goA ?_ | refine pt_goA ?_) | refine hd_nil ?_ | exact tsA | fail | (refine hd_cond (by exact aX) (fun _ => ?_) (fun _ => ?_))  | fail | refine hd_opA ?_ | refine ch_opA ?_ | refine hd_pnA ?_ | fail | ((first | apply hd_ok | apply ch_ok); (focus ((first | (apply OK.plain; rfl) | (apply OK.guarded; rfl; rfl; (intro hg; (try have hk := hg.2); (try have hl := hg.2.2); (try have hm := hg.2.2.2)))); (first | (apply od_call; exact aX; infer_instance; exact aE; exact aN; (focus (first | fail))) ))); rfl; rfl) | (refine hd_pn_op rfl ?_) | (refine ts_step rfl (fun HF h1 hle => ?_)) | refine hd_storeA ?_ | refine hd_boxA (fun _ => ?_) | refine hd_alloc rfl (fun _ => ?_) | refine hd_makeA (fun _ => ?_) | refine hd_copyA ?_ | refine hd_litA (fun _ => ?_) | refine hd_appendA (fun _ _ => ?_) | (apply hd_call; exact aX; infer_instance; exact aE; exact aN; rfl; (focus exact desc_own _ (VDs.of hr1 (g1.mono (by exact aL))) (by omega)); (focus (rintro _ h1 hle1 ⟨p9, n9, c9, rfl, hx9, hs9⟩; skip))) | (apply hd_storeR; exact aX; exact aX; rfl; exact aP; rfl; (focus (rw [hlF]; simp only [List.length_cons, List.length_nil]; omega)); (focus omega); rfl; (focus (first | exact hset _ rfl | exact hset _))))
  rename_i g
  refine hd_loopS (ι := Nat × PH × List (List Value)) (fun i => i.1 ≤ n ∧ h.le i.2.1 ∧ All2 (rDesc.ok i.2.1) i.2.2 (xs.take i.1)) (fun i => [(3, [], .slice (some ⟨g, 0, none⟩) n n), (9, [], .slice p n c), (10, [], .int .i64 n), (11, [], .int .i64 i.1)])
    (fun i => [row (some ⟨g, 0, none⟩) n n 32 4 (i.2.2 ++ List.replicate (n - i.1) zD).flatten]) (fun i => i.2.1) (fun i => n - i.1) (0, h, []) ⟨by omega, PH.le_refl _, trivial⟩ (by exact aU) (fun w hw => inv_only (by exact aS) hw) (fun i hi => ?_)
  obtain ⟨i, hi1, css⟩ := i
  obtain ⟨hi0, hlei, hall⟩ := hi
  simp only at hi0 hlei hall
  simp only
  have hcl : css.length = i := by rw [hall.length, List.length_take]; omega
  have hlF : (css ++ List.replicate (n - i) zD).flatten.length = n * 4 := by rw [((wide_ok hall).append (Wide.rep _ rfl)).len]; simp; omega
  refine hd_split (c := decide (i < n)) (fun hlt => ?_) (fun hlt => ?_)
  · simp only [decide_eq_true_eq] at hlt
    obtain ⟨y1, hy1⟩ := get_of hl hlt
    obtain ⟨p1, n1, c1, hpub, hr1, g1, hptr⟩ := SlD_at (hx.mono hlei) hy1
    have hfy := hf y1 (List.mem_of_getElem? hy1)
    have hset := copy_set (wide_ok hall) hcl hlt
    repeat' (first | fail | fail | refine wkA ?_ | fail | fail | refine hd_draw follows_any (by decide +kernel) ?_ | (refine is_on ?_; first | refine ts_onA ?_ | refine pn_barA ?_ | refine pn_goA ?_ | refine pt_goA ?_) | refine hd_nil ?_ | exact tsA | fail | (refine hd_condT (by exact aX) (by (first | rfl | (simp only [decide_eq_true_eq, decide_eq_false_iff_not]; omega) | fail)) ?_) | (refine hd_condF (by exact aX) (by (first | rfl | (simp only [decide_eq_true_eq, decide_eq_false_iff_not]; omega) | fail)) ?_) | (refine hd_cond (by exact aX) (fun _ => ?_) (fun _ => ?_))  | fail | refine hd_opA ?_ | refine ch_opA ?_ | refine hd_pnA ?_ | fail | ((first | apply hd_ok | apply ch_ok); (focus ((first | (apply OK.plain; rfl) | (apply OK.guarded; rfl; rfl; (intro hg; (try have hk := hg.2); (try have hl := hg.2.2); (try have hm := hg.2.2.2)))); (first | (apply od_call; exact aX; infer_instance; exact aE; exact aN; (focus (first | fail))) ))); rfl; rfl) | (refine hd_pn_op rfl ?_) | (refine ts_step rfl (fun HF h1 hle => ?_)) | refine hd_storeA ?_ | refine hd_boxA (fun _ => ?_) | refine hd_alloc rfl (fun _ => ?_) | refine hd_makeA (fun _ => ?_) | refine hd_copyA ?_ | refine hd_litA (fun _ => ?_) | refine hd_appendA (fun _ _ => ?_) | (apply hd_call; exact aX; infer_instance; exact aE; exact aN; rfl; (focus exact desc_own _ (VDs.of hr1 (g1.mono (by exact aL))) (by omega)); (focus (rintro _ h1 hle1 ⟨p9, n9, c9, rfl, hx9, hs9⟩; skip))) | (apply hd_storeR; exact aX; exact aX; rfl; exact aP; rfl; (focus (rw [hlF]; simp only [List.length_cons, List.length_nil]; omega)); (focus omega); rfl; (focus (first | exact hset _ rfl | exact hset _))))
    refine hd_again (i + 1, h1, css ++ [[.int .u8 y1.node, .int .u16 y1.inc, .int .u8 y1.age, .slice p9 n9 c9]]) ⟨by simp only; omega, by exact aL, by simp only; rw [take_step hy1]; exact All2.snoc (hall.mono fun _ _ => rDesc.mono hle1) (rDesc_mk hx9 hs9)⟩ (by simp only; omega) (by exact aU) (fun w hw => inv_only (by exact aS) hw)
  · simp only [decide_eq_false_iff_not] at hlt
    have hin : i = n := by omega
    subst hin
    rw [List.take_of_length_le (by omega)] at hall
    repeat' (first | fail | fail | refine wkA ?_ | fail | fail | refine hd_draw follows_any (by decide +kernel) ?_ | (refine is_on ?_; first | refine ts_onA ?_ | refine pn_barA ?_ | refine pn_goA ?_ | refine pt_goA ?_) | refine hd_nil ?_ | exact tsA | fail | (refine hd_condT (by exact aX) (by (first | rfl | (simp only [decide_eq_true_eq, decide_eq_false_iff_not]; omega) | fail)) ?_) | (refine hd_condF (by exact aX) (by (first | rfl | (simp only [decide_eq_true_eq, decide_eq_false_iff_not]; omega) | fail)) ?_) | (refine hd_cond (by exact aX) (fun _ => ?_) (fun _ => ?_))  | fail | refine hd_opA ?_ | refine ch_opA ?_ | refine hd_pnA ?_ | fail | ((first | apply hd_ok | apply ch_ok); (focus ((first | (apply OK.plain; rfl) | (apply OK.guarded; rfl; rfl; (intro hg; (try have hk := hg.2); (try have hl := hg.2.2); (try have hm := hg.2.2.2)))); (first | (apply od_call; exact aX; infer_instance; exact aE; exact aN; (focus (first | fail))) ))); rfl; rfl) | (refine hd_pn_op rfl ?_) | (refine ts_step rfl (fun HF h1 hle => ?_)) | refine hd_storeA ?_ | refine hd_boxA (fun _ => ?_) | refine hd_alloc rfl (fun _ => ?_) | refine hd_makeA (fun _ => ?_) | refine hd_copyA ?_ | refine hd_litA (fun _ => ?_) | refine hd_appendA (fun _ _ => ?_) | (apply hd_call; exact aX; infer_instance; exact aE; exact aN; rfl; (focus exact desc_own _ (VDs.of hr1 (g1.mono (by exact aL))) (by omega)); (focus (rintro _ h1 hle1 ⟨p9, n9, c9, rfl, hx9, hs9⟩; skip))) | (apply hd_storeR; exact aX; exact aX; rfl; exact aP; rfl; (focus (rw [hlF]; simp only [List.length_cons, List.length_nil]; omega)); (focus omega); rfl; (focus (first | exact hset _ rfl | exact hset _))))
    ((repeat (refine hd_undefer (by first | exact .inl rfl | exact .inr rfl) (by exact aP) ?_)); apply hd_resS (Hi := [row _ _ _ _ _ _]); (focus (first | exact .inl rfl | exact .inr rfl)); rfl; exact aR; exact aS)
    exact ⟨_, _, css, rfl, hall, by simp⟩
theorem desc_Copy {p : Option Addr} {n c : Nat} {xs : List DD} (h : PH) (hx : SlD h p n c xs) (hn : n ≤ 1000000) (hf : ∀ x ∈ xs, x.filter.length ≤ 1000000) :
    GV.Spec Try.prog 33 #[.slice p n c] h fun v h' => ∃ p' c', v = .slice p' n c' ∧ SlD h' p' n c' xs := by
  refine SpecM.turn (desc_CopyM h hx hn hf) ?_
  rintro C v h' Ho w ⟨p', c', css, rfl, hall, rfl⟩ hi
  have hl := hx.len
  obtain ⟨h3, hl3, hs3, hi3⟩ := Inv.pubR (r := rDesc) hi hall hl (by omega)
  exact ⟨h3, [], ⟨⟨p', c', rfl, hs3⟩, rfl⟩, hi3⟩
def olderD (d : DD) : DD := if d.age < 255 then { d with age := d.age + 1 } else d
theorem olderD_R {d : DD} (h : DdR d) : DdR (olderD d) := by
  have h2 := h.age
  simp only [inR] at h2
  unfold olderD
  split
  · exact ⟨h.node, h.inc, inR_u8 (by simp only; omega) (by simp only; omega), h.filter⟩
  · exact h
theorem desc_Older {p : Option Addr} {n c : Nat} {xs : List DD} (h : PH) (hx : SlD h p n c xs) (hn : n ≤ 1000000) (hf : ∀ x ∈ xs, x.filter.length ≤ 1000000) :
    GV.Spec Try.prog 47 #[.slice p n c] h fun v h' => ∃ p' c', v = .slice p' n c' ∧ SlD h' p' n c' (xs.map olderD) := by
  have hl := hx.len
  refine spec_enter (args := [_]) Try.func47 rfl Try.ntmps47 rfl (fun w l => ?_)
  repeat' (first | fail | fail | refine wkA ?_ | fail | fail | refine hd_draw follows_any (by decide +kernel) ?_ | (refine is_on ?_; first | refine ts_onA ?_ | refine pn_barA ?_ | refine pn_goA ?_ | refine pt_goA ?_) | refine hd_nil ?_ | exact tsA | fail | (refine hd_condT (by exact aX) (by (first | rfl | (simp only [decide_eq_true_eq, decide_eq_false_iff_not]; omega) | fail)) ?_) | (refine hd_condF (by exact aX) (by (first | rfl | (simp only [decide_eq_true_eq, decide_eq_false_iff_not]; omega) | fail)) ?_) | (refine hd_cond (by exact aX) (fun _ => ?_) (fun _ => ?_))  | fail | refine hd_opA ?_ | refine ch_opA ?_ | refine hd_pnA ?_ | fail | ((first | apply hd_ok | apply ch_ok); (focus ((first | (apply OK.plain; rfl) | (apply OK.guarded; rfl; rfl; (intro hg; (try have hk := hg.2); (try have hl := hg.2.2); (try have hm := hg.2.2.2)))); (first | (apply od_call; exact aX; infer_instance; exact aE; exact aN; (focus (first | fail))) ))); rfl; rfl) | (refine hd_pn_op rfl ?_) | (refine ts_step rfl (fun HF h1 hle => ?_)) | refine hd_storeA ?_ | refine hd_boxA (fun _ => ?_) | refine hd_alloc rfl (fun _ => ?_) | refine hd_makeA (fun _ => ?_) | refine hd_copyA ?_ | refine hd_litA (fun _ => ?_) | refine hd_appendA (fun _ _ => ?_) | (apply hd_callM (Hi := []); exact aX; infer_instance; exact aE; exact aN; rfl; (focus exact fun _ hw => hw); (focus exact desc_CopyM _ hx (by omega) hf); (focus (rintro _ h1 _ hle1 ⟨p9, c9, css9, rfl, hall9, rfl⟩; skip))) | (apply hd_storeR; exact aX; exact aX; rfl; exact aP; rfl; (focus (rw [hlF]; simp only [List.length_cons, List.length_nil]; omega)); (focus omega); rfl; (focus (first | exact hset _ rfl | exact hset _))))
  refine hd_loopS (ι := Nat × List (List Value)) (fun i => i.1 ≤ n ∧ All2 (rDesc.ok h1) i.2 ((xs.take i.1).map olderD ++ xs.drop i.1)) (fun i => [(3, [], .slice p9 n c9), (8, [], .int .i64 n), (9, [], .int .i64 i.1)])
    (fun i => [row p9 n c9 32 4 i.2.flatten]) (fun i => h1) (fun i => n - i.1) (0, css9) ⟨by omega, by simpa using hall9⟩ (by exact aU) (fun w hw => inv_only (by exact aS) hw) (fun i hi => ?_)
  obtain ⟨i, css⟩ := i
  obtain ⟨hi0, hall⟩ := hi
  simp only at hi0 hall
  simp only
  have hcl : css.length = n := by rw [hall.length]; simp; omega
  have hlF : css.flatten.length = n * 4 := by rw [(wide_ok hall).len, hcl]
  refine hd_split (c := decide (i < n)) (fun hlt => ?_) (fun hlt => ?_)
  · simp only [decide_eq_true_eq] at hlt
    obtain ⟨y1, hy1⟩ := get_of hl hlt
    have hge : ((xs.take i).map olderD ++ xs.drop i)[i]? = some y1 := by
      rw [List.getElem?_append_right (by simp; omega)]
      simp only [List.length_map, List.length_take, Nat.min_eq_left (show i ≤ xs.length by omega), Nat.sub_self, List.getElem?_drop, Nat.add_zero]
      exact hy1
    obtain ⟨ci, hci, hok⟩ := hall.get hge
    obtain ⟨p1, n1, c1, rfl, hr1, g1⟩ := rDesc_ok hok
    have hra := hr1.age
    simp only [inR] at hra
    have hget : css.flatten[i * 4 + 2]? = some (.int .u8 y1.age) := (wide_ok hall).get hci (by omega)
    have hset : ∀ v : Value, spl css.flatten (i * 4 + 2) [v] = (css.set i [.int .u8 y1.node, .int .u16 y1.inc, v, .slice p1 n1 c1]).flatten := fun v => (wide_ok hall).spl1 hci (by omega)
    have hdr : xs.drop i = y1 :: xs.drop (i + 1) := by
      obtain ⟨h1, h2⟩ := List.getElem?_eq_some_iff.1 hy1
      rw [List.drop_eq_getElem_cons h1, h2]
    have hstep : (xs.take (i + 1)).map olderD ++ xs.drop (i + 1) = ((xs.take i).map olderD ++ xs.drop i).set i (olderD y1) := by
      rw [hdr, take_step hy1, List.set_append, if_neg (by simp; omega)]
      simp [Nat.min_eq_left (show i ≤ xs.length by omega)]
    refine hd_split (c := decide (y1.age < 255)) (fun ha => ?_) (fun ha => ?_)
    · have ha' := ha
      simp only [decide_eq_true_eq] at ha'
      have e : olderD y1 = { y1 with age := y1.age + 1 } := by simp [olderD, ha']
      have hR := olderD_R hr1
      have hnew : rDesc.ok h1 [.int .u8 y1.node, .int .u16 y1.inc, .int .u8 (y1.age + 1), .slice p1 n1 c1] (olderD y1) := by rw [e] at hR ⊢; exact rDesc_mk hR g1
      repeat' (first | fail | fail | refine wkA ?_ | fail | fail | refine hd_draw follows_any (by decide +kernel) ?_ | (refine is_on ?_; first | refine ts_onA ?_ | refine pn_barA ?_ | refine pn_goA ?_ | refine pt_goA ?_) | refine hd_nil ?_ | exact tsA | fail | (refine hd_condT (by exact aX) (by (first | rfl | exact ha | (simp only [decide_eq_true_eq, decide_eq_false_iff_not]; omega) | fail)) ?_) | (refine hd_condF (by exact aX) (by (first | rfl | exact ha | (simp only [decide_eq_true_eq, decide_eq_false_iff_not]; omega) | fail)) ?_) | (refine hd_cond (by exact aX) (fun _ => ?_) (fun _ => ?_))  | fail | refine hd_opA ?_ | refine ch_opA ?_ | refine hd_pnA ?_ | fail | ((first | apply hd_ok | apply ch_ok); (focus ((first | (apply OK.plain; rfl) | (apply OK.guarded; rfl; rfl; (intro hg; (try have hk := hg.2); (try have hl := hg.2.2); (try have hm := hg.2.2.2)))); (first | (apply od_call; exact aX; infer_instance; exact aE; exact aN; (focus (first | fail))) ))); rfl; rfl) | (refine hd_pn_op rfl ?_) | (refine ts_step rfl (fun HF h1 hle => ?_)) | refine hd_storeA ?_ | refine hd_boxA (fun _ => ?_) | refine hd_alloc rfl (fun _ => ?_) | refine hd_makeA (fun _ => ?_) | refine hd_copyA ?_ | refine hd_litA (fun _ => ?_) | refine hd_appendA (fun _ _ => ?_) | (apply hd_callM (Hi := []); exact aX; infer_instance; exact aE; exact aN; rfl; (focus exact fun _ hw => hw); (focus exact desc_CopyM _ hx (by omega) hf); (focus (rintro _ h1 _ hle1 ⟨p9, c9, css9, rfl, hall9, rfl⟩; skip))) | (apply hd_storeR; exact aX; exact aX; rfl; exact aP; rfl; (focus (rw [hlF]; simp only [List.length_cons, List.length_nil]; omega)); (focus omega); rfl; (focus (first | exact hset _ rfl | exact hset _))))
      refine hd_again (i + 1, css.set i [.int .u8 y1.node, .int .u16 y1.inc, .int .u8 (y1.age + 1), .slice p1 n1 c1]) ⟨by simp only; omega, by simp only; rw [hstep]; exact All2.set hall i hnew⟩ (by simp only; omega) (by exact aU) (fun w hw => inv_only (by exact aS) hw)
    · have ha' := ha
      simp only [decide_eq_false_iff_not] at ha'
      have e : olderD y1 = y1 := by simp [olderD, ha']
      have hcs : css.set i [.int .u8 y1.node, .int .u16 y1.inc, .int .u8 y1.age, .slice p1 n1 c1] = css := by obtain ⟨k1, k2⟩ := List.getElem?_eq_some_iff.1 hci; rw [← k2]; exact List.set_getElem_self k1
      repeat' (first | fail | fail | refine wkA ?_ | fail | fail | refine hd_draw follows_any (by decide +kernel) ?_ | (refine is_on ?_; first | refine ts_onA ?_ | refine pn_barA ?_ | refine pn_goA ?_ | refine pt_goA ?_) | refine hd_nil ?_ | exact tsA | fail | (refine hd_condT (by exact aX) (by (first | rfl | exact ha | (simp only [decide_eq_true_eq, decide_eq_false_iff_not]; omega) | fail)) ?_) | (refine hd_condF (by exact aX) (by (first | rfl | exact ha | (simp only [decide_eq_true_eq, decide_eq_false_iff_not]; omega) | fail)) ?_) | (refine hd_cond (by exact aX) (fun _ => ?_) (fun _ => ?_))  | fail | refine hd_opA ?_ | refine ch_opA ?_ | refine hd_pnA ?_ | fail | ((first | apply hd_ok | apply ch_ok); (focus ((first | (apply OK.plain; rfl) | (apply OK.guarded; rfl; rfl; (intro hg; (try have hk := hg.2); (try have hl := hg.2.2); (try have hm := hg.2.2.2)))); (first | (apply od_call; exact aX; infer_instance; exact aE; exact aN; (focus (first | fail))) ))); rfl; rfl) | (refine hd_pn_op rfl ?_) | (refine ts_step rfl (fun HF h1 hle => ?_)) | refine hd_storeA ?_ | refine hd_boxA (fun _ => ?_) | refine hd_alloc rfl (fun _ => ?_) | refine hd_makeA (fun _ => ?_) | refine hd_copyA ?_ | refine hd_litA (fun _ => ?_) | refine hd_appendA (fun _ _ => ?_) | (apply hd_callM (Hi := []); exact aX; infer_instance; exact aE; exact aN; rfl; (focus exact fun _ hw => hw); (focus exact desc_CopyM _ hx (by omega) hf); (focus (rintro _ h1 _ hle1 ⟨p9, c9, css9, rfl, hall9, rfl⟩; skip))) | (apply hd_storeR; exact aX; exact aX; rfl; exact aP; rfl; (focus (rw [hlF]; simp only [List.length_cons, List.length_nil]; omega)); (focus omega); rfl; (focus (first | exact hset _ rfl | exact hset _))))
      refine hd_again (i + 1, css) ⟨by simp only; omega, by simp only; rw [hstep, e]; rw [← hcs]; exact All2.set hall i hok⟩ (by simp only; omega) (by exact aU) (fun w hw => inv_only (by exact aS) hw)
  · simp only [decide_eq_false_iff_not] at hlt
    have hin : i = n := by omega
    subst hin
    rw [List.take_of_length_le (by omega), List.drop_of_length_le (by omega), List.append_nil] at hall
    repeat' (first | fail | fail | refine wkA ?_ | fail | fail | refine hd_draw follows_any (by decide +kernel) ?_ | (refine is_on ?_; first | refine ts_onA ?_ | refine pn_barA ?_ | refine pn_goA ?_ | refine pt_goA ?_) | refine hd_nil ?_ | exact tsA | fail | (refine hd_condT (by exact aX) (by (first | rfl | exact ha | (simp only [decide_eq_true_eq, decide_eq_false_iff_not]; omega) | fail)) ?_) | (refine hd_condF (by exact aX) (by (first | rfl | exact ha | (simp only [decide_eq_true_eq, decide_eq_false_iff_not]; omega) | fail)) ?_) | (refine hd_cond (by exact aX) (fun _ => ?_) (fun _ => ?_))  | fail | refine hd_opA ?_ | refine ch_opA ?_ | refine hd_pnA ?_ | fail | ((first | apply hd_ok | apply ch_ok); (focus ((first | (apply OK.plain; rfl) | (apply OK.guarded; rfl; rfl; (intro hg; (try have hk := hg.2); (try have hl := hg.2.2); (try have hm := hg.2.2.2)))); (first | (apply od_call; exact aX; infer_instance; exact aE; exact aN; (focus (first | fail))) ))); rfl; rfl) | (refine hd_pn_op rfl ?_) | (refine ts_step rfl (fun HF h1 hle => ?_)) | refine hd_storeA ?_ | refine hd_boxA (fun _ => ?_) | refine hd_alloc rfl (fun _ => ?_) | refine hd_makeA (fun _ => ?_) | refine hd_copyA ?_ | refine hd_litA (fun _ => ?_) | refine hd_appendA (fun _ _ => ?_) | (apply hd_callM (Hi := []); exact aX; infer_instance; exact aE; exact aN; rfl; (focus exact fun _ hw => hw); (focus exact desc_CopyM _ hx (by omega) hf); (focus (rintro _ h1 _ hle1 ⟨p9, c9, css9, rfl, hall9, rfl⟩; skip))) | (apply hd_storeR; exact aX; exact aX; rfl; exact aP; rfl; (focus (rw [hlF]; simp only [List.length_cons, List.length_nil]; omega)); (focus omega); rfl; (focus (first | exact hset _ rfl | exact hset _))))
    refine hd_pubR (r := rDesc) css (xs.map olderD) (by exact aP) rfl hall (by simp; omega) (by omega) (fun h2 hle2 hsl => ?_)
    ((repeat (refine hd_undefer (by first | exact .inl rfl | exact .inr rfl) (by exact aP) ?_)); apply hd_res0; (focus (first | exact .inl rfl | exact .inr rfl)); rfl; exact aR)
    exact ⟨_, _, rfl, hsl⟩
end Go.Proofs.Ytddhljoglhfhdaa
