/- For every input the law ScoreGrows returns true and leaves its arguments as they were. -/
import Derived.Test.YtlaockppbboafaaScoA
import Derived.Test.YtlaockppbboafaaScoQ
namespace Go.Proofs.Ytlaockppbboafaa
open Go Go.GV Go.RowKit Go.ChangeShapes Go.WideShapes Go.ChangeAt
attribute [local irreducible] cw Go.GV.wpList Exit.then Exit.inBlock Go.GV.bodyPost wpPl wpPm wpPn TS rnd rPost YieldsB
set_option maxRecDepth 10000
set_option linter.unusedVariables false
set_option linter.unusedSimpArgs false

set_option maxHeartbeats 4000000 in
theorem ScoreGrows_det {u t s : Value} (a b c : List Sp) (h : PH) (hu : VSs h u a) (ht : VSs h t b) (hs : VSs h s c) :
    Det Try.prog 7 #[u, t, s] h (.bool true) := by
  obtain ⟨p2, n2, c2, rfl, h2⟩ := hu
  obtain ⟨p3, n3, c3, rfl, h3⟩ := ht
  obtain ⟨p4, n4, c4, rfl, h4⟩ := hs
  have l2 := h2.len
  have l3 := h3.len
  have l4 := h4.len
  have lm := meetF_len_le a c
  refine spec_enter (args := [_, _, _]) Try.func7 rfl Try.ntmps7 rfl (fun w l => ?_)
  refine hd_split (c := decide (n2 ≤ 8 ∧ n3 ≤ 8 ∧ n4 ≤ 8)) (fun hF => ?_) (fun hF => ?_)
  all_goals simp only [decide_eq_true_eq, decide_eq_false_iff_not] at hF
  all_goals repeat' (first | fail | fail | refine hd_seq ?_ | refine hd_then_n ?_ | refine hd_then_r ?_ | refine hd_then_e ?_ | refine hd_in_n ?_ | refine hd_in_r ?_ | refine hd_in_e ?_ | refine hd_in_o rfl ?_ | refine hd_region ?_ | fail | fail | refine hd_draw follows_any (by decide +kernel) ?_ | (refine is_on ?_; (first | (refine ts_on (by ((repeat (first | exact Pre.nil | apply Pre.cons)); done)) (by ((repeat (first | exact Pre.nil | apply Pre.cons)); done)) (by ((repeat (first | assumption | exact PH.le_refl _ | (refine PH.le_trans ?_ (by assumption)))); done)) rfl ?_) | (refine hd_pn_bar (by decide) ?_) | (refine hd_pn_go (by ((repeat (first | exact More.same | apply More.one)); done)) (by ((repeat (first | assumption | exact PH.le_refl _ | (refine PH.le_trans ?_ (by assumption)))); done)) ?_))) | refine hd_nil ?_ | exact ts_done ⟨rfl, rfl⟩ | exact ts_doneA rfl rfl | exact ts_doneN rfl rfl | exact ts_doneB rfl rfl | exact ts_doneR rfl rfl | refine ch_nil ?_ | refine hd_pn_nil ?_ | refine hd_skip ?_ | refine hd_ret ?_ | refine hd_exit ?_ | refine hd_block ?_ | refine hd_begin (by ((repeat (first | apply Pick.here | apply Pick.there)); done)) ?_ | (refine hd_condT (by exact (Ev.mk rfl (by trivial))) (by (first | rfl | (simp only [decide_eq_true_eq, decide_eq_false_iff_not]; omega) | (simp; omega) | fail)) ?_) | (refine hd_condF (by exact (Ev.mk rfl (by trivial))) (by (first | rfl | (simp only [decide_eq_true_eq, decide_eq_false_iff_not]; omega) | (simp; omega) | fail)) ?_) | (refine hd_cond (by exact (Ev.mk rfl (by trivial))) (fun _ => ?_) (fun _ => ?_)) | (apply hd_call; (focus exact (Ev.mk rfl (by trivial))); (focus infer_instance); (focus ((repeat (first | exact Evs.nil | (apply Evs.cons; (focus exact (Ev.mk rfl (by trivial)))))); done)); (focus ((repeat (first | exact Nf.nil | apply Nf.cons)); done)); (focus rfl); (focus exact filter_Meet _ (by (first | assumption | exact SlR.nil _ _ | exact SlR.mono (by assumption) (by ((repeat (first | assumption | exact PH.le_refl _ | (refine PH.le_trans ?_ (by assumption)))); done)))) (by (first | assumption | exact SlR.nil _ _ | exact SlR.mono (by assumption) (by ((repeat (first | assumption | exact PH.le_refl _ | (refine PH.le_trans ?_ (by assumption)))); done)))) (by (first | omega | grind [Sat]))); (focus (rintro _ h1 hle1 ⟨p1, n1, c1, rfl, hsl⟩; have hln1 := hsl.len))) | refine hd_opA ?_ | refine ch_opA ?_ | refine hd_pnA ?_ | fail | ((first | apply hd_ok | apply ch_ok); (focus ((first | (apply OK.plain; (focus rfl)) | (apply OK.guarded; (focus rfl); (focus rfl); (intro hg; (try have hk := hg.2); (try have hl := hg.2.2); (try have hm := hg.2.2.2)))); (first | (apply od_call; (focus exact (Ev.mk rfl (by trivial))); (focus infer_instance); (focus ((repeat (first | exact Evs.nil | (apply Evs.cons; (focus exact (Ev.mk rfl (by trivial)))))); done)); (focus ((repeat (first | exact Nf.nil | apply Nf.cons)); done)); (focus (first | exact awake_det _ | exact score_Overlap _ (by (first | assumption | exact SlR.nil _ _ | exact SlR.mono (by assumption) (by ((repeat (first | assumption | exact PH.le_refl _ | (refine PH.le_trans ?_ (by assumption)))); done)))) (by (first | assumption | exact SlR.nil _ _ | exact SlR.mono (by assumption) (by ((repeat (first | assumption | exact PH.le_refl _ | (refine PH.le_trans ?_ (by assumption)))); done)))) (by (first | omega | grind [Sat])) | exact ref6_Overlap _ (by (first | assumption | exact SlR.nil _ _ | exact SlR.mono (by assumption) (by ((repeat (first | assumption | exact PH.le_refl _ | (refine PH.le_trans ?_ (by assumption)))); done)))) (by (first | assumption | exact SlR.nil _ _ | exact SlR.mono (by assumption) (by ((repeat (first | assumption | exact PH.le_refl _ | (refine PH.le_trans ?_ (by assumption)))); done)))) (by (first | omega | grind [Sat])) | exact ref3_Right _ (by (first | assumption | exact SlR.nil _ _ | exact SlR.mono (by assumption) (by ((repeat (first | assumption | exact PH.le_refl _ | (refine PH.le_trans ?_ (by assumption)))); done)))) | exact ref5_Right _ (by (first | assumption | exact SlR.nil _ _ | exact SlR.mono (by assumption) (by ((repeat (first | assumption | exact PH.le_refl _ | (refine PH.le_trans ?_ (by assumption)))); done)))) (by (first | assumption | exact SlR.nil _ _ | exact SlR.mono (by assumption) (by ((repeat (first | assumption | exact PH.le_refl _ | (refine PH.le_trans ?_ (by assumption)))); done)))) | exact schema_Right _ (by (first | assumption | exact SlR.nil _ _ | exact SlR.mono (by assumption) (by ((repeat (first | assumption | exact PH.le_refl _ | (refine PH.le_trans ?_ (by assumption)))); done)))) | exact score_Key _ (by (first | assumption | exact SlR.nil _ _ | exact SlR.mono (by assumption) (by ((repeat (first | assumption | exact PH.le_refl _ | (refine PH.le_trans ?_ (by assumption)))); done)))) (by (first | assumption | exact SlR.nil _ _ | exact SlR.mono (by assumption) (by ((repeat (first | assumption | exact PH.le_refl _ | (refine PH.le_trans ?_ (by assumption)))); done)))) (by (first | assumption | grind | fail)) (by (first | assumption | grind | fail)) | exact ref6_Key _ (by (first | assumption | exact SlR.nil _ _ | exact SlR.mono (by assumption) (by ((repeat (first | assumption | exact PH.le_refl _ | (refine PH.le_trans ?_ (by assumption)))); done)))) (by (first | assumption | exact SlR.nil _ _ | exact SlR.mono (by assumption) (by ((repeat (first | assumption | exact PH.le_refl _ | (refine PH.le_trans ?_ (by assumption)))); done)))) (by (first | assumption | grind | fail)) (by (first | assumption | grind | fail)) | exact filter_Covers _ (by (first | assumption | exact SlR.nil _ _ | exact SlR.mono (by assumption) (by ((repeat (first | assumption | exact PH.le_refl _ | (refine PH.le_trans ?_ (by assumption)))); done)))) (by (first | assumption | exact SlR.nil _ _ | exact SlR.mono (by assumption) (by ((repeat (first | assumption | exact PH.le_refl _ | (refine PH.le_trans ?_ (by assumption)))); done)))) | exact filter_Match _ (by (first | assumption | exact SlR.nil _ _ | exact SlR.mono (by assumption) (by ((repeat (first | assumption | exact PH.le_refl _ | (refine PH.le_trans ?_ (by assumption)))); done)))) (by (first | assumption | exact SlR.nil _ _ | exact SlR.mono (by assumption) (by ((repeat (first | assumption | exact PH.le_refl _ | (refine PH.le_trans ?_ (by assumption)))); done))))))) ))); (focus rfl); (focus rfl)) | (refine hd_pn_op rfl ?_) | (refine ts_step rfl (fun HF h1 hle => ?_)) | refine hd_storeA ?_ | refine hd_boxA (fun _ => ?_) | refine hd_alloc rfl (fun _ => ?_) | refine hd_makeA (fun _ => ?_) | refine hd_copyA ?_ | refine hd_litA (fun _ => ?_) | refine hd_appendA (fun _ _ => ?_) | refine hd_storeRA ?_)
  all_goals ((repeat (refine hd_undefer (by first | exact .inl rfl | exact .inr rfl) (by ((repeat (first | apply Pick.here | apply Pick.there)); done)) ?_)); apply hd_res0; (focus (first | exact .inl rfl | exact .inr rfl)); (focus rfl); (focus ((repeat (first | exact Res.nil | (apply Res.tmp; (focus exact (Ev.mk rfl (by trivial)))) | (apply Res.one; (focus exact (Ev.mk rfl (by trivial))); (focus ((repeat (first | exact HGet.here | apply HGet.there)); done)); (focus rfl)) | (apply Res.agg; (focus exact (Ev.mk rfl (by trivial))); (focus ((repeat (first | exact HGet.here | apply HGet.there)); done)); (focus ((repeat (first | exact Nf.nil | apply Nf.cons)); done)); (focus rfl)))); done)))
  all_goals apply ret_bool
  · have e1 := ovl_grow a b c
    have e2 : (!coversF b a || (ovl a b == ovl a a)) = true := by
      cases hc : coversF b a with
      | false => rfl
      | true => simp [ovl_cov hc]
    simp only [decide_eq_true e1, Bool.true_and, Bool.and_true]
    exact e2
  · rfl
set_option maxRecDepth 100000 in
theorem ScoreGrows_lifted (os : Os) (started : os.Started) (X : Type) (enc : TypeId × Value → X) :
    ReturnsInHanded {} Try.checked os 7 .any (Rows.scoreGrowsSpec.pre6 enc Try.prog Try.f7 Rows.scoreGrowsRow.domain false) (Rows.scoreGrowsSpec.post enc Try.prog Try.f7 false true false false) := by
  refine returnsInHanded_of_change (C := Try.checked) own started (by kernel_rfl) Try.func7
    (ChangeSpec.witness6 (enc := enc) (C := Try.checked) false ⟨#[], #[.slice none 0 0, .slice none 0 0, .slice none 0 0], []⟩ 8 (by kernel_rfl) (by kernel_rfl) (by kernel_rfl) (by kernel_rfl)) ?_
  intro W base args ds gs before hval0 hW hcnd hsz
  have hval : ∀ (j : Nat) t v, Try.f7.params[j]? = some t → args[j]? = some v → Value.okWide Try.prog W .any base t v := hval0
  have hW2 := hW
  obtain ⟨p, q, hA0, hV, rfl, hfz, hnd⟩ := hW
  have hA : DataW.TrodAll enc Try.prog W 0 (fun _ => true) true Try.f7.params.toList args.toList ds p := hA0
  rw [Try.params7] at hA hval
  have hB := hA
  obtain ⟨v0, vs0, d0, ds0, pp0, qq0, hargs, rfl, rfl, h0, r0⟩ := trodAll_cons hA
  obtain ⟨v1, vs1, d1, ds1, pp1, qq1, rfl, rfl, rfl, h1, r1⟩ := trodAll_cons r0
  obtain ⟨v2, vs2, d2, ds2, pp2, qq2, rfl, rfl, rfl, h2, r2⟩ := trodAll_cons r1
  obtain ⟨rfl, rfl, rfl⟩ := trodAll_nil r2
  obtain rfl : args = #[v0, v1, v2] := by cases args; simp_all
  obtain ⟨rfl, rfl⟩ := trodVars_none hV
  obtain ⟨x0, b0⟩ := ok_filter (hval 0 24 v0 rfl rfl) h0
  obtain ⟨x1, b1⟩ := ok_filter (hval 1 24 v1 rfl rfl) h1
  obtain ⟨x2, b2⟩ := ok_filter (hval 2 24 v2 rfl rfl) h2
  refine (Det.calls (ScoreGrows_det x0 x1 x2 (whole W) b0 b1 b2)).mono fun e W2 ⟨he, bel⟩ => ?_
  subst he
  exact ⟨_, rfl, _, _, _, [], _, [], hW2, trodAll_mk1 (shut_bool Try.underlying4 _), trodAll_below laidOut bel (by kernel_rfl) hB, rfl, bel.frame _, fun h => by cases h⟩
theorem ScoreGrows_over : Rows.scoreGrowsRow.holds Try.pinned (OpenSpec.ofChange Rows.scoreGrowsSpec) :=
  OpenClaim.holds_of_wide 7 Try.f7 rfl rfl rfl rfl rfl rfl rfl ⟨rfl, rfl, rfl, rfl, rfl⟩ rfl rfl rfl rfl rfl (by kernel_rfl) Try.func7 (by kernel_rfl)
    (of_decide_eq_true (by kernel_rfl)) (by unfold Func.isWrapper; first | (rw [if_pos (by decide +kernel)]; kernel_rfl) | (rw [if_neg (by decide +kernel)]; exact ⟨rfl, rfl⟩))
    (fun os started X enc _ => ScoreGrows_lifted os started X enc)
/-- The statement. -/
theorem ScoreGrows_proved : Rows.ScoreGrowsSaid := ScoreGrows_over
end Go.Proofs.Ytlaockppbboafaa
