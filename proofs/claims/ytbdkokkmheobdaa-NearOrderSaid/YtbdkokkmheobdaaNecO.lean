/- What the law NearOrder yields. -/
import Derived.Test.YtbdkokkmheobdaaNecW
namespace Go.Proofs.Ytbdkokkmheobdaa
open Go Go.GV Go.RowKit Go.ChangeShapes Go.WideShapes Go.ChangeAt
attribute [local irreducible] cw Go.GV.SpecM Go.GV.wpList Exit.then Exit.inBlock Go.GV.bodyPost wpPl wpPm wpPn TS rnd rPost YieldsB wpPT ptK
set_option maxRecDepth 10000
set_option linter.unusedVariables false
set_option linter.unusedSimpArgs false
theorem ord1 (own : List Sp) (a b : DD) : (betB own a a || ((a.node != b.node) && (betB own a b == betB own b a)) || (betB own a b && betB own b a)) = false := by
  rw [bet_irr]
  by_cases hn : a.node = b.node
  · cases h : betB own a b with
    | false => simp [hn]
    | true => have := bet_asym h; simp [hn, this]
  · have := bet_total (own := own) hn
    rw [this]
    cases h : betB own b a <;> simp
theorem ord2 (own : List Sp) (a b c : DD) : ((betB own a b && betB own b c) && !betB own a c) = false := by
  cases h : betB own a b with
  | false => rfl
  | true => cases h2 : betB own b c with
    | false => rfl
    | true => rw [bet_trans h h2]; rfl
theorem ord3 (own : List Sp) (a b : DD) : ((decide (ovl own a.filter ≤ ovl own b.filter) || betB own a b) && true) = true := by
  by_cases h : ovl own a.filter ≤ ovl own b.filter
  · simp [h]
  · rw [ovl_bet (by omega)]; simp

set_option maxHeartbeats 16000000 in
theorem NearOrder_det {t u v x : Value} (own : List Sp) (a b c : DD) (h : PH) (ho : VSs h t own) (hua : VDs h u a) (hvb : VDs h v b) (hxc : VDs h x c) :
    Det Try.prog 4 #[t, u, v, x] h (.bool true) := by
  obtain ⟨p0, n0, c0, rfl, h0⟩ := ho
  obtain ⟨p1, n1, c1, rfl, ha, h1⟩ := hua
  obtain ⟨p2, n2, c2, rfl, hb, h2⟩ := hvb
  obtain ⟨p3, n3, c3, rfl, hc, h3⟩ := hxc
  refine spec_enter (args := [_, _, _, _]) Try.func4 rfl Try.ntmps4 rfl (fun w l => ?_)
  refine hd_split (c := decide (n0 ≤ 8)) (fun hno => ?_) (fun hno => ?_)
  · have hno : n0 ≤ 1000000 := by simp at hno; omega
    repeat' (first | (refine is_pu ?_ (by rfl); first  | fail | refine hd_opAB ?_ | fail) | (refine is_pn ?_; first | refine hd_pn_nil ?_ | fail  | fail | refine hd_pnAB ?_ | fail | (refine hd_pn_op rfl ?_)) | (refine is_co ?_; first | fail  | ((first | apply hd_ok | apply ch_ok); (focus ((first | (apply OK.plain; rfl) | (apply OK.guarded; rfl; rfl; (intro hg; (try have hk := hg.2); (try have hl := hg.2.2); (try have hm := hg.2.2.2)))); (first | (apply od_call; exact aX; infer_instance; exact aE; exact aN; (focus (first | exact awake_det _ | exact near_Better _ h0 hno (VDs.of ha h1) (VDs.of ha h1) | exact near_Better _ h0 hno (VDs.of ha h1) (VDs.of hb h2) | exact near_Better _ h0 hno (VDs.of hb h2) (VDs.of ha h1) | exact near_Better _ h0 hno (VDs.of hb h2) (VDs.of hc h3) | exact near_Better _ h0 hno (VDs.of ha h1) (VDs.of hc h3) | exact score_Overlap _ h0 h1 hno | exact score_Overlap _ h0 h2 hno))) ))); rfl; rfl) | refine hd_storeA ?_ | refine hd_boxA (fun _ => ?_) | refine hd_alloc rfl (fun _ => ?_) | refine hd_makeA (fun _ => ?_) | refine hd_copyA ?_ | refine hd_litA (fun _ => ?_) | refine hd_appendA (fun _ _ => ?_) | refine hd_storeRA ?_) | (refine is_ni ?_; first | (refine is_on ?_; first | refine pn_barA ?_ | refine pn_goA ?_ | refine pt_goA ?_  | refine ts_onA ?_) | refine hd_nil ?_) | (refine is_cw ?_; first | (refine is_rg ?_; first | fail | (refine hd_planT (id := 3) _ [] [.one 0 true, .one 1 true, .one 2 true, .one 3 false, .one 4 true, .one 5 true, .one 6 true, .one 7 true, .one 8 true, .one 9 true, .one 10 true, .one 11 true, .one 12 true, .one 13 true, .one 15 true, .one 16 true, .one 17 true, .one 14 false, .one 18 false, .one 19 true, .one 20 true, .one 21 true, .one 22 true, .one 23 true, .one 24 true, .one 25 true, .one 26 false, .one 27 true, .one 28 true, .one 29 true, .one 30 true, .one 31 false, .one 32 true, .one 33 true] follows_any (by kernel_rfl) rfl (by kernel_rfl) rfl ?_) | (refine hd_planT (id := 7) _ [] [.one 0 true, .one 1 true, .one 2 true, .one 4 true, .one 5 true, .one 6 true, .one 3 false, .one 7 false, .one 8 true, .one 9 true, .one 10 true, .one 11 true, .one 12 true, .one 13 false, .one 14 true, .one 15 true, .one 16 false, .one 17 true, .one 18 true] follows_any (by kernel_rfl) rfl (by kernel_rfl) rfl ?_) | refine hd_draw follows_any (by decide +kernel) ?_) | (refine is_cd ?_; first | (refine hd_cond (by exact aX) (fun _ => ?_) (fun _ => ?_))) | fail | refine wkA ?_) | refine wkA ?_ | (refine is_ch ?_; refine ch_opAB ?_) | ((first | apply hd_ok | apply ch_ok); (focus ((first | (apply OK.plain; rfl) | (apply OK.guarded; rfl; rfl; (intro hg; (try have hk := hg.2); (try have hl := hg.2.2); (try have hm := hg.2.2.2)))); (first | (apply od_call; exact aX; infer_instance; exact aE; exact aN; (focus (first | exact awake_det _ | exact near_Better _ h0 hno (VDs.of ha h1) (VDs.of ha h1) | exact near_Better _ h0 hno (VDs.of ha h1) (VDs.of hb h2) | exact near_Better _ h0 hno (VDs.of hb h2) (VDs.of ha h1) | exact near_Better _ h0 hno (VDs.of hb h2) (VDs.of hc h3) | exact near_Better _ h0 hno (VDs.of ha h1) (VDs.of hc h3) | exact score_Overlap _ h0 h1 hno | exact score_Overlap _ h0 h2 hno))) ))); rfl; rfl) | fail | fail | exact tsA | fail | (refine ts_step rfl (fun HF h1 hle => ?_)) | fail | fail)
    · ((repeat (refine hd_undefer (by first | exact .inl rfl | exact .inr rfl) (by exact aP) ?_)); apply hd_res0; (focus (first | exact .inl rfl | exact .inr rfl)); rfl; exact aR)
      exact ret_bool rfl
    · rename_i k
      rw [ord1] at k
      cases k
    · rename_i k
      rw [ord2] at k
      cases k
    · ((repeat (refine hd_undefer (by first | exact .inl rfl | exact .inr rfl) (by exact aP) ?_)); apply hd_res0; (focus (first | exact .inl rfl | exact .inr rfl)); rfl; exact aR)
      exact ret_bool (ord3 _ _ _)
  · simp only [decide_eq_false_iff_not] at hno
    repeat' (first | (refine is_pu ?_ (by rfl); first  | fail | refine hd_opAB ?_ | fail) | (refine is_pn ?_; first | refine hd_pn_nil ?_ | fail  | fail | refine hd_pnAB ?_ | fail | (refine hd_pn_op rfl ?_)) | (refine is_co ?_; first | fail  | ((first | apply hd_ok | apply ch_ok); (focus ((first | (apply OK.plain; rfl) | (apply OK.guarded; rfl; rfl; (intro hg; (try have hk := hg.2); (try have hl := hg.2.2); (try have hm := hg.2.2.2)))); (first | (apply od_call; exact aX; infer_instance; exact aE; exact aN; (focus (first | exact awake_det _ | exact near_Better _ h0 hno (VDs.of ha h1) (VDs.of ha h1) | exact near_Better _ h0 hno (VDs.of ha h1) (VDs.of hb h2) | exact near_Better _ h0 hno (VDs.of hb h2) (VDs.of ha h1) | exact near_Better _ h0 hno (VDs.of hb h2) (VDs.of hc h3) | exact near_Better _ h0 hno (VDs.of ha h1) (VDs.of hc h3) | exact score_Overlap _ h0 h1 hno | exact score_Overlap _ h0 h2 hno))) ))); rfl; rfl) | refine hd_storeA ?_ | refine hd_boxA (fun _ => ?_) | refine hd_alloc rfl (fun _ => ?_) | refine hd_makeA (fun _ => ?_) | refine hd_copyA ?_ | refine hd_litA (fun _ => ?_) | refine hd_appendA (fun _ _ => ?_) | refine hd_storeRA ?_) | (refine is_ni ?_; first | (refine is_on ?_; first | refine pn_barA ?_ | refine pn_goA ?_ | refine pt_goA ?_  | refine ts_onA ?_) | refine hd_nil ?_) | (refine is_cw ?_; first | (refine is_rg ?_; first | fail | (refine hd_planT (id := 3) _ [] [.one 0 true, .one 1 true, .one 2 true, .one 3 false, .one 4 true, .one 5 true, .one 6 true, .one 7 true, .one 8 true, .one 9 true, .one 10 true, .one 11 true, .one 12 true, .one 13 true, .one 15 true, .one 16 true, .one 17 true, .one 14 false, .one 18 false, .one 19 true, .one 20 true, .one 21 true, .one 22 true, .one 23 true, .one 24 true, .one 25 true, .one 26 false, .one 27 true, .one 28 true, .one 29 true, .one 30 true, .one 31 false, .one 32 true, .one 33 true] follows_any (by kernel_rfl) rfl (by kernel_rfl) rfl ?_) | (refine hd_planT (id := 7) _ [] [.one 0 true, .one 1 true, .one 2 true, .one 4 true, .one 5 true, .one 6 true, .one 3 false, .one 7 false, .one 8 true, .one 9 true, .one 10 true, .one 11 true, .one 12 true, .one 13 false, .one 14 true, .one 15 true, .one 16 false, .one 17 true, .one 18 true] follows_any (by kernel_rfl) rfl (by kernel_rfl) rfl ?_) | refine hd_draw follows_any (by decide +kernel) ?_) | (refine is_cd ?_; first | (refine hd_condT (by exact aX) (by (first | rfl | (simp only [Bool.or_eq_true, decide_eq_true_eq]; omega) | fail)) ?_) | (refine hd_condF (by exact aX) (by (first | rfl | (simp only [Bool.or_eq_true, decide_eq_true_eq]; omega) | fail)) ?_) | (refine hd_cond (by exact aX) (fun _ => ?_) (fun _ => ?_))) | fail | refine wkA ?_) | refine wkA ?_ | (refine is_ch ?_; refine ch_opAB ?_) | ((first | apply hd_ok | apply ch_ok); (focus ((first | (apply OK.plain; rfl) | (apply OK.guarded; rfl; rfl; (intro hg; (try have hk := hg.2); (try have hl := hg.2.2); (try have hm := hg.2.2.2)))); (first | (apply od_call; exact aX; infer_instance; exact aE; exact aN; (focus (first | exact awake_det _ | exact near_Better _ h0 hno (VDs.of ha h1) (VDs.of ha h1) | exact near_Better _ h0 hno (VDs.of ha h1) (VDs.of hb h2) | exact near_Better _ h0 hno (VDs.of hb h2) (VDs.of ha h1) | exact near_Better _ h0 hno (VDs.of hb h2) (VDs.of hc h3) | exact near_Better _ h0 hno (VDs.of ha h1) (VDs.of hc h3) | exact score_Overlap _ h0 h1 hno | exact score_Overlap _ h0 h2 hno))) ))); rfl; rfl) | fail | fail | exact tsA | fail | (refine ts_step rfl (fun HF h1 hle => ?_)) | fail | fail)
    all_goals ((repeat (refine hd_undefer (by first | exact .inl rfl | exact .inr rfl) (by exact aP) ?_)); apply hd_res0; (focus (first | exact .inl rfl | exact .inr rfl)); rfl; exact aR)
    all_goals exact ret_bool rfl
end Go.Proofs.Ytbdkokkmheobdaa
