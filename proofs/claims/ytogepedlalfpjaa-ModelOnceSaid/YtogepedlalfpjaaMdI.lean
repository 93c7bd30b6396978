/- The same service; may it be done; a new service. -/
import Derived.Test.YtogepedlalfpjaaMdH
namespace Go.Proofs.Ytogepedlalfpjaa
open Go Go.GV
attribute [local irreducible] cw Go.GV.SpecM Go.GV.wpList Exit.then Exit.inBlock Go.GV.bodyPost wpPl wpPm wpPn TS rnd rPost YieldsB wpPT ptK
set_option maxRecDepth 10000
set_option maxHeartbeats 8000000
set_option linter.unusedVariables false
set_option linter.unusedSimpArgs false
theorem pvMdI1 {A : Prop} (h : A := by (first | rfl | (simp only [decide_eq_true_eq, decide_eq_false_iff_not]; omega) | fail)) : A := h
theorem nvMdI1 {A : Prop} (h : A := by (first | decide | grind)) : A := h
theorem all2_rep {α β : Type} {R : α → β → Prop} {a : α} {b : β} (m : Nat) (hab : R a b) : All2 R (List.replicate m a) (List.replicate m b) := by
  induction m with
  | zero => trivial
  | succ m ih => exact ⟨hab, ih⟩
theorem model_sameLife {x y : LD} {p q : Option Addr} {n c m d : Nat} (h : PH) (hx : SlS h p n c x.filter) (hy : SlS h q m d y.filter) : Det Try.prog 34 #[.agg #[.int .u16 x.inc, .bool x.up, .slice p n c, .int .u32 x.seq], .agg #[.int .u16 y.inc, .bool y.up, .slice q m d, .int .u32 y.seq]] h (.bool (decide (x = y))) := by
  refine spec_enter (args := [_, _]) Try.func34 rfl Try.ntmps34 rfl (fun w l => ?_)
  repeat' (first | (refine is_pu ?_ (by rfl); first  | fail | refine hd_opAB ?_ | fail) | (refine is_pn ?_; first | refine hd_pn_nil ?_ | fail  | fail | refine hd_pnAB ?_ | fail | (refine hd_pn_op rfl ?_)) | (refine is_co ?_; first | fail  | ((first | apply hd_ok | apply ch_ok); (focus ((first | (apply OK.plain; rfl) | (apply OK.guarded; rfl; rfl; (intro hg; (try have hk := hg.2); (try have hl := hg.2.2); (try have hm := hg.2.2.2)))); (first | (apply od_call; exact aX; infer_instance; exact aE; exact aN; (focus (first | exact filter_Same _ (by assumption) (by assumption)))) ))); rfl; rfl) | refine hd_storeA ?_ | refine hd_boxA (fun _ => ?_) | refine hd_alloc rfl (fun _ => ?_) | refine hd_makeA (fun _ => ?_) | refine hd_copyA ?_ | refine hd_litA (fun _ => ?_) | refine hd_appendA (fun _ _ => ?_) | refine hd_storeRA ?_) | (refine is_ni ?_; first | (refine is_on ?_; first | refine pn_barA ?_ | refine pn_goA ?_ | refine pt_goA ?_  | refine ts_onA ?_) | refine hd_nil ?_) | (refine is_cw ?_; first | (refine is_rg ?_; first | fail | fail) | (refine is_cd ?_; first | (refine hd_condT (by exact aX) (by exact pvMdI1) ?_) | (refine hd_condF (by exact aX) (by exact pvMdI1) ?_) | (refine hd_cond (by exact aX) (fun _ => ?_) (fun _ => ?_))) | fail | refine wkA ?_) | refine wkA ?_ | fail | exact tsA | fail | (refine ts_step rfl (fun HF h1 hle => ?_)) | fail | fail)
  ((repeat (refine hd_undefer (by first | exact .inl rfl | exact .inr rfl) (by exact aP) ?_)); apply hd_res0; (focus (first | exact .inl rfl | exact .inr rfl)); rfl; exact aR)
  refine ret_bool ?_
  obtain ⟨x1, x2, x3, x4⟩ := x
  obtain ⟨y1, y2, y3, y4⟩ := y
  rw [Bool.eq_iff_iff]
  simp
  grind
theorem equalFunc_L {p q : Option Addr} {n c m d : Nat} {xs ys : List LD} (h : PH) (hx : SlL h p n c xs) (hy : SlL h q m d ys) : Det Try.prog 33 #[.slice p n c, .slice q m d, .func (.func 34) #[] #[]] h (.bool (decide (xs = ys))) := by
  have hl := hx.len
  have hl2 := hy.len
  have ht := hx.top
  refine spec_enter (args := [_, _, _]) Try.func33 rfl Try.ntmps33 rfl (fun w l => ?_)
  repeat' (first | (refine is_pu ?_ (by rfl); first  | fail | refine hd_opAB ?_ | fail) | (refine is_pn ?_; first | refine hd_pn_nil ?_ | fail  | fail | refine hd_pnAB ?_ | fail | (refine hd_pn_op rfl ?_)) | (refine is_co ?_; first | fail  | ((first | apply hd_ok | apply ch_ok); (focus ((first | (apply OK.plain; rfl) | (apply OK.guarded; rfl; rfl; (intro hg; (try have hk := hg.2); (try have hl := hg.2.2); (try have hm := hg.2.2.2)))); (first | (apply od_call; exact aX; infer_instance; exact aE; exact aN; (focus (first | exact model_sameLife _ hf1 hf2))) ))); rfl; rfl) | refine hd_storeA ?_ | refine hd_boxA (fun _ => ?_) | refine hd_alloc rfl (fun _ => ?_) | refine hd_makeA (fun _ => ?_) | refine hd_copyA ?_ | refine hd_litA (fun _ => ?_) | refine hd_appendA (fun _ _ => ?_) | refine hd_storeRA ?_) | (refine is_ni ?_; first | (refine is_on ?_; first | refine pn_barA ?_ | refine pn_goA ?_ | refine pt_goA ?_  | refine ts_onA ?_) | refine hd_nil ?_) | (refine is_cw ?_; first | (refine is_rg ?_; first | fail | fail) | (refine is_cd ?_; first | (refine hd_condT (by exact aX) (by exact pvMdI1) ?_) | (refine hd_condF (by exact aX) (by exact pvMdI1) ?_) | (refine hd_cond (by exact aX) (fun _ => ?_) (fun _ => ?_))) | fail | refine wkA ?_) | refine wkA ?_ | fail | exact tsA | fail | (refine ts_step rfl (fun HF h1 hle => ?_)) | fail | fail)
  · rename_i hc
    ((repeat (refine hd_undefer (by first | exact .inl rfl | exact .inr rfl) (by exact aP) ?_)); apply hd_res0; (focus (first | exact .inl rfl | exact .inr rfl)); rfl; exact aR)
    refine ret_bool ?_
    simp at hc
    simp; intro e; rw [e] at hl; omega
  · rename_i hc
    have hmn : n = m := by simp at hc; omega
    subst hmn
    refine hd_loopS (ι := Nat) (fun i => i ≤ n ∧ xs.take i = ys.take i) (fun i => [(1, [], .slice q n d), (2, [], .func (.func 34) #[] #[]), (15, [], .slice p n c), (16, [], .int .i64 n), (17, [], .int .i64 i)]) (fun _ => []) (fun _ => h) (fun i => n - i) 0 (by simp) (by exact aU) (fun _ hw => hw) (fun i hi => ?_)
    refine hd_split (c := decide (i < n)) (fun hlt => ?_) (fun hlt => ?_)
    · simp only [decide_eq_true_eq] at hlt
      obtain ⟨y1, hy1⟩ := get_of hl hlt
      obtain ⟨cs1, hpub, hok1, hptr⟩ := hx.at hy1
      obtain ⟨pf1, nf1, cf1, rfl, hr1, hf1⟩ := rLife_ok hok1
      obtain ⟨y2, hy2⟩ := get_of hl2 hlt
      obtain ⟨cs2, hpub2, hok2, hptr2⟩ := hy.at hy2
      obtain ⟨pf2, nf2, cf2, rfl, hr2, hf2⟩ := rLife_ok hok2
      repeat' (first | (refine is_pu ?_ (by rfl); first  | fail | refine hd_opAB ?_ | fail) | (refine is_pn ?_; first | refine hd_pn_nil ?_ | fail  | fail | refine hd_pnAB ?_ | fail | (refine hd_pn_op rfl ?_)) | (refine is_co ?_; first | fail  | ((first | apply hd_ok | apply ch_ok); (focus ((first | (apply OK.plain; rfl) | (apply OK.guarded; rfl; rfl; (intro hg; (try have hk := hg.2); (try have hl := hg.2.2); (try have hm := hg.2.2.2)))); (first | (apply od_call; exact aX; infer_instance; exact aE; exact aN; (focus (first | exact model_sameLife _ hf1 hf2))) ))); rfl; rfl) | refine hd_storeA ?_ | refine hd_boxA (fun _ => ?_) | refine hd_alloc rfl (fun _ => ?_) | refine hd_makeA (fun _ => ?_) | refine hd_copyA ?_ | refine hd_litA (fun _ => ?_) | refine hd_appendA (fun _ _ => ?_) | refine hd_storeRA ?_) | (refine is_ni ?_; first | (refine is_on ?_; first | refine pn_barA ?_ | refine pn_goA ?_ | refine pt_goA ?_  | refine ts_onA ?_) | refine hd_nil ?_) | (refine is_cw ?_; first | (refine is_rg ?_; first | fail | fail) | (refine is_cd ?_; first | (refine hd_condT (by exact aX) (by exact pvMdI1) ?_) | (refine hd_condF (by exact aX) (by exact pvMdI1) ?_) | (refine hd_cond (by exact aX) (fun _ => ?_) (fun _ => ?_))) | fail | refine wkA ?_) | refine wkA ?_ | fail | exact tsA | fail | (refine ts_step rfl (fun HF h1 hle => ?_)) | fail | fail)
      · rename_i hd
        ((repeat (refine hd_undefer (by first | exact .inl rfl | exact .inr rfl) (by exact aP) ?_)); apply hd_res0; (focus (first | exact .inl rfl | exact .inr rfl)); rfl; exact aR)
        refine ret_bool ?_
        simp at hd
        simp [take_neq hy1 hy2 hd]
      · rename_i hd
        simp at hd
        refine hd_again (i + 1) ⟨by omega, takeq_step hy1 hy2 hi.2 hd⟩ (by omega) (by exact aU) (fun w hw => inv_only .nil hw)
    · simp only [decide_eq_false_iff_not] at hlt
      repeat' (first | (refine is_pu ?_ (by rfl); first  | fail | refine hd_opAB ?_ | fail) | (refine is_pn ?_; first | refine hd_pn_nil ?_ | fail  | fail | refine hd_pnAB ?_ | fail | (refine hd_pn_op rfl ?_)) | (refine is_co ?_; first | fail  | ((first | apply hd_ok | apply ch_ok); (focus ((first | (apply OK.plain; rfl) | (apply OK.guarded; rfl; rfl; (intro hg; (try have hk := hg.2); (try have hl := hg.2.2); (try have hm := hg.2.2.2)))); (first | (apply od_call; exact aX; infer_instance; exact aE; exact aN; (focus (first | exact model_sameLife _ hf1 hf2))) ))); rfl; rfl) | refine hd_storeA ?_ | refine hd_boxA (fun _ => ?_) | refine hd_alloc rfl (fun _ => ?_) | refine hd_makeA (fun _ => ?_) | refine hd_copyA ?_ | refine hd_litA (fun _ => ?_) | refine hd_appendA (fun _ _ => ?_) | refine hd_storeRA ?_) | (refine is_ni ?_; first | (refine is_on ?_; first | refine pn_barA ?_ | refine pn_goA ?_ | refine pt_goA ?_  | refine ts_onA ?_) | refine hd_nil ?_) | (refine is_cw ?_; first | (refine is_rg ?_; first | fail | fail) | (refine is_cd ?_; first | (refine hd_condT (by exact aX) (by exact pvMdI1) ?_) | (refine hd_condF (by exact aX) (by exact pvMdI1) ?_) | (refine hd_cond (by exact aX) (fun _ => ?_) (fun _ => ?_))) | fail | refine wkA ?_) | refine wkA ?_ | fail | exact tsA | fail | (refine ts_step rfl (fun HF h1 hle => ?_)) | fail | fail)
      ((repeat (refine hd_undefer (by first | exact .inl rfl | exact .inr rfl) (by exact aP) ?_)); apply hd_res0; (focus (first | exact .inl rfl | exact .inr rfl)); rfl; exact aR)
      refine ret_bool ?_
      have e := hi.2
      rw [List.take_of_length_le (by omega), List.take_of_length_le (by omega)] at e
      simp [e]
theorem equalFunc_E {p q : Option Addr} {n c m d : Nat} {xs ys : List EvD} (h : PH) (hx : SlE h p n c xs) (hy : SlE h q m d ys) : Det Try.prog 36 #[.slice p n c, .slice q m d, .func (.func 37) #[] #[]] h (.bool (decide (xs = ys))) := by
  have hl := hx.len
  have hl2 := hy.len
  have ht := hx.top
  refine spec_enter (args := [_, _, _]) Try.func36 rfl Try.ntmps36 rfl (fun w l => ?_)
  repeat' (first | (refine is_pu ?_ (by rfl); first  | fail | refine hd_opAB ?_ | fail) | (refine is_pn ?_; first | refine hd_pn_nil ?_ | fail  | fail | refine hd_pnAB ?_ | fail | (refine hd_pn_op rfl ?_)) | (refine is_co ?_; first | fail  | ((first | apply hd_ok | apply ch_ok); (focus ((first | (apply OK.plain; rfl) | (apply OK.guarded; rfl; rfl; (intro hg; (try have hk := hg.2); (try have hl := hg.2.2); (try have hm := hg.2.2.2)))); (first | (apply od_call; exact aX; infer_instance; exact aE; exact aN; (focus (first | exact schema_Same _ (VEv.mk e11 e12 e13 hv1 hd1) (VEv.mk e21 e22 e23 hv2 hd2)))) ))); rfl; rfl) | refine hd_storeA ?_ | refine hd_boxA (fun _ => ?_) | refine hd_alloc rfl (fun _ => ?_) | refine hd_makeA (fun _ => ?_) | refine hd_copyA ?_ | refine hd_litA (fun _ => ?_) | refine hd_appendA (fun _ _ => ?_) | refine hd_storeRA ?_) | (refine is_ni ?_; first | (refine is_on ?_; first | refine pn_barA ?_ | refine pn_goA ?_ | refine pt_goA ?_  | refine ts_onA ?_) | refine hd_nil ?_) | (refine is_cw ?_; first | (refine is_rg ?_; first | fail | fail) | (refine is_cd ?_; first | (refine hd_condT (by exact aX) (by exact pvMdI1) ?_) | (refine hd_condF (by exact aX) (by exact pvMdI1) ?_) | (refine hd_cond (by exact aX) (fun _ => ?_) (fun _ => ?_))) | fail | refine wkA ?_) | refine wkA ?_ | fail | exact tsA | fail | (refine ts_step rfl (fun HF h1 hle => ?_)) | fail | fail)
  · rename_i hc
    ((repeat (refine hd_undefer (by first | exact .inl rfl | exact .inr rfl) (by exact aP) ?_)); apply hd_res0; (focus (first | exact .inl rfl | exact .inr rfl)); rfl; exact aR)
    refine ret_bool ?_
    simp at hc
    simp; intro e; rw [e] at hl; omega
  · rename_i hc
    have hmn : n = m := by simp at hc; omega
    subst hmn
    refine hd_loopS (ι := Nat) (fun i => i ≤ n ∧ xs.take i = ys.take i) (fun i => [(1, [], .slice q n d), (2, [], .func (.func 37) #[] #[]), (15, [], .slice p n c), (16, [], .int .i64 n), (17, [], .int .i64 i)]) (fun _ => []) (fun _ => h) (fun i => n - i) 0 (by simp) (by exact aU) (fun _ hw => hw) (fun i hi => ?_)
    refine hd_split (c := decide (i < n)) (fun hlt => ?_) (fun hlt => ?_)
    · simp only [decide_eq_true_eq] at hlt
      obtain ⟨y1, hy1⟩ := get_of hl hlt
      obtain ⟨cs1, hpub, hok1, hptr⟩ := hx.at hy1
      obtain ⟨p1, n1, c1, q1, m1, d1, rfl, e11, e12, e13, hv1, hd1⟩ := rEvent_ok hok1
      obtain ⟨y2, hy2⟩ := get_of hl2 hlt
      obtain ⟨cs2, hpub2, hok2, hptr2⟩ := hy.at hy2
      obtain ⟨p2, n2, c2, q2, m2, d2, rfl, e21, e22, e23, hv2, hd2⟩ := rEvent_ok hok2
      repeat' (first | (refine is_pu ?_ (by rfl); first  | fail | refine hd_opAB ?_ | fail) | (refine is_pn ?_; first | refine hd_pn_nil ?_ | fail  | fail | refine hd_pnAB ?_ | fail | (refine hd_pn_op rfl ?_)) | (refine is_co ?_; first | fail  | ((first | apply hd_ok | apply ch_ok); (focus ((first | (apply OK.plain; rfl) | (apply OK.guarded; rfl; rfl; (intro hg; (try have hk := hg.2); (try have hl := hg.2.2); (try have hm := hg.2.2.2)))); (first | (apply od_call; exact aX; infer_instance; exact aE; exact aN; (focus (first | exact schema_Same _ (VEv.mk e11 e12 e13 hv1 hd1) (VEv.mk e21 e22 e23 hv2 hd2)))) ))); rfl; rfl) | refine hd_storeA ?_ | refine hd_boxA (fun _ => ?_) | refine hd_alloc rfl (fun _ => ?_) | refine hd_makeA (fun _ => ?_) | refine hd_copyA ?_ | refine hd_litA (fun _ => ?_) | refine hd_appendA (fun _ _ => ?_) | refine hd_storeRA ?_) | (refine is_ni ?_; first | (refine is_on ?_; first | refine pn_barA ?_ | refine pn_goA ?_ | refine pt_goA ?_  | refine ts_onA ?_) | refine hd_nil ?_) | (refine is_cw ?_; first | (refine is_rg ?_; first | fail | fail) | (refine is_cd ?_; first | (refine hd_condT (by exact aX) (by exact pvMdI1) ?_) | (refine hd_condF (by exact aX) (by exact pvMdI1) ?_) | (refine hd_cond (by exact aX) (fun _ => ?_) (fun _ => ?_))) | fail | refine wkA ?_) | refine wkA ?_ | fail | exact tsA | fail | (refine ts_step rfl (fun HF h1 hle => ?_)) | fail | fail)
      · rename_i hd
        ((repeat (refine hd_undefer (by first | exact .inl rfl | exact .inr rfl) (by exact aP) ?_)); apply hd_res0; (focus (first | exact .inl rfl | exact .inr rfl)); rfl; exact aR)
        refine ret_bool ?_
        simp only [Bool.not_eq_true', decide_eq_false_iff_not] at hd
        simp [take_neq hy1 hy2 hd]
      · rename_i hd
        simp only [Bool.not_eq_false', decide_eq_true_eq] at hd
        refine hd_again (i + 1) ⟨by omega, takeq_step hy1 hy2 hi.2 hd⟩ (by omega) (by exact aU) (fun w hw => inv_only .nil hw)
    · simp only [decide_eq_false_iff_not] at hlt
      repeat' (first | (refine is_pu ?_ (by rfl); first  | fail | refine hd_opAB ?_ | fail) | (refine is_pn ?_; first | refine hd_pn_nil ?_ | fail  | fail | refine hd_pnAB ?_ | fail | (refine hd_pn_op rfl ?_)) | (refine is_co ?_; first | fail  | ((first | apply hd_ok | apply ch_ok); (focus ((first | (apply OK.plain; rfl) | (apply OK.guarded; rfl; rfl; (intro hg; (try have hk := hg.2); (try have hl := hg.2.2); (try have hm := hg.2.2.2)))); (first | (apply od_call; exact aX; infer_instance; exact aE; exact aN; (focus (first | exact schema_Same _ (VEv.mk e11 e12 e13 hv1 hd1) (VEv.mk e21 e22 e23 hv2 hd2)))) ))); rfl; rfl) | refine hd_storeA ?_ | refine hd_boxA (fun _ => ?_) | refine hd_alloc rfl (fun _ => ?_) | refine hd_makeA (fun _ => ?_) | refine hd_copyA ?_ | refine hd_litA (fun _ => ?_) | refine hd_appendA (fun _ _ => ?_) | refine hd_storeRA ?_) | (refine is_ni ?_; first | (refine is_on ?_; first | refine pn_barA ?_ | refine pn_goA ?_ | refine pt_goA ?_  | refine ts_onA ?_) | refine hd_nil ?_) | (refine is_cw ?_; first | (refine is_rg ?_; first | fail | fail) | (refine is_cd ?_; first | (refine hd_condT (by exact aX) (by exact pvMdI1) ?_) | (refine hd_condF (by exact aX) (by exact pvMdI1) ?_) | (refine hd_cond (by exact aX) (fun _ => ?_) (fun _ => ?_))) | fail | refine wkA ?_) | refine wkA ?_ | fail | exact tsA | fail | (refine ts_step rfl (fun HF h1 hle => ?_)) | fail | fail)
      ((repeat (refine hd_undefer (by first | exact .inl rfl | exact .inr rfl) (by exact aP) ?_)); apply hd_res0; (focus (first | exact .inl rfl | exact .inr rfl)); rfl; exact aR)
      refine ret_bool ?_
      have e := hi.2
      rw [List.take_of_length_le (by omega), List.take_of_length_le (by omega)] at e
      simp [e]
theorem slices_EqualS {p q : Option Addr} {n c m d : Nat} {xs ys : List Sp} (h : PH) (hx : SlS h p n c xs) (hy : SlS h q m d ys) : Det Try.prog 35 #[.slice p n c, .slice q m d] h (.bool (decide (xs = ys))) := by
  have hl := hx.len
  have hl2 := hy.len
  have ht := hx.top
  refine spec_enter (args := [_, _]) Try.func35 rfl Try.ntmps35 rfl (fun w l => ?_)
  repeat' (first | (refine is_pu ?_ (by rfl); first  | fail | refine hd_opAB ?_ | fail) | (refine is_pn ?_; first | refine hd_pn_nil ?_ | fail  | fail | refine hd_pnAB ?_ | fail | (refine hd_pn_op rfl ?_)) | (refine is_co ?_; first | fail  | ((first | apply hd_ok | apply ch_ok); (focus ((first | (apply OK.plain; rfl) | (apply OK.guarded; rfl; rfl; (intro hg; (try have hk := hg.2); (try have hl := hg.2.2); (try have hm := hg.2.2.2)))); (first | (apply od_call; exact aX; infer_instance; exact aE; exact aN; (focus (first | fail))) ))); rfl; rfl) | refine hd_storeA ?_ | refine hd_boxA (fun _ => ?_) | refine hd_alloc rfl (fun _ => ?_) | refine hd_makeA (fun _ => ?_) | refine hd_copyA ?_ | refine hd_litA (fun _ => ?_) | refine hd_appendA (fun _ _ => ?_) | refine hd_storeRA ?_) | (refine is_ni ?_; first | (refine is_on ?_; first | refine pn_barA ?_ | refine pn_goA ?_ | refine pt_goA ?_  | refine ts_onA ?_) | refine hd_nil ?_) | (refine is_cw ?_; first | (refine is_rg ?_; first | fail | (refine hd_planT (id := 6) _ [] [.one 0 true, .one 1 true, .one 2 true, .one 3 true, .one 4 true, .one 5 true, .one 6 true, .one 7 true, .one 8 true] follows_any (by kernel_rfl) rfl (by kernel_rfl) rfl ?_)) | (refine is_cd ?_; first | (refine hd_condT (by exact aX) (by exact pvMdI1) ?_) | (refine hd_condF (by exact aX) (by exact pvMdI1) ?_) | (refine hd_cond (by exact aX) (fun _ => ?_) (fun _ => ?_))) | fail | refine wkA ?_) | refine wkA ?_ | fail | exact tsA | fail | (refine ts_step rfl (fun HF h1 hle => ?_)) | fail | fail)
  · rename_i hc
    ((repeat (refine hd_undefer (by first | exact .inl rfl | exact .inr rfl) (by exact aP) ?_)); apply hd_res0; (focus (first | exact .inl rfl | exact .inr rfl)); rfl; exact aR)
    refine ret_bool ?_
    simp at hc
    simp; intro e; rw [e] at hl; omega
  · rename_i hc
    have hmn : n = m := by simp at hc; omega
    subst hmn
    refine hd_loopS (ι := Nat) (fun i => i ≤ n ∧ xs.take i = ys.take i) (fun i => [(0, [], .slice p n c), (1, [], .slice q n d), (12, [], .int .i64 n), (13, [], .int .i64 i)]) (fun _ => []) (fun _ => h) (fun i => n - i) 0 (by simp) (by exact aU) (fun _ hw => hw) (fun i hi => ?_)
    refine hd_split (c := decide (i < n)) (fun hlt => ?_) (fun hlt => ?_)
    · simp only [decide_eq_true_eq] at hlt
      obtain ⟨y1, hy1⟩ := get_of hl hlt
      obtain ⟨hpub, hr1, hr1', hptr⟩ := SlS_at hx hy1
      obtain ⟨y2, hy2⟩ := get_of hl2 hlt
      obtain ⟨hpub2, hr2, hr2', hptr2⟩ := SlS_at hy hy2
      repeat' (first | (refine is_pu ?_ (by rfl); first  | fail | refine hd_opAB ?_ | fail) | (refine is_pn ?_; first | refine hd_pn_nil ?_ | fail  | fail | refine hd_pnAB ?_ | fail | (refine hd_pn_op rfl ?_)) | (refine is_co ?_; first | fail  | ((first | apply hd_ok | apply ch_ok); (focus ((first | (apply OK.plain; rfl) | (apply OK.guarded; rfl; rfl; (intro hg; (try have hk := hg.2); (try have hl := hg.2.2); (try have hm := hg.2.2.2)))); (first | (apply od_call; exact aX; infer_instance; exact aE; exact aN; (focus (first | fail))) ))); rfl; rfl) | refine hd_storeA ?_ | refine hd_boxA (fun _ => ?_) | refine hd_alloc rfl (fun _ => ?_) | refine hd_makeA (fun _ => ?_) | refine hd_copyA ?_ | refine hd_litA (fun _ => ?_) | refine hd_appendA (fun _ _ => ?_) | refine hd_storeRA ?_) | (refine is_ni ?_; first | (refine is_on ?_; first | refine pn_barA ?_ | refine pn_goA ?_ | refine pt_goA ?_  | refine ts_onA ?_) | refine hd_nil ?_) | (refine is_cw ?_; first | (refine is_rg ?_; first | fail | (refine hd_planT (id := 6) _ [] [.one 0 true, .one 1 true, .one 2 true, .one 3 true, .one 4 true, .one 5 true, .one 6 true, .one 7 true, .one 8 true] follows_any (by kernel_rfl) rfl (by kernel_rfl) rfl ?_)) | (refine is_cd ?_; first | (refine hd_condT (by exact aX) (by exact pvMdI1) ?_) | (refine hd_condF (by exact aX) (by exact pvMdI1) ?_) | (refine hd_cond (by exact aX) (fun _ => ?_) (fun _ => ?_))) | fail | refine wkA ?_) | refine wkA ?_ | fail | exact tsA | fail | (refine ts_step rfl (fun HF h1 hle => ?_)) | fail | fail)
      · rename_i hd
        ((repeat (refine hd_undefer (by first | exact .inl rfl | exact .inr rfl) (by exact aP) ?_)); apply hd_res0; (focus (first | exact .inl rfl | exact .inr rfl)); rfl; exact aR)
        refine ret_bool ?_
        simp at hd
        simp [take_neq hy1 hy2 (sp_ne hd)]
      · rename_i hd
        simp at hd
        refine hd_again (i + 1) ⟨by omega, takeq_step hy1 hy2 hi.2 (sp_eq hd)⟩ (by omega) (by exact aU) (fun w hw => inv_only .nil hw)
    · simp only [decide_eq_false_iff_not] at hlt
      repeat' (first | (refine is_pu ?_ (by rfl); first  | fail | refine hd_opAB ?_ | fail) | (refine is_pn ?_; first | refine hd_pn_nil ?_ | fail  | fail | refine hd_pnAB ?_ | fail | (refine hd_pn_op rfl ?_)) | (refine is_co ?_; first | fail  | ((first | apply hd_ok | apply ch_ok); (focus ((first | (apply OK.plain; rfl) | (apply OK.guarded; rfl; rfl; (intro hg; (try have hk := hg.2); (try have hl := hg.2.2); (try have hm := hg.2.2.2)))); (first | (apply od_call; exact aX; infer_instance; exact aE; exact aN; (focus (first | fail))) ))); rfl; rfl) | refine hd_storeA ?_ | refine hd_boxA (fun _ => ?_) | refine hd_alloc rfl (fun _ => ?_) | refine hd_makeA (fun _ => ?_) | refine hd_copyA ?_ | refine hd_litA (fun _ => ?_) | refine hd_appendA (fun _ _ => ?_) | refine hd_storeRA ?_) | (refine is_ni ?_; first | (refine is_on ?_; first | refine pn_barA ?_ | refine pn_goA ?_ | refine pt_goA ?_  | refine ts_onA ?_) | refine hd_nil ?_) | (refine is_cw ?_; first | (refine is_rg ?_; first | fail | (refine hd_planT (id := 6) _ [] [.one 0 true, .one 1 true, .one 2 true, .one 3 true, .one 4 true, .one 5 true, .one 6 true, .one 7 true, .one 8 true] follows_any (by kernel_rfl) rfl (by kernel_rfl) rfl ?_)) | (refine is_cd ?_; first | (refine hd_condT (by exact aX) (by exact pvMdI1) ?_) | (refine hd_condF (by exact aX) (by exact pvMdI1) ?_) | (refine hd_cond (by exact aX) (fun _ => ?_) (fun _ => ?_))) | fail | refine wkA ?_) | refine wkA ?_ | fail | exact tsA | fail | (refine ts_step rfl (fun HF h1 hle => ?_)) | fail | fail)
      ((repeat (refine hd_undefer (by first | exact .inl rfl | exact .inr rfl) (by exact aP) ?_)); apply hd_res0; (focus (first | exact .inl rfl | exact .inr rfl)); rfl; exact aR)
      refine ret_bool ?_
      have e := hi.2
      rw [List.take_of_length_le (by omega), List.take_of_length_le (by omega)] at e
      simp [e]
theorem slices_EqualG {p q : Option Addr} {n c m d : Nat} {xs ys : List GD} (h : PH) (hx : SlG h p n c xs) (hy : SlG h q m d ys) : Det Try.prog 38 #[.slice p n c, .slice q m d] h (.bool (decide (xs = ys))) := by
  have hl := hx.len
  have hl2 := hy.len
  have ht := hx.top
  refine spec_enter (args := [_, _]) Try.func38 rfl Try.ntmps38 rfl (fun w l => ?_)
  repeat' (first | (refine is_pu ?_ (by rfl); first  | fail | refine hd_opAB ?_ | ((first | apply hd_ok | apply ch_ok | (apply hd_pn_run; rfl; exact aM)); (focus ((first | (apply OK.plain; rfl; apply OD.of) | (apply OKp.plain; rfl)); (first | (apply od_nesN; exact aX; exact aX; (focus ((repeat (first | exact Cells.nil | apply Cells.int | apply Cells.bool)); first | done | fail)); (focus ((repeat (first | exact Cells.nil | apply Cells.int | apply Cells.bool)); first | done | fail)))))); rfl; rfl)) | (refine is_pn ?_; first | refine hd_pn_nil ?_ | fail  | fail | refine hd_pnAB ?_ | ((first | apply hd_ok | apply ch_ok | (apply hd_pn_run; rfl; exact aM)); (focus ((first | (apply OK.plain; rfl; apply OD.of) | (apply OKp.plain; rfl)); (first | (apply od_nesN; exact aX; exact aX; (focus ((repeat (first | exact Cells.nil | apply Cells.int | apply Cells.bool)); first | done | fail)); (focus ((repeat (first | exact Cells.nil | apply Cells.int | apply Cells.bool)); first | done | fail)))))); rfl; rfl) | (refine hd_pn_op rfl ?_)) | (refine is_co ?_; first | fail  | ((first | apply hd_ok | apply ch_ok); (focus ((first | (apply OK.plain; rfl) | (apply OK.guarded; rfl; rfl; (intro hg; (try have hk := hg.2); (try have hl := hg.2.2); (try have hm := hg.2.2.2)))); (first | (apply od_call; exact aX; infer_instance; exact aE; exact aN; (focus (first | fail))) ))); rfl; rfl) | refine hd_storeA ?_ | refine hd_boxA (fun _ => ?_) | refine hd_alloc rfl (fun _ => ?_) | refine hd_makeA (fun _ => ?_) | refine hd_copyA ?_ | refine hd_litA (fun _ => ?_) | refine hd_appendA (fun _ _ => ?_) | refine hd_storeRA ?_) | (refine is_ni ?_; first | (refine is_on ?_; first | refine pn_barA ?_ | refine pn_goA ?_ | refine pt_goA ?_  | refine ts_onA ?_) | refine hd_nil ?_) | (refine is_cw ?_; first | (refine is_rg ?_; first | fail | (refine hd_planT (id := 6) _ [] [.one 0 true, .one 1 true, .one 2 true, .one 3 true, .one 4 true, .one 5 true, .one 6 true, .one 7 true, .one 8 true] follows_any (by kernel_rfl) rfl (by kernel_rfl) rfl ?_)) | (refine is_cd ?_; first | (refine hd_condT (by exact aX) (by exact pvMdI1) ?_) | (refine hd_condF (by exact aX) (by exact pvMdI1) ?_) | (refine hd_cond (by exact aX) (fun _ => ?_) (fun _ => ?_))) | fail | refine wkA ?_) | refine wkA ?_ | fail | exact tsA | fail | (refine ts_step rfl (fun HF h1 hle => ?_)) | fail | fail)
  · rename_i hc
    ((repeat (refine hd_undefer (by first | exact .inl rfl | exact .inr rfl) (by exact aP) ?_)); apply hd_res0; (focus (first | exact .inl rfl | exact .inr rfl)); rfl; exact aR)
    refine ret_bool ?_
    simp at hc
    simp; intro e; rw [e] at hl; omega
  · rename_i hc
    have hmn : n = m := by simp at hc; omega
    subst hmn
    refine hd_loopS (ι := Nat) (fun i => i ≤ n ∧ xs.take i = ys.take i) (fun i => [(0, [], .slice p n c), (1, [], .slice q n d), (12, [], .int .i64 n), (13, [], .int .i64 i)]) (fun _ => []) (fun _ => h) (fun i => n - i) 0 (by simp) (by exact aU) (fun _ hw => hw) (fun i hi => ?_)
    refine hd_split (c := decide (i < n)) (fun hlt => ?_) (fun hlt => ?_)
    · simp only [decide_eq_true_eq] at hlt
      obtain ⟨y1, hy1⟩ := get_of hl hlt
      obtain ⟨hpub, hr1, hptr⟩ := SlG_at hx hy1
      obtain ⟨y2, hy2⟩ := get_of hl2 hlt
      obtain ⟨hpub2, hr2, hptr2⟩ := SlG_at hy hy2
      have hge : eqL [.int .u8 y1.node, .int .u16 y1.inc, .int .u8 y1.id.1, .int .u16 y1.id.2.1, .int .u32 y1.id.2.2] [.int .u8 y2.node, .int .u16 y2.inc, .int .u8 y2.id.1, .int .u16 y2.id.2.1, .int .u32 y2.id.2.2] = decide (y1 = y2) := gd_eq
      repeat' (first | (refine is_pu ?_ (by rfl); first  | fail | refine hd_opAB ?_ | ((first | apply hd_ok | apply ch_ok | (apply hd_pn_run; rfl; exact aM)); (focus ((first | (apply OK.plain; rfl; apply OD.of) | (apply OKp.plain; rfl)); (first | (apply od_nesN; exact aX; exact aX; (focus ((repeat (first | exact Cells.nil | apply Cells.int | apply Cells.bool)); first | done | fail)); (focus ((repeat (first | exact Cells.nil | apply Cells.int | apply Cells.bool)); first | done | fail)))))); rfl; rfl)) | (refine is_pn ?_; first | refine hd_pn_nil ?_ | fail  | fail | refine hd_pnAB ?_ | ((first | apply hd_ok | apply ch_ok | (apply hd_pn_run; rfl; exact aM)); (focus ((first | (apply OK.plain; rfl; apply OD.of) | (apply OKp.plain; rfl)); (first | (apply od_nesN; exact aX; exact aX; (focus ((repeat (first | exact Cells.nil | apply Cells.int | apply Cells.bool)); first | done | fail)); (focus ((repeat (first | exact Cells.nil | apply Cells.int | apply Cells.bool)); first | done | fail)))))); rfl; rfl) | (refine hd_pn_op rfl ?_)) | (refine is_co ?_; first | fail  | ((first | apply hd_ok | apply ch_ok); (focus ((first | (apply OK.plain; rfl) | (apply OK.guarded; rfl; rfl; (intro hg; (try have hk := hg.2); (try have hl := hg.2.2); (try have hm := hg.2.2.2)))); (first | (apply od_call; exact aX; infer_instance; exact aE; exact aN; (focus (first | fail))) ))); rfl; rfl) | refine hd_storeA ?_ | refine hd_boxA (fun _ => ?_) | refine hd_alloc rfl (fun _ => ?_) | refine hd_makeA (fun _ => ?_) | refine hd_copyA ?_ | refine hd_litA (fun _ => ?_) | refine hd_appendA (fun _ _ => ?_) | refine hd_storeRA ?_) | (refine is_ni ?_; first | (refine is_on ?_; first | refine pn_barA ?_ | refine pn_goA ?_ | refine pt_goA ?_  | refine ts_onA ?_) | refine hd_nil ?_) | (refine is_cw ?_; first | (refine is_rg ?_; first | fail | (refine hd_planT (id := 6) _ [] [.one 0 true, .one 1 true, .one 2 true, .one 3 true, .one 4 true, .one 5 true, .one 6 true, .one 7 true, .one 8 true] follows_any (by kernel_rfl) rfl (by kernel_rfl) rfl ?_)) | (refine is_cd ?_; first | (refine hd_condT (by exact aX) (by exact pvMdI1) ?_) | (refine hd_condF (by exact aX) (by exact pvMdI1) ?_) | (refine hd_cond (by exact aX) (fun _ => ?_) (fun _ => ?_))) | fail | refine wkA ?_) | refine wkA ?_ | fail | exact tsA | fail | (refine ts_step rfl (fun HF h1 hle => ?_)) | fail | fail)
      · rename_i hd
        ((repeat (refine hd_undefer (by first | exact .inl rfl | exact .inr rfl) (by exact aP) ?_)); apply hd_res0; (focus (first | exact .inl rfl | exact .inr rfl)); rfl; exact aR)
        refine ret_bool ?_
        rw [hge] at hd
        simp only [Bool.not_eq_true', decide_eq_false_iff_not] at hd
        simp [take_neq hy1 hy2 hd]
      · rename_i hd
        rw [hge] at hd
        simp only [Bool.not_eq_false', decide_eq_true_eq] at hd
        refine hd_again (i + 1) ⟨by omega, takeq_step hy1 hy2 hi.2 hd⟩ (by omega) (by exact aU) (fun w hw => inv_only .nil hw)
    · simp only [decide_eq_false_iff_not] at hlt
      repeat' (first | (refine is_pu ?_ (by rfl); first  | fail | refine hd_opAB ?_ | ((first | apply hd_ok | apply ch_ok | (apply hd_pn_run; rfl; exact aM)); (focus ((first | (apply OK.plain; rfl; apply OD.of) | (apply OKp.plain; rfl)); (first | (apply od_nesN; exact aX; exact aX; (focus ((repeat (first | exact Cells.nil | apply Cells.int | apply Cells.bool)); first | done | fail)); (focus ((repeat (first | exact Cells.nil | apply Cells.int | apply Cells.bool)); first | done | fail)))))); rfl; rfl)) | (refine is_pn ?_; first | refine hd_pn_nil ?_ | fail  | fail | refine hd_pnAB ?_ | ((first | apply hd_ok | apply ch_ok | (apply hd_pn_run; rfl; exact aM)); (focus ((first | (apply OK.plain; rfl; apply OD.of) | (apply OKp.plain; rfl)); (first | (apply od_nesN; exact aX; exact aX; (focus ((repeat (first | exact Cells.nil | apply Cells.int | apply Cells.bool)); first | done | fail)); (focus ((repeat (first | exact Cells.nil | apply Cells.int | apply Cells.bool)); first | done | fail)))))); rfl; rfl) | (refine hd_pn_op rfl ?_)) | (refine is_co ?_; first | fail  | ((first | apply hd_ok | apply ch_ok); (focus ((first | (apply OK.plain; rfl) | (apply OK.guarded; rfl; rfl; (intro hg; (try have hk := hg.2); (try have hl := hg.2.2); (try have hm := hg.2.2.2)))); (first | (apply od_call; exact aX; infer_instance; exact aE; exact aN; (focus (first | fail))) ))); rfl; rfl) | refine hd_storeA ?_ | refine hd_boxA (fun _ => ?_) | refine hd_alloc rfl (fun _ => ?_) | refine hd_makeA (fun _ => ?_) | refine hd_copyA ?_ | refine hd_litA (fun _ => ?_) | refine hd_appendA (fun _ _ => ?_) | refine hd_storeRA ?_) | (refine is_ni ?_; first | (refine is_on ?_; first | refine pn_barA ?_ | refine pn_goA ?_ | refine pt_goA ?_  | refine ts_onA ?_) | refine hd_nil ?_) | (refine is_cw ?_; first | (refine is_rg ?_; first | fail | (refine hd_planT (id := 6) _ [] [.one 0 true, .one 1 true, .one 2 true, .one 3 true, .one 4 true, .one 5 true, .one 6 true, .one 7 true, .one 8 true] follows_any (by kernel_rfl) rfl (by kernel_rfl) rfl ?_)) | (refine is_cd ?_; first | (refine hd_condT (by exact aX) (by exact pvMdI1) ?_) | (refine hd_condF (by exact aX) (by exact pvMdI1) ?_) | (refine hd_cond (by exact aX) (fun _ => ?_) (fun _ => ?_))) | fail | refine wkA ?_) | refine wkA ?_ | fail | exact tsA | fail | (refine ts_step rfl (fun HF h1 hle => ?_)) | fail | fail)
      ((repeat (refine hd_undefer (by first | exact .inl rfl | exact .inr rfl) (by exact aP) ?_)); apply hd_res0; (focus (first | exact .inl rfl | exact .inr rfl)); rfl; exact aR)
      refine ret_bool ?_
      have e := hi.2
      rw [List.take_of_length_le (by omega), List.take_of_length_le (by omega)] at e
      simp [e]
theorem model_Same {v u : Value} {x y : SvD} (h : PH) (hv : VSv h v x) (hu : VSv h u y) : Det Try.prog 17 #[v, u] h (.bool (decide (x = y))) := by
  obtain ⟨p1, n1, c1, p2, n2, c2, p3, n3, c3, p4, n4, c4, rfl, a1, a2, a3, a4, a5⟩ := hv
  obtain ⟨q1, m1, d1, q2, m2, d2, q3, m3, d3, q4, m4, d4, rfl, b1, b2, b3, b4, b5⟩ := hu
  refine spec_enter (args := [_, _]) Try.func17 rfl Try.ntmps17 rfl (fun w l => ?_)
  repeat' (first | (refine is_pu ?_ (by rfl); first  | fail | refine hd_opAB ?_ | fail) | (refine is_pn ?_; first | refine hd_pn_nil ?_ | fail  | fail | refine hd_pnAB ?_ | fail | (refine hd_pn_op rfl ?_)) | (refine is_co ?_; first | fail  | ((first | apply hd_ok | apply ch_ok); (focus ((first | (apply OK.plain; rfl) | (apply OK.guarded; rfl; rfl; (intro hg; (try have hk := hg.2); (try have hl := hg.2.2); (try have hm := hg.2.2.2)))); (first | (apply od_call; exact aX; infer_instance; exact aE; exact aN; (focus (first | exact equalFunc_L _ (by assumption) (by assumption) | exact equalFunc_E _ (by assumption) (by assumption) | exact slices_EqualS _ (by assumption) (by assumption) | exact slices_EqualG _ (by assumption) (by assumption)))) ))); rfl; rfl) | refine hd_storeA ?_ | refine hd_boxA (fun _ => ?_) | refine hd_alloc rfl (fun _ => ?_) | refine hd_makeA (fun _ => ?_) | refine hd_copyA ?_ | refine hd_litA (fun _ => ?_) | refine hd_appendA (fun _ _ => ?_) | refine hd_storeRA ?_) | (refine is_ni ?_; first | (refine is_on ?_; first | refine pn_barA ?_ | refine pn_goA ?_ | refine pt_goA ?_  | refine ts_onA ?_) | refine hd_nil ?_) | (refine is_cw ?_; first | (refine is_rg ?_; first | fail | fail) | (refine is_cd ?_; first | (refine hd_condT (by exact aX) (by exact pvMdI1) ?_) | (refine hd_condF (by exact aX) (by exact pvMdI1) ?_) | (refine hd_cond (by exact aX) (fun _ => ?_) (fun _ => ?_))) | fail | refine wkA ?_) | refine wkA ?_ | fail | exact tsA | fail | (refine ts_step rfl (fun HF h1 hle => ?_)) | fail | fail)
  ((repeat (refine hd_undefer (by first | exact .inl rfl | exact .inr rfl) (by exact aP) ?_)); apply hd_res0; (focus (first | exact .inl rfl | exact .inr rfl)); rfl; exact aR)
  refine ret_bool ?_
  obtain ⟨x1, x2, x3, x4, x5⟩ := x
  obtain ⟨y1, y2, y3, y4, y5⟩ := y
  rw [Bool.eq_iff_iff]
  simp
  grind

theorem pvMdI2 {A : Prop} (h : A := by exact pvMdI1) : A := h
theorem nvMdI2 {A : Prop} (h : A := by (first | decide | fail)) : A := h
theorem model_May {v dv : Value} {s : SvD} {d : DeD} {k : Nat} (h : PH) (hs : VSv h v s) (hd : VDe h dv d) (hB : SvB k s) (hDB : DeB d) (hk : k ≤ 1000000) : Det Try.prog 22 #[v, dv] h (.bool (decide (doE s d = 0))) := by
  have hs0 := hs
  obtain ⟨pl, nl, cl, ps, ns, cs, pe, ne, ce, pg, ng, cg, rfl, hL, hS, hla, hE, hG⟩ := hs0
  have hd0 := hd
  obtain ⟨pF, nF, cF, pV, nV, cV, pD, nD, cD, rfl, hr, hF, hV, hD⟩ := hd0
  refine spec_enter (args := [_, _]) Try.func22 rfl Try.ntmps22 rfl (fun w l => ?_)
  repeat' (first | (refine is_pu ?_ (by rfl); first  | fail | refine hd_opAB ?_ | ((first | apply hd_ok | apply ch_ok | (apply hd_pn_run; rfl; exact aM)); (focus ((first | (apply OK.plain; rfl; apply OD.of) | (apply OKp.plain; rfl)); (first | (apply od_pickX; exact aX; exact pvMdI2; exact aX) | (apply od_pickY; exact aX; exact pvMdI2; exact aX)))); rfl; rfl)) | (refine is_pn ?_; first | refine hd_pn_nil ?_ | fail  | fail | refine hd_pnAB ?_ | ((first | apply hd_ok | apply ch_ok | (apply hd_pn_run; rfl; exact aM)); (focus ((first | (apply OK.plain; rfl; apply OD.of) | (apply OKp.plain; rfl)); (first | (apply od_pickX; exact aX; exact pvMdI2; exact aX) | (apply od_pickY; exact aX; exact pvMdI2; exact aX)))); rfl; rfl) | (refine hd_pn_op rfl ?_)) | (refine is_co ?_; first | fail  | (apply hd_call; exact aX; infer_instance; exact aE; exact aN; rfl; (focus exact model_Do _ hs hd hB hDB hk); (focus (rintro _ h1 hle1 ⟨v1, rfl, ⟨pl1, nl1, cl1, ps1, ns1, cs1, pe1, ne1, ce1, pg1, ng1, cg1, rfl, t1, t2, t3, t4, t5⟩⟩; skip))) | ((first | apply hd_ok | apply ch_ok); (focus ((first | (apply OK.plain; rfl) | (apply OK.guarded; rfl; rfl; (intro hg; (try have hk := hg.2); (try have hl := hg.2.2); (try have hm := hg.2.2.2)))); (first | (apply od_call; exact aX; infer_instance; exact aE; exact aN; (focus (first | fail))) ))); rfl; rfl) | refine hd_storeA ?_ | refine hd_boxA (fun _ => ?_) | refine hd_alloc rfl (fun _ => ?_) | refine hd_makeA (fun _ => ?_) | refine hd_copyA ?_ | refine hd_litA (fun _ => ?_) | refine hd_appendA (fun _ _ => ?_)) | (refine is_ni ?_; first | (refine is_on ?_; first | refine pn_barA ?_ | refine pn_goA ?_ | refine pt_goA ?_  | refine ts_onA ?_) | refine hd_nil ?_) | (refine is_cw ?_; first | (refine is_rg ?_; first | fail | fail) | (refine is_cd ?_; first | (refine hd_condT (by exact aX) (by exact pvMdI2) ?_) | (refine hd_condF (by exact aX) (by exact pvMdI2) ?_) | (refine hd_cond (by exact aX) (fun _ => ?_) (fun _ => ?_))) | fail | refine wkA ?_) | refine wkA ?_ | fail | exact tsA | fail | (refine ts_step rfl (fun HF h1 hle => ?_)) | fail | fail)
  ((repeat (refine hd_undefer (by first | exact .inl rfl | exact .inr rfl) (by exact aP) ?_)); apply hd_res0; (focus (first | exact .inl rfl | exact .inr rfl)); rfl; exact aR)
  exact ret_bool rfl
theorem model_New {nodes last : Int} {p : Option Addr} {n c : Nat} {sc : List Sp} (h : PH) (hno : inR .i64 nodes) (hla : inR .u32 last) (hS : SlS h p n c sc) (hn : n ≤ 1000000) : GV.Spec Try.prog 18 #[.int .i64 nodes, .slice p n c, .int .u32 last] h fun r h' => VSv (PH.new h h') r (newS nodes sc last) := by
  simp only [inR] at hno
  refine spec_enter (args := [_, _, _]) Try.func18 rfl Try.ntmps18 rfl (fun w l => ?_)
  obtain ⟨m, hm⟩ : ∃ m : Nat, min (max nodes 0) 12 = (m : Int) := ⟨(min (max nodes 0) 12).toNat, by omega⟩
  have hm12 : m ≤ 12 := by omega
  repeat' (first | (refine is_pu ?_ (by rfl); first  | fail | refine hd_opAB ?_ | ((first | apply hd_ok | apply ch_ok | (apply hd_pn_run; rfl; exact aM)); (focus ((first | (apply OK.plain; rfl; apply OD.of) | (apply OKp.plain; rfl)); (first | (apply od_pickX; exact aX; exact pvMdI2; exact aX) | (apply od_pickY; exact aX; exact pvMdI2; exact aX)))); rfl; rfl)) | (refine is_pn ?_; first | refine hd_pn_nil ?_ | (apply hd_par2m (T1 := [1]) (D1 := [11]) (T2 := [3]) (D2 := [13]) (postA _ _) (postS (fun p n c => [(13, [], .slice p n c)]) (fun h' p n c => SlS (PH.new h h') p n c sc)) rfl rfl)  | fail | refine hd_pnAB ?_ | ((first | apply hd_ok | apply ch_ok | (apply hd_pn_run; rfl; exact aM)); (focus ((first | (apply OK.plain; rfl; apply OD.of) | (apply OKp.plain; rfl)); (first | (apply od_pickX; exact aX; exact pvMdI2; exact aX) | (apply od_pickY; exact aX; exact pvMdI2; exact aX)))); rfl; rfl) | (refine hd_pn_op rfl ?_)) | (refine is_co ?_; first | fail  | (apply hd_call; exact aX; infer_instance; exact aE; exact aN; rfl; (focus exact clone_S _ (by first | exact hS | exact hS.mono (by exact aL)) (by omega)); (focus (rintro _ h7 hle7 ⟨p1, n1, c1, rfl, hsl⟩; skip))) | ((first | apply hd_ok | apply ch_ok); (focus ((first | (apply OK.plain; rfl) | (apply OK.guarded; rfl; rfl; (intro hg; (try have hk := hg.2); (try have hl := hg.2.2); (try have hm := hg.2.2.2)))); (first | (apply od_call; exact aX; infer_instance; exact aE; exact aN; (focus (first | fail))) ))); rfl; rfl) | refine hd_storeA ?_ | refine hd_boxA (fun _ => ?_) | refine hd_alloc rfl (fun _ => ?_) | refine hd_makeA (fun _ => ?_) | refine hd_copyA ?_ | refine hd_litA (fun _ => ?_) | refine hd_appendA (fun _ _ => ?_)) | (refine is_ni ?_; first | (refine is_on ?_; first | refine pn_barA ?_ | refine pn_goA ?_ | refine pt_goA ?_  | refine ts_onA ?_) | refine hd_nil ?_) | (refine is_cw ?_; first | (refine is_rg ?_; first | fail | (refine hd_planT (id := 2) [(0, 11, 1), (1, 12, 1024), (0, 13, 2), (4, 14, 4096), (0, 15, 4), (26, 16, 26624), (63, 0, 32832)] [6] [.one 0 true, .one 2 true, .one 4 true, .par [[1], [3]], .one 5 true, .one 6 false] follows_any (by kernel_rfl) (by kernel_rfl) (by kernel_rfl) rfl ?_)) | (refine is_cd ?_; first | (refine hd_condT (by exact aX) (by exact pvMdI2) ?_) | (refine hd_condF (by exact aX) (by exact pvMdI2) ?_) | (refine hd_cond (by exact aX) (fun _ => ?_) (fun _ => ?_))) | fail | refine wkA ?_) | refine wkA ?_ | exact ts_done ⟨_, _, _, rfl, rfl, hsl.mono (PH.new_back hle)⟩ | exact tsA | fail | (refine ts_step rfl (fun HF h1 hle => ?_)) | (rintro _ _ _ _ _ _ h5 ⟨b11, rfl, rfl⟩ ⟨p13, n13, c13, rfl, rfl, hs13⟩ _ hl13 hl5) | fail)
  have em : (min (max nodes 0) 12).toNat = m := by omega
  have ez : zs zL m = (List.replicate m zL).flatten := rfl
  refine hd_pubN (r := rLife) (hb := h) (by exact aL) (List.replicate m zL) (List.replicate m LD.zero) (by exact aP) (by rw [em]; rfl) (all2_rep m (rLife_mk (x := LD.zero) ⟨by simp [inR, LD.zero], by simp [inR, LD.zero]⟩ (SlR.nil _ _))) (by simp; omega) (by omega) (fun h9 hle9 q1 => ?_)
  ((repeat (refine hd_undefer (by first | exact .inl rfl | exact .inr rfl) (by exact aP) ?_)); apply hd_res0; (focus (first | exact .inl rfl | exact .inr rfl)); rfl; exact aR)
  exact ⟨_, _, _, _, _, _, _, _, _, _, _, _, rfl, by simp only [newS]; rw [em] at q1 ⊢; exact q1, (hs13.mono (PH.new_mono hl13)).mono (PH.new_mono hle9), hla, SlR.nil _ _, SlR.nil _ _⟩
end Go.Proofs.Ytogepedlalfpjaa
