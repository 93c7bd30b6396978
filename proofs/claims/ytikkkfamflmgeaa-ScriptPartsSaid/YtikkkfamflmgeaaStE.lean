/- What package script and grapevineref27 say of steps: the same, right, few. -/
import Derived.Test.YtikkkfamflmgeaaSt
namespace Go.Proofs.Ytikkkfamflmgeaa
open Go Go.GV
attribute [local irreducible] cw Go.GV.SpecM Go.GV.wpList Exit.then Exit.inBlock Go.GV.bodyPost wpPl wpPm wpPn TS rnd rPost YieldsB wpPT ptK
set_option maxRecDepth 10000
set_option maxHeartbeats 4000000
set_option linter.unusedVariables false
set_option linter.unusedSimpArgs false
theorem take_eq_step {xs ys : List Int} {i : Nat} {x y : Int} (hx : xs[i]? = some x) (hy : ys[i]? = some y) (h1 : xs.take i = ys.take i) (h2 : x = y) : xs.take (i + 1) = ys.take (i + 1) := by
  rw [take_step hx, take_step hy, h1, h2]
theorem take_ne {xs ys : List Int} {i : Nat} {x y : Int} (hx : xs[i]? = some x) (hy : ys[i]? = some y) (h2 : x ≠ y) : xs ≠ ys := fun e => by
  rw [e, hy] at hx; simp at hx; exact h2 hx.symm
theorem slices_Equal {p q : Option Addr} {n c m d : Nat} {xs ys : List Int} (h : PH) (hx : SlV h p n c xs) (hy : SlV h q m d ys) : Det Try.prog 34 #[.slice p n c, .slice q m d] h (.bool (decide (xs = ys))) := by
  have hl := hx.len
  have hl2 := hy.len
  have ht := hx.top
  refine spec_enter (args := [_, _]) Try.func34 rfl Try.ntmps34 rfl (fun w l => ?_)
  repeat' (first | fail | fail | refine wkA ?_ | fail | (refine hd_planT (id := 6) [(0, 17, 1), (0, 18, 32), (3, 19, 196608), (4, 20, 262144), (0, 21, 2), (0, 22, 32), (48, 23, 3145728), (64, 24, 4194304), (136, 25, 8912896)] [] [.one 0 true, .one 1 true, .one 2 true, .one 3 true, .one 4 true, .one 5 true, .one 6 true, .one 7 true, .one 8 true] follows_any (by kernel_rfl) (by kernel_rfl) (by kernel_rfl) rfl ?_) | refine hd_draw follows_any (by decide +kernel) ?_ | (refine is_on ?_; first | refine ts_onA ?_ | refine pn_barA ?_ | refine pn_goA ?_ | refine pt_goA ?_) | refine hd_nil ?_ | exact tsA | fail | (refine hd_condT (by exact aX) (by (first | rfl | (simp only [decide_eq_true_eq, decide_eq_false_iff_not]; omega) | fail)) ?_) | (refine hd_condF (by exact aX) (by (first | rfl | (simp only [decide_eq_true_eq, decide_eq_false_iff_not]; omega) | fail)) ?_) | (refine hd_cond (by exact aX) (fun _ => ?_) (fun _ => ?_))  | fail | refine hd_opA ?_ | refine ch_opA ?_ | refine hd_pnA ?_ | fail | ((first | apply hd_ok | apply ch_ok); (focus ((first | (apply OK.plain; rfl) | (apply OK.guarded; rfl; rfl; (intro hg; (try have hk := hg.2); (try have hl := hg.2.2); (try have hm := hg.2.2.2)))); (first | (apply od_call; exact aX; infer_instance; exact aE; exact aN; (focus (first | fail))) ))); rfl; rfl) | (refine hd_pn_op rfl ?_) | (refine ts_step rfl (fun HF h1 hle => ?_)) | refine hd_storeA ?_ | refine hd_boxA (fun _ => ?_) | refine hd_alloc rfl (fun _ => ?_) | refine hd_makeA (fun _ => ?_) | refine hd_copyA ?_ | refine hd_litA (fun _ => ?_) | refine hd_appendA (fun _ _ => ?_) | refine hd_storeRA ?_)
  · rename_i hc
    ((repeat (refine hd_undefer (by first | exact .inl rfl | exact .inr rfl) (by exact aP) ?_)); apply hd_res0; (focus (first | exact .inl rfl | exact .inr rfl)); rfl; exact aR)
    refine ret_bool ?_
    simp at hc
    simp; intro e; rw [e] at hl; omega
  · rename_i hc
    have hmn : n = m := by simp at hc; omega
    subst hmn
    refine hd_loopS (ι := Nat) (fun i => i ≤ n ∧ xs.take i = ys.take i) (fun i => [(0, [], .slice p n c), (1, [], .slice q n d), (12, [], .int .i64 n), (13, [], .int .i64 i)]) (fun _ => []) (fun _ => h) (fun i => n - i) 0 (by simp) (by exact aU) (fun _ hw => hw) (fun i hi => ?_)
    refine hd_split (c := decide (i < n)) (fun hlt => ?_) (fun hlt => ?_)
    · simp only [decide_eq_true_eq] at hlt
      obtain ⟨y1, hy1⟩ := get_of hl hlt
      obtain ⟨hpub, hr1, hptr⟩ := hx.atI hy1
      obtain ⟨y2, hy2⟩ := get_of hl2 hlt
      obtain ⟨hpub2, hr2, hptr2⟩ := hy.atI hy2
      repeat' (first | fail | fail | refine wkA ?_ | fail | (refine hd_planT (id := 6) [(0, 17, 1), (0, 18, 32), (3, 19, 196608), (4, 20, 262144), (0, 21, 2), (0, 22, 32), (48, 23, 3145728), (64, 24, 4194304), (136, 25, 8912896)] [] [.one 0 true, .one 1 true, .one 2 true, .one 3 true, .one 4 true, .one 5 true, .one 6 true, .one 7 true, .one 8 true] follows_any (by kernel_rfl) (by kernel_rfl) (by kernel_rfl) rfl ?_) | refine hd_draw follows_any (by decide +kernel) ?_ | (refine is_on ?_; first | refine ts_onA ?_ | refine pn_barA ?_ | refine pn_goA ?_ | refine pt_goA ?_) | refine hd_nil ?_ | exact tsA | fail | (refine hd_condT (by exact aX) (by (first | rfl | (simp only [decide_eq_true_eq, decide_eq_false_iff_not]; omega) | fail)) ?_) | (refine hd_condF (by exact aX) (by (first | rfl | (simp only [decide_eq_true_eq, decide_eq_false_iff_not]; omega) | fail)) ?_) | (refine hd_cond (by exact aX) (fun _ => ?_) (fun _ => ?_))  | fail | refine hd_opA ?_ | refine ch_opA ?_ | refine hd_pnA ?_ | fail | ((first | apply hd_ok | apply ch_ok); (focus ((first | (apply OK.plain; rfl) | (apply OK.guarded; rfl; rfl; (intro hg; (try have hk := hg.2); (try have hl := hg.2.2); (try have hm := hg.2.2.2)))); (first | (apply od_call; exact aX; infer_instance; exact aE; exact aN; (focus (first | fail))) ))); rfl; rfl) | (refine hd_pn_op rfl ?_) | (refine ts_step rfl (fun HF h1 hle => ?_)) | refine hd_storeA ?_ | refine hd_boxA (fun _ => ?_) | refine hd_alloc rfl (fun _ => ?_) | refine hd_makeA (fun _ => ?_) | refine hd_copyA ?_ | refine hd_litA (fun _ => ?_) | refine hd_appendA (fun _ _ => ?_) | refine hd_storeRA ?_)
      · rename_i hd
        ((repeat (refine hd_undefer (by first | exact .inl rfl | exact .inr rfl) (by exact aP) ?_)); apply hd_res0; (focus (first | exact .inl rfl | exact .inr rfl)); rfl; exact aR)
        refine ret_bool ?_
        simp at hd
        simp [take_ne hy1 hy2 hd]
      · rename_i hd
        simp at hd
        refine hd_again (i + 1) ⟨by omega, take_eq_step hy1 hy2 hi.2 hd⟩ (by omega) (by exact aU) (fun w hw => hw)
    · simp only [decide_eq_false_iff_not] at hlt
      repeat' (first | fail | fail | refine wkA ?_ | fail | (refine hd_planT (id := 6) [(0, 17, 1), (0, 18, 32), (3, 19, 196608), (4, 20, 262144), (0, 21, 2), (0, 22, 32), (48, 23, 3145728), (64, 24, 4194304), (136, 25, 8912896)] [] [.one 0 true, .one 1 true, .one 2 true, .one 3 true, .one 4 true, .one 5 true, .one 6 true, .one 7 true, .one 8 true] follows_any (by kernel_rfl) (by kernel_rfl) (by kernel_rfl) rfl ?_) | refine hd_draw follows_any (by decide +kernel) ?_ | (refine is_on ?_; first | refine ts_onA ?_ | refine pn_barA ?_ | refine pn_goA ?_ | refine pt_goA ?_) | refine hd_nil ?_ | exact tsA | fail | (refine hd_condT (by exact aX) (by (first | rfl | (simp only [decide_eq_true_eq, decide_eq_false_iff_not]; omega) | fail)) ?_) | (refine hd_condF (by exact aX) (by (first | rfl | (simp only [decide_eq_true_eq, decide_eq_false_iff_not]; omega) | fail)) ?_) | (refine hd_cond (by exact aX) (fun _ => ?_) (fun _ => ?_))  | fail | refine hd_opA ?_ | refine ch_opA ?_ | refine hd_pnA ?_ | fail | ((first | apply hd_ok | apply ch_ok); (focus ((first | (apply OK.plain; rfl) | (apply OK.guarded; rfl; rfl; (intro hg; (try have hk := hg.2); (try have hl := hg.2.2); (try have hm := hg.2.2.2)))); (first | (apply od_call; exact aX; infer_instance; exact aE; exact aN; (focus (first | fail))) ))); rfl; rfl) | (refine hd_pn_op rfl ?_) | (refine ts_step rfl (fun HF h1 hle => ?_)) | refine hd_storeA ?_ | refine hd_boxA (fun _ => ?_) | refine hd_alloc rfl (fun _ => ?_) | refine hd_makeA (fun _ => ?_) | refine hd_copyA ?_ | refine hd_litA (fun _ => ?_) | refine hd_appendA (fun _ _ => ?_) | refine hd_storeRA ?_)
      ((repeat (refine hd_undefer (by first | exact .inl rfl | exact .inr rfl) (by exact aP) ?_)); apply hd_res0; (focus (first | exact .inl rfl | exact .inr rfl)); rfl; exact aR)
      refine ret_bool ?_
      have e := hi.2
      rw [List.take_of_length_le (by omega), List.take_of_length_le (by omega)] at e
      simp [e]

theorem takeq_step {α : Type} {xs ys : List α} {i : Nat} {x y : α} (hx : xs[i]? = some x) (hy : ys[i]? = some y) (h1 : xs.take i = ys.take i) (h2 : x = y) : xs.take (i + 1) = ys.take (i + 1) := by
  rw [take_step hx, take_step hy, h1, h2]
theorem take_neq {α : Type} {xs ys : List α} {i : Nat} {x y : α} (hx : xs[i]? = some x) (hy : ys[i]? = some y) (h2 : x ≠ y) : xs ≠ ys := fun e => by
  rw [e, hy] at hx; simp at hx; exact h2 hx.symm
theorem sp_ne {x y : Sp} (h : eqL [.int .i32 x.1, .int .i32 x.2] [.int .i32 y.1, .int .i32 y.2] = false) : x ≠ y := fun e => by
  subst e; simp [eqL, eqV] at h
theorem sp_eq {x y : Sp} (h : eqL [.int .i32 x.1, .int .i32 x.2] [.int .i32 y.1, .int .i32 y.2] = true) : x = y := by
  simp [eqL, eqV] at h; exact Prod.ext h.1 h.2
theorem slices_EqualF {p q : Option Addr} {n c m d : Nat} {xs ys : List Sp} (h : PH) (hx : SlS h p n c xs) (hy : SlS h q m d ys) : Det Try.prog 33 #[.slice p n c, .slice q m d] h (.bool (decide (xs = ys))) := by
  have hl := hx.len
  have hl2 := hy.len
  have ht := hx.top
  refine spec_enter (args := [_, _]) Try.func33 rfl Try.ntmps33 rfl (fun w l => ?_)
  repeat' (first | fail | fail | refine wkA ?_ | fail | (refine hd_planT (id := 6) [(0, 17, 1), (0, 18, 32), (3, 19, 196608), (4, 20, 262144), (0, 21, 2), (0, 22, 32), (48, 23, 3145728), (64, 24, 4194304), (136, 25, 8912896)] [] [.one 0 true, .one 1 true, .one 2 true, .one 3 true, .one 4 true, .one 5 true, .one 6 true, .one 7 true, .one 8 true] follows_any (by kernel_rfl) (by kernel_rfl) (by kernel_rfl) rfl ?_) | refine hd_draw follows_any (by decide +kernel) ?_ | (refine is_on ?_; first | refine ts_onA ?_ | refine pn_barA ?_ | refine pn_goA ?_ | refine pt_goA ?_) | refine hd_nil ?_ | exact tsA | fail | (refine hd_condT (by exact aX) (by (first | rfl | (simp only [decide_eq_true_eq, decide_eq_false_iff_not]; omega) | fail)) ?_) | (refine hd_condF (by exact aX) (by (first | rfl | (simp only [decide_eq_true_eq, decide_eq_false_iff_not]; omega) | fail)) ?_) | (refine hd_cond (by exact aX) (fun _ => ?_) (fun _ => ?_))  | fail | refine hd_opA ?_ | refine ch_opA ?_ | refine hd_pnA ?_ | fail | ((first | apply hd_ok | apply ch_ok); (focus ((first | (apply OK.plain; rfl) | (apply OK.guarded; rfl; rfl; (intro hg; (try have hk := hg.2); (try have hl := hg.2.2); (try have hm := hg.2.2.2)))); (first | (apply od_call; exact aX; infer_instance; exact aE; exact aN; (focus (first | fail))) ))); rfl; rfl) | (refine hd_pn_op rfl ?_) | (refine ts_step rfl (fun HF h1 hle => ?_)) | refine hd_storeA ?_ | refine hd_boxA (fun _ => ?_) | refine hd_alloc rfl (fun _ => ?_) | refine hd_makeA (fun _ => ?_) | refine hd_copyA ?_ | refine hd_litA (fun _ => ?_) | refine hd_appendA (fun _ _ => ?_) | refine hd_storeRA ?_)
  · rename_i hc
    ((repeat (refine hd_undefer (by first | exact .inl rfl | exact .inr rfl) (by exact aP) ?_)); apply hd_res0; (focus (first | exact .inl rfl | exact .inr rfl)); rfl; exact aR)
    refine ret_bool ?_
    simp at hc
    simp; intro e; rw [e] at hl; omega
  · rename_i hc
    have hmn : n = m := by simp at hc; omega
    subst hmn
    refine hd_loopS (ι := Nat) (fun i => i ≤ n ∧ xs.take i = ys.take i) (fun i => [(0, [], .slice p n c), (1, [], .slice q n d), (12, [], .int .i64 n), (13, [], .int .i64 i)]) (fun _ => []) (fun _ => h) (fun i => n - i) 0 (by simp) (by exact aU) (fun _ hw => hw) (fun i hi => ?_)
    refine hd_split (c := decide (i < n)) (fun hlt => ?_) (fun hlt => ?_)
    · simp only [decide_eq_true_eq] at hlt
      obtain ⟨y1, hy1⟩ := get_of hl hlt
      obtain ⟨hpub, hr1, hr1', hptr⟩ := SlS_at hx hy1
      obtain ⟨y2, hy2⟩ := get_of hl2 hlt
      obtain ⟨hpub2, hr2, hr2', hptr2⟩ := SlS_at hy hy2
      repeat' (first | fail | fail | refine wkA ?_ | fail | (refine hd_planT (id := 6) [(0, 17, 1), (0, 18, 32), (3, 19, 196608), (4, 20, 262144), (0, 21, 2), (0, 22, 32), (48, 23, 3145728), (64, 24, 4194304), (136, 25, 8912896)] [] [.one 0 true, .one 1 true, .one 2 true, .one 3 true, .one 4 true, .one 5 true, .one 6 true, .one 7 true, .one 8 true] follows_any (by kernel_rfl) (by kernel_rfl) (by kernel_rfl) rfl ?_) | refine hd_draw follows_any (by decide +kernel) ?_ | (refine is_on ?_; first | refine ts_onA ?_ | refine pn_barA ?_ | refine pn_goA ?_ | refine pt_goA ?_) | refine hd_nil ?_ | exact tsA | fail | (refine hd_condT (by exact aX) (by (first | rfl | (simp only [decide_eq_true_eq, decide_eq_false_iff_not]; omega) | fail)) ?_) | (refine hd_condF (by exact aX) (by (first | rfl | (simp only [decide_eq_true_eq, decide_eq_false_iff_not]; omega) | fail)) ?_) | (refine hd_cond (by exact aX) (fun _ => ?_) (fun _ => ?_))  | fail | refine hd_opA ?_ | refine ch_opA ?_ | refine hd_pnA ?_ | fail | ((first | apply hd_ok | apply ch_ok); (focus ((first | (apply OK.plain; rfl) | (apply OK.guarded; rfl; rfl; (intro hg; (try have hk := hg.2); (try have hl := hg.2.2); (try have hm := hg.2.2.2)))); (first | (apply od_call; exact aX; infer_instance; exact aE; exact aN; (focus (first | fail))) ))); rfl; rfl) | (refine hd_pn_op rfl ?_) | (refine ts_step rfl (fun HF h1 hle => ?_)) | refine hd_storeA ?_ | refine hd_boxA (fun _ => ?_) | refine hd_alloc rfl (fun _ => ?_) | refine hd_makeA (fun _ => ?_) | refine hd_copyA ?_ | refine hd_litA (fun _ => ?_) | refine hd_appendA (fun _ _ => ?_) | refine hd_storeRA ?_)
      · rename_i hd
        ((repeat (refine hd_undefer (by first | exact .inl rfl | exact .inr rfl) (by exact aP) ?_)); apply hd_res0; (focus (first | exact .inl rfl | exact .inr rfl)); rfl; exact aR)
        refine ret_bool ?_
        simp at hd
        simp [take_neq hy1 hy2 (sp_ne hd)]
      · rename_i hd
        simp at hd
        refine hd_again (i + 1) ⟨by omega, takeq_step hy1 hy2 hi.2 (sp_eq hd)⟩ (by omega) (by exact aU) (fun w hw => inv_only .nil hw)
    · simp only [decide_eq_false_iff_not] at hlt
      repeat' (first | fail | fail | refine wkA ?_ | fail | (refine hd_planT (id := 6) [(0, 17, 1), (0, 18, 32), (3, 19, 196608), (4, 20, 262144), (0, 21, 2), (0, 22, 32), (48, 23, 3145728), (64, 24, 4194304), (136, 25, 8912896)] [] [.one 0 true, .one 1 true, .one 2 true, .one 3 true, .one 4 true, .one 5 true, .one 6 true, .one 7 true, .one 8 true] follows_any (by kernel_rfl) (by kernel_rfl) (by kernel_rfl) rfl ?_) | refine hd_draw follows_any (by decide +kernel) ?_ | (refine is_on ?_; first | refine ts_onA ?_ | refine pn_barA ?_ | refine pn_goA ?_ | refine pt_goA ?_) | refine hd_nil ?_ | exact tsA | fail | (refine hd_condT (by exact aX) (by (first | rfl | (simp only [decide_eq_true_eq, decide_eq_false_iff_not]; omega) | fail)) ?_) | (refine hd_condF (by exact aX) (by (first | rfl | (simp only [decide_eq_true_eq, decide_eq_false_iff_not]; omega) | fail)) ?_) | (refine hd_cond (by exact aX) (fun _ => ?_) (fun _ => ?_))  | fail | refine hd_opA ?_ | refine ch_opA ?_ | refine hd_pnA ?_ | fail | ((first | apply hd_ok | apply ch_ok); (focus ((first | (apply OK.plain; rfl) | (apply OK.guarded; rfl; rfl; (intro hg; (try have hk := hg.2); (try have hl := hg.2.2); (try have hm := hg.2.2.2)))); (first | (apply od_call; exact aX; infer_instance; exact aE; exact aN; (focus (first | fail))) ))); rfl; rfl) | (refine hd_pn_op rfl ?_) | (refine ts_step rfl (fun HF h1 hle => ?_)) | refine hd_storeA ?_ | refine hd_boxA (fun _ => ?_) | refine hd_alloc rfl (fun _ => ?_) | refine hd_makeA (fun _ => ?_) | refine hd_copyA ?_ | refine hd_litA (fun _ => ?_) | refine hd_appendA (fun _ _ => ?_) | refine hd_storeRA ?_)
      ((repeat (refine hd_undefer (by first | exact .inl rfl | exact .inr rfl) (by exact aP) ?_)); apply hd_res0; (focus (first | exact .inl rfl | exact .inr rfl)); rfl; exact aR)
      refine ret_bool ?_
      have e := hi.2
      rw [List.take_of_length_le (by omega), List.take_of_length_le (by omega)] at e
      simp [e]
theorem bytes_Equal {p q : Option Addr} {n c m d : Nat} {xs ys : List Int} (h : PH) (h1 : SlB h p n c xs) (h2 : SlB h q m d ys) : Det Try.prog 35 #[.slice p n c, .slice q m d] h (.bool (decide (xs = ys))) := by
  refine spec_enter (args := [_, _]) Try.func35 rfl Try.ntmps35 rfl (fun w l => ?_)
  have hb1 := h1.inR
  have hb2 := h2.inR
  have s1 : Src [] h p n 1 (vI .u8 xs) := h1.srcI
  have s2 : Src [] h q m 1 (vI .u8 ys) := h2.srcI
  repeat' (first | fail | fail | refine wkA ?_ | fail | (refine hd_planT (id := 6) [(0, 17, 1), (0, 18, 32), (3, 19, 196608), (4, 20, 262144), (0, 21, 2), (0, 22, 32), (48, 23, 3145728), (64, 24, 4194304), (136, 25, 8912896)] [] [.one 0 true, .one 1 true, .one 2 true, .one 3 true, .one 4 true, .one 5 true, .one 6 true, .one 7 true, .one 8 true] follows_any (by kernel_rfl) (by kernel_rfl) (by kernel_rfl) rfl ?_) | refine hd_draw follows_any (by decide +kernel) ?_ | (refine is_on ?_; first | refine ts_onA ?_ | refine pn_barA ?_ | refine pn_goA ?_ | refine pt_goA ?_) | refine hd_nil ?_ | exact tsA | fail | (refine hd_condT (by exact aX) (by (first | rfl | (simp only [decide_eq_true_eq, decide_eq_false_iff_not]; omega) | fail)) ?_) | (refine hd_condF (by exact aX) (by (first | rfl | (simp only [decide_eq_true_eq, decide_eq_false_iff_not]; omega) | fail)) ?_) | (refine hd_cond (by exact aX) (fun _ => ?_) (fun _ => ?_))  | fail | refine hd_opA ?_ | refine ch_opA ?_ | refine hd_pnA ?_ | ((first | apply hd_ok | apply ch_ok | (apply hd_pn_run; rfl; exact aM)); (focus ((first | (apply OK.plain; rfl; apply OD.of) | (apply OKp.plain; rfl)); (first | (apply od_b2s; exact aX; (focus (first | exact s1 | exact s2)); rfl) | (apply od_seq; exact aX; exact aX; (focus (first | exact hb1 | exact hb2)); (focus (first | exact hb2 | exact hb1))) | (apply od_index; exact aX; exact aX; (focus (first | (with_reducible exact natC _) | (with_reducible exact natLit _) | exact rfl | exact (Int.toNat_of_nonneg (by (first | omega | grind [Sat]))).symm)); (focus (first | omega | grind [Sat])); (focus (first | assumption | rfl))) | (apply od_slice; exact aX; (focus (first | exact Bd.none | (apply Bd.some; exact aX; (focus (first | (with_reducible exact natC _) | (with_reducible exact natLit _) | exact rfl | exact (Int.toNat_of_nonneg (by (first | omega | grind [Sat]))).symm))))); (focus (first | exact Bd.none | (apply Bd.some; exact aX; (focus (first | (with_reducible exact natC _) | (with_reducible exact natLit _) | exact rfl | exact (Int.toNat_of_nonneg (by (first | omega | grind [Sat]))).symm))))); (focus (first | omega | grind [Sat])); (focus (first | omega | grind [Sat]))) | (apply od_shr; exact aX; exact aX; (focus (first | (with_reducible exact natC _) | (with_reducible exact natLit _) | exact rfl | exact (Int.toNat_of_nonneg (by (first | omega | grind [Sat]))).symm)); (focus (simp [IntKind.bits] <;> omega))) | (apply od_shlR; exact aX; exact aX; (focus (first | (with_reducible exact natC _) | (with_reducible exact natLit _) | exact rfl | exact (Int.toNat_of_nonneg (by (first | omega | grind [Sat]))).symm)); (focus (simp [IntKind.bits] <;> omega)); (focus ((first | with_reducible apply inR_i64 | with_reducible apply inR_i32 | with_reducible apply inR_u8 | with_reducible apply inR_u16 | with_reducible apply inR_u32 | with_reducible apply inR_u64) <;> (first | omega | grind [Sat])))) | (apply od_rem; exact aX; exact aX; (focus (first | omega | grind [Sat])); (focus (first | omega | grind [Sat]))) | (apply od_quo; exact aX; exact aX; (focus (first | omega | grind [Sat])); (focus (first | omega | grind [Sat])); (focus ((first | with_reducible apply inR_i64 | with_reducible apply inR_i32 | with_reducible apply inR_u8 | with_reducible apply inR_u16 | with_reducible apply inR_u32 | with_reducible apply inR_u64) <;> (first | omega | grind [Sat])))) | (apply od_load_one0; exact aX; (focus (first | assumption | exact Pub.mono (by assumption) (by exact aL)))) | (apply od_load_aggp; exact aX; (focus (first | assumption | exact Pub.mono (by assumption) (by exact aL))); exact aN; rfl) | (apply od_load_onep; exact aX; (focus (first | assumption | exact Pub.mono (by assumption) (by exact aL))); rfl; rfl)))); rfl; rfl) | ((first | apply hd_ok | apply ch_ok); (focus ((first | (apply OK.plain; rfl) | (apply OK.guarded; rfl; rfl; (intro hg; (try have hk := hg.2); (try have hl := hg.2.2); (try have hm := hg.2.2.2)))); (first | (apply od_call; exact aX; infer_instance; exact aE; exact aN; (focus (first | fail))) ))); rfl; rfl) | (refine hd_pn_op rfl ?_) | (refine ts_step rfl (fun HF h1 hle => ?_)) | refine hd_storeA ?_ | refine hd_boxA (fun _ => ?_) | refine hd_alloc rfl (fun _ => ?_) | refine hd_makeA (fun _ => ?_) | refine hd_copyA ?_ | refine hd_litA (fun _ => ?_) | refine hd_appendA (fun _ _ => ?_) | refine hd_storeRA ?_)
  all_goals ((repeat (refine hd_undefer (by first | exact .inl rfl | exact .inr rfl) (by exact aP) ?_)); apply hd_res0; (focus (first | exact .inl rfl | exact .inr rfl)); rfl; exact aR)
  all_goals rfl

theorem same1_det {v u : Value} {x y : SD} (h : PH) (hv : VSt h v x) (hu : VSt h u y) : Det Try.prog 32 #[v, u] h (.bool (decide (x = y))) := by
  obtain ⟨p, n, c, q, m, d, r, k, e, rfl, hx, h7, h8, h9⟩ := hv
  obtain ⟨p', n', c', q', m', d', r', k', e', rfl, hx', h7', h8', h9'⟩ := hu
  refine spec_enter (args := [_, _]) Try.func32 rfl Try.ntmps32 rfl (fun w l => ?_)
  repeat' (first | fail | fail | refine wkA ?_ | fail | fail | refine hd_draw follows_any (by decide +kernel) ?_ | (refine is_on ?_; first | refine ts_onA ?_ | refine pn_barA ?_ | refine pn_goA ?_ | refine pt_goA ?_) | refine hd_nil ?_ | exact tsA | fail | (refine hd_cond (by exact aX) (fun _ => ?_) (fun _ => ?_))  | fail | refine hd_opA ?_ | refine ch_opA ?_ | refine hd_pnA ?_ | fail | ((first | apply hd_ok | apply ch_ok); (focus ((first | (apply OK.plain; rfl) | (apply OK.guarded; rfl; rfl; (intro hg; (try have hk := hg.2); (try have hl := hg.2.2); (try have hm := hg.2.2.2)))); (first | (apply od_call; exact aX; infer_instance; exact aE; exact aN; (focus (first | exact slices_EqualF _ (by assumption) (by assumption) | exact slices_Equal _ (by assumption) (by assumption) | exact bytes_Equal _ (by assumption) (by assumption)))) ))); rfl; rfl) | (refine hd_pn_op rfl ?_) | (refine ts_step rfl (fun HF h1 hle => ?_)) | refine hd_storeA ?_ | refine hd_boxA (fun _ => ?_) | refine hd_alloc rfl (fun _ => ?_) | refine hd_makeA (fun _ => ?_) | refine hd_copyA ?_ | refine hd_litA (fun _ => ?_) | refine hd_appendA (fun _ _ => ?_) | refine hd_storeRA ?_)
  all_goals ((repeat (refine hd_undefer (by first | exact .inl rfl | exact .inr rfl) (by exact aP) ?_)); apply hd_res0; (focus (first | exact .inl rfl | exact .inr rfl)); rfl; exact aR)
  all_goals refine ret_bool ?_
  obtain ⟨x0, x1, x2, x3, x4, x5, x6, x7, x8, x9⟩ := x
  obtain ⟨y0, y1, y2, y3, y4, y5, y6, y7, y8, y9⟩ := y
  rw [Bool.eq_iff_iff]
  simp [and_assoc]
theorem VSt.of {h : PH} {x : SD} {p q r : Option Addr} {n c m d k e : Nat} (hx : SdR x) (h7 : SlS h p n c x.filter) (h8 : SlV h q m d x.vals) (h9 : SlB h r k e x.data) :
    VSt h (.agg #[.int .u8 x.kind, .int .u8 x.node, .int .u8 x.other, .int .i64 x.at_, .int .i64 x.to_, .int .i64 x.from_, .int .u32 x.turns, .slice p n c, .slice q m d, .slice r k e]) x := ⟨p, n, c, q, m, d, r, k, e, rfl, hx, h7, h8, h9⟩
theorem equalFunc_det {p q : Option Addr} {n c m d : Nat} {xs ys : List SD} (h : PH) (hx : SlT h p n c xs) (hy : SlT h q m d ys) : Det Try.prog 31 #[.slice p n c, .slice q m d, .func (.func 32) #[] #[]] h (.bool (decide (xs = ys))) := by
  have hl := hx.len
  have hl2 := hy.len
  have ht := hx.top
  refine spec_enter (args := [_, _, _]) Try.func31 rfl Try.ntmps31 rfl (fun w l => ?_)
  repeat' (first | fail | fail | refine wkA ?_ | fail | fail | refine hd_draw follows_any (by decide +kernel) ?_ | (refine is_on ?_; first | refine ts_onA ?_ | refine pn_barA ?_ | refine pn_goA ?_ | refine pt_goA ?_) | refine hd_nil ?_ | exact tsA | fail | (refine hd_condT (by exact aX) (by (first | rfl | (simp only [decide_eq_true_eq, decide_eq_false_iff_not]; omega) | fail)) ?_) | (refine hd_condF (by exact aX) (by (first | rfl | (simp only [decide_eq_true_eq, decide_eq_false_iff_not]; omega) | fail)) ?_) | (refine hd_cond (by exact aX) (fun _ => ?_) (fun _ => ?_))  | fail | refine hd_opA ?_ | refine ch_opA ?_ | refine hd_pnA ?_ | fail | ((first | apply hd_ok | apply ch_ok); (focus ((first | (apply OK.plain; rfl) | (apply OK.guarded; rfl; rfl; (intro hg; (try have hk := hg.2); (try have hl := hg.2.2); (try have hm := hg.2.2.2)))); (first | (apply od_call; exact aX; infer_instance; exact aE; exact aN; (focus (first | exact same1_det _ (by assumption) (by assumption)))) ))); rfl; rfl) | (refine hd_pn_op rfl ?_) | (refine ts_step rfl (fun HF h1 hle => ?_)) | refine hd_storeA ?_ | refine hd_boxA (fun _ => ?_) | refine hd_alloc rfl (fun _ => ?_) | refine hd_makeA (fun _ => ?_) | refine hd_copyA ?_ | refine hd_litA (fun _ => ?_) | refine hd_appendA (fun _ _ => ?_) | refine hd_storeRA ?_)
  · rename_i hc
    ((repeat (refine hd_undefer (by first | exact .inl rfl | exact .inr rfl) (by exact aP) ?_)); apply hd_res0; (focus (first | exact .inl rfl | exact .inr rfl)); rfl; exact aR)
    refine ret_bool ?_
    simp at hc
    simp; intro e; rw [e] at hl; omega
  · rename_i hc
    have hmn : n = m := by simp at hc; omega
    subst hmn
    refine hd_loopS (ι := Nat) (fun i => i ≤ n ∧ xs.take i = ys.take i) (fun i => [(1, [], .slice q n d), (2, [], .func (.func 32) #[] #[]), (15, [], .slice p n c), (16, [], .int .i64 n), (17, [], .int .i64 i)]) (fun _ => []) (fun _ => h) (fun i => n - i) 0 (by simp) (by exact aU) (fun _ hw => hw) (fun i hi => ?_)
    refine hd_split (c := decide (i < n)) (fun hlt => ?_) (fun hlt => ?_)
    · simp only [decide_eq_true_eq] at hlt
      obtain ⟨y1, hy1⟩ := get_of hl hlt
      obtain ⟨_, _, _, _, _, _, _, _, _, hpub, hr, h7, h8, h9, hptr⟩ := SlT_at hx hy1
      obtain ⟨y2, hy2⟩ := get_of hl2 hlt
      obtain ⟨_, _, _, _, _, _, _, _, _, hpub', hr', h7', h8', h9', hptr'⟩ := SlT_at hy hy2
      have hv1 := VSt.of hr h7 h8 h9
      have hv2 := VSt.of hr' h7' h8' h9'
      repeat' (first | fail | fail | refine wkA ?_ | fail | fail | refine hd_draw follows_any (by decide +kernel) ?_ | (refine is_on ?_; first | refine ts_onA ?_ | refine pn_barA ?_ | refine pn_goA ?_ | refine pt_goA ?_) | refine hd_nil ?_ | exact tsA | fail | (refine hd_condT (by exact aX) (by (first | rfl | (simp only [decide_eq_true_eq, decide_eq_false_iff_not]; omega) | fail)) ?_) | (refine hd_condF (by exact aX) (by (first | rfl | (simp only [decide_eq_true_eq, decide_eq_false_iff_not]; omega) | fail)) ?_) | (refine hd_cond (by exact aX) (fun _ => ?_) (fun _ => ?_))  | fail | refine hd_opA ?_ | refine ch_opA ?_ | refine hd_pnA ?_ | fail | ((first | apply hd_ok | apply ch_ok); (focus ((first | (apply OK.plain; rfl) | (apply OK.guarded; rfl; rfl; (intro hg; (try have hk := hg.2); (try have hl := hg.2.2); (try have hm := hg.2.2.2)))); (first | (apply od_call; exact aX; infer_instance; exact aE; exact aN; (focus (first | exact same1_det _ (by assumption) (by assumption)))) ))); rfl; rfl) | (refine hd_pn_op rfl ?_) | (refine ts_step rfl (fun HF h1 hle => ?_)) | refine hd_storeA ?_ | refine hd_boxA (fun _ => ?_) | refine hd_alloc rfl (fun _ => ?_) | refine hd_makeA (fun _ => ?_) | refine hd_copyA ?_ | refine hd_litA (fun _ => ?_) | refine hd_appendA (fun _ _ => ?_) | refine hd_storeRA ?_)
      · rename_i hd
        ((repeat (refine hd_undefer (by first | exact .inl rfl | exact .inr rfl) (by exact aP) ?_)); apply hd_res0; (focus (first | exact .inl rfl | exact .inr rfl)); rfl; exact aR)
        refine ret_bool ?_
        simp at hd
        simp [take_neq hy1 hy2 hd]
      · rename_i hd
        simp at hd
        refine hd_again (i + 1) ⟨by omega, takeq_step hy1 hy2 hi.2 hd⟩ (by omega) (by exact aU) (fun w hw => inv_only (by exact aS) hw)
    · simp only [decide_eq_false_iff_not] at hlt
      repeat' (first | fail | fail | refine wkA ?_ | fail | fail | refine hd_draw follows_any (by decide +kernel) ?_ | (refine is_on ?_; first | refine ts_onA ?_ | refine pn_barA ?_ | refine pn_goA ?_ | refine pt_goA ?_) | refine hd_nil ?_ | exact tsA | fail | (refine hd_condT (by exact aX) (by (first | rfl | (simp only [decide_eq_true_eq, decide_eq_false_iff_not]; omega) | fail)) ?_) | (refine hd_condF (by exact aX) (by (first | rfl | (simp only [decide_eq_true_eq, decide_eq_false_iff_not]; omega) | fail)) ?_) | (refine hd_cond (by exact aX) (fun _ => ?_) (fun _ => ?_))  | fail | refine hd_opA ?_ | refine ch_opA ?_ | refine hd_pnA ?_ | fail | ((first | apply hd_ok | apply ch_ok); (focus ((first | (apply OK.plain; rfl) | (apply OK.guarded; rfl; rfl; (intro hg; (try have hk := hg.2); (try have hl := hg.2.2); (try have hm := hg.2.2.2)))); (first | (apply od_call; exact aX; infer_instance; exact aE; exact aN; (focus (first | exact same1_det _ (by assumption) (by assumption)))) ))); rfl; rfl) | (refine hd_pn_op rfl ?_) | (refine ts_step rfl (fun HF h1 hle => ?_)) | refine hd_storeA ?_ | refine hd_boxA (fun _ => ?_) | refine hd_alloc rfl (fun _ => ?_) | refine hd_makeA (fun _ => ?_) | refine hd_copyA ?_ | refine hd_litA (fun _ => ?_) | refine hd_appendA (fun _ _ => ?_) | refine hd_storeRA ?_)
      ((repeat (refine hd_undefer (by first | exact .inl rfl | exact .inr rfl) (by exact aP) ?_)); apply hd_res0; (focus (first | exact .inl rfl | exact .inr rfl)); rfl; exact aR)
      refine ret_bool ?_
      have e := hi.2
      rw [List.take_of_length_le (by omega), List.take_of_length_le (by omega)] at e
      simp [e]
theorem script_Same {p q : Option Addr} {n c m d : Nat} {xs ys : List SD} (h : PH) (hx : SlT h p n c xs) (hy : SlT h q m d ys) : Det Try.prog 17 #[.slice p n c, .slice q m d] h (.bool (decide (xs = ys))) := by
  refine spec_enter (args := [_, _]) Try.func17 rfl Try.ntmps17 rfl (fun w l => ?_)
  repeat' (first | fail | fail | refine wkA ?_ | fail | fail | refine hd_draw follows_any (by decide +kernel) ?_ | (refine is_on ?_; first | refine ts_onA ?_ | refine pn_barA ?_ | refine pn_goA ?_ | refine pt_goA ?_) | refine hd_nil ?_ | exact tsA | fail | (refine hd_condT (by exact aX) (by (first | rfl | (simp only [decide_eq_true_eq, decide_eq_false_iff_not]; omega) | fail)) ?_) | (refine hd_condF (by exact aX) (by (first | rfl | (simp only [decide_eq_true_eq, decide_eq_false_iff_not]; omega) | fail)) ?_) | (refine hd_cond (by exact aX) (fun _ => ?_) (fun _ => ?_))  | fail | refine hd_opA ?_ | refine ch_opA ?_ | refine hd_pnA ?_ | fail | ((first | apply hd_ok | apply ch_ok); (focus ((first | (apply OK.plain; rfl) | (apply OK.guarded; rfl; rfl; (intro hg; (try have hk := hg.2); (try have hl := hg.2.2); (try have hm := hg.2.2.2)))); (first | (apply od_call; exact aX; infer_instance; exact aE; exact aN; (focus (first | exact equalFunc_det _ (by assumption) (by assumption)))) ))); rfl; rfl) | (refine hd_pn_op rfl ?_) | (refine ts_step rfl (fun HF h1 hle => ?_)) | refine hd_storeA ?_ | refine hd_boxA (fun _ => ?_) | refine hd_alloc rfl (fun _ => ?_) | refine hd_makeA (fun _ => ?_) | refine hd_copyA ?_ | refine hd_litA (fun _ => ?_) | refine hd_appendA (fun _ _ => ?_) | refine hd_storeRA ?_)
  all_goals ((repeat (refine hd_undefer (by first | exact .inl rfl | exact .inr rfl) (by exact aP) ?_)); apply hd_res0; (focus (first | exact .inl rfl | exact .inr rfl)); rfl; exact aR)
  all_goals rfl
end Go.Proofs.Ytikkkfamflmgeaa
