/- More of package filter, and of the document's answer: the same, normal. -/
import Derived.Test.YtbdkokkmheobdaaFilt
namespace Go.Proofs.Ytbdkokkmheobdaa
open Go Go.GV
attribute [local irreducible] cw Go.GV.SpecM Go.GV.wpList Exit.then Exit.inBlock Go.GV.bodyPost wpPl wpPm wpPn TS rnd rPost YieldsB wpPT ptK
set_option maxRecDepth 10000
set_option maxHeartbeats 4000000
set_option linter.unusedVariables false
set_option linter.unusedSimpArgs false
theorem takeq_step {α : Type} {xs ys : List α} {i : Nat} {x y : α} (hx : xs[i]? = some x) (hy : ys[i]? = some y) (h1 : xs.take i = ys.take i) (h2 : x = y) : xs.take (i + 1) = ys.take (i + 1) := by
  rw [take_step hx, take_step hy, h1, h2]
theorem take_neq {α : Type} {xs ys : List α} {i : Nat} {x y : α} (hx : xs[i]? = some x) (hy : ys[i]? = some y) (h2 : x ≠ y) : xs ≠ ys := fun e => by
  rw [e, hy] at hx; simp at hx; exact h2 hx.symm
theorem sp_ne {x y : Sp} (h : eqL [.int .i32 x.1, .int .i32 x.2] [.int .i32 y.1, .int .i32 y.2] = false) : x ≠ y := fun e => by
  subst e; simp [eqL, eqV] at h
theorem sp_eq {x y : Sp} (h : eqL [.int .i32 x.1, .int .i32 x.2] [.int .i32 y.1, .int .i32 y.2] = true) : x = y := by
  simp [eqL, eqV] at h; exact Prod.ext h.1 h.2
theorem slices_EqualF {p q : Option Addr} {n c m d : Nat} {xs ys : List Sp} (h : PH) (hx : SlS h p n c xs) (hy : SlS h q m d ys) : Det Try.prog 38 #[.slice p n c, .slice q m d] h (.bool (decide (xs = ys))) := by
  have hl := hx.len
  have hl2 := hy.len
  have ht := hx.top
  refine spec_enter (args := [_, _]) Try.func38 rfl Try.ntmps38 rfl (fun w l => ?_)
  repeat' (first | (refine is_pu ?_ (by rfl); first  | fail | refine hd_opAB ?_ | fail) | (refine is_pn ?_; first | refine hd_pn_nil ?_ | fail  | fail | refine hd_pnAB ?_ | fail | (refine hd_pn_op rfl ?_)) | (refine is_co ?_; first | fail  | ((first | apply hd_ok | apply ch_ok); (focus ((first | (apply OK.plain; rfl) | (apply OK.guarded; rfl; rfl; (intro hg; (try have hk := hg.2); (try have hl := hg.2.2); (try have hm := hg.2.2.2)))); (first | (apply od_call; exact aX; infer_instance; exact aE; exact aN; (focus (first | fail))) ))); rfl; rfl) | refine hd_storeA ?_ | refine hd_boxA (fun _ => ?_) | refine hd_alloc rfl (fun _ => ?_) | refine hd_makeA (fun _ => ?_) | refine hd_copyA ?_ | refine hd_litA (fun _ => ?_) | refine hd_appendA (fun _ _ => ?_) | refine hd_storeRA ?_) | (refine is_ni ?_; first | (refine is_on ?_; first | refine pn_barA ?_ | refine pn_goA ?_ | refine pt_goA ?_  | refine ts_onA ?_) | refine hd_nil ?_) | (refine is_cw ?_; first | (refine is_rg ?_; first | fail | (refine hd_planT (id := 6) _ [] [.one 0 true, .one 1 true, .one 2 true, .one 3 true, .one 4 true, .one 5 true, .one 6 true, .one 7 true, .one 8 true] follows_any (by kernel_rfl) rfl (by kernel_rfl) rfl ?_) | refine hd_draw follows_any (by decide +kernel) ?_) | (refine is_cd ?_; first | (refine hd_condT (by exact aX) (by (first | rfl | (simp only [decide_eq_true_eq, decide_eq_false_iff_not]; omega) | fail)) ?_) | (refine hd_condF (by exact aX) (by (first | rfl | (simp only [decide_eq_true_eq, decide_eq_false_iff_not]; omega) | fail)) ?_) | (refine hd_cond (by exact aX) (fun _ => ?_) (fun _ => ?_))) | fail | refine wkA ?_) | refine wkA ?_ | (refine is_ch ?_; refine ch_opAB ?_) | ((first | apply hd_ok | apply ch_ok); (focus ((first | (apply OK.plain; rfl) | (apply OK.guarded; rfl; rfl; (intro hg; (try have hk := hg.2); (try have hl := hg.2.2); (try have hm := hg.2.2.2)))); (first | (apply od_call; exact aX; infer_instance; exact aE; exact aN; (focus (first | fail))) ))); rfl; rfl) | fail | fail | exact tsA | fail | (refine ts_step rfl (fun HF h1 hle => ?_)) | fail | fail)
  · rename_i hc
    ((repeat (refine hd_undefer (by first | exact .inl rfl | exact .inr rfl) (by exact aP) ?_)); apply hd_res0; (focus (first | exact .inl rfl | exact .inr rfl)); rfl; exact aR)
    refine ret_bool ?_
    simp at hc
    simp; intro e; rw [e] at hl; omega
  · rename_i hc
    have hmn : n = m := by simp at hc; omega
    subst hmn
    refine hd_loopS (ι := Nat) (fun i => i ≤ n ∧ xs.take i = ys.take i) (fun i => [(0, [], .slice p n c), (1, [], .slice q n d), (12, [], .int .i64 n), (13, [], .int .i64 i)]) (fun _ => []) (fun _ => h) (fun i => n - i) 0 (by simp) (by exact aU) (fun _ hw => hw) (fun i hi => ?_)
    refine hd_split (c := decide (i < n)) (fun hlt => ?_) (fun hlt => ?_)
    · simp only [decide_eq_true_eq] at hlt
      obtain ⟨y1, hy1⟩ := get_of hl hlt
      obtain ⟨hpub, hr1, hr1', hptr⟩ := SlS_at hx hy1
      obtain ⟨y2, hy2⟩ := get_of hl2 hlt
      obtain ⟨hpub2, hr2, hr2', hptr2⟩ := SlS_at hy hy2
      repeat' (first | (refine is_pu ?_ (by rfl); first  | fail | refine hd_opAB ?_ | fail) | (refine is_pn ?_; first | refine hd_pn_nil ?_ | fail  | fail | refine hd_pnAB ?_ | fail | (refine hd_pn_op rfl ?_)) | (refine is_co ?_; first | fail  | ((first | apply hd_ok | apply ch_ok); (focus ((first | (apply OK.plain; rfl) | (apply OK.guarded; rfl; rfl; (intro hg; (try have hk := hg.2); (try have hl := hg.2.2); (try have hm := hg.2.2.2)))); (first | (apply od_call; exact aX; infer_instance; exact aE; exact aN; (focus (first | fail))) ))); rfl; rfl) | refine hd_storeA ?_ | refine hd_boxA (fun _ => ?_) | refine hd_alloc rfl (fun _ => ?_) | refine hd_makeA (fun _ => ?_) | refine hd_copyA ?_ | refine hd_litA (fun _ => ?_) | refine hd_appendA (fun _ _ => ?_) | refine hd_storeRA ?_) | (refine is_ni ?_; first | (refine is_on ?_; first | refine pn_barA ?_ | refine pn_goA ?_ | refine pt_goA ?_  | refine ts_onA ?_) | refine hd_nil ?_) | (refine is_cw ?_; first | (refine is_rg ?_; first | fail | (refine hd_planT (id := 6) _ [] [.one 0 true, .one 1 true, .one 2 true, .one 3 true, .one 4 true, .one 5 true, .one 6 true, .one 7 true, .one 8 true] follows_any (by kernel_rfl) rfl (by kernel_rfl) rfl ?_) | refine hd_draw follows_any (by decide +kernel) ?_) | (refine is_cd ?_; first | (refine hd_condT (by exact aX) (by (first | rfl | (simp only [decide_eq_true_eq, decide_eq_false_iff_not]; omega) | fail)) ?_) | (refine hd_condF (by exact aX) (by (first | rfl | (simp only [decide_eq_true_eq, decide_eq_false_iff_not]; omega) | fail)) ?_) | (refine hd_cond (by exact aX) (fun _ => ?_) (fun _ => ?_))) | fail | refine wkA ?_) | refine wkA ?_ | (refine is_ch ?_; refine ch_opAB ?_) | ((first | apply hd_ok | apply ch_ok); (focus ((first | (apply OK.plain; rfl) | (apply OK.guarded; rfl; rfl; (intro hg; (try have hk := hg.2); (try have hl := hg.2.2); (try have hm := hg.2.2.2)))); (first | (apply od_call; exact aX; infer_instance; exact aE; exact aN; (focus (first | fail))) ))); rfl; rfl) | fail | fail | exact tsA | fail | (refine ts_step rfl (fun HF h1 hle => ?_)) | fail | fail)
      · rename_i hd
        ((repeat (refine hd_undefer (by first | exact .inl rfl | exact .inr rfl) (by exact aP) ?_)); apply hd_res0; (focus (first | exact .inl rfl | exact .inr rfl)); rfl; exact aR)
        refine ret_bool ?_
        simp at hd
        simp [take_neq hy1 hy2 (sp_ne hd)]
      · rename_i hd
        simp at hd
        refine hd_again (i + 1) ⟨by omega, takeq_step hy1 hy2 hi.2 (sp_eq hd)⟩ (by omega) (by exact aU) (fun w hw => inv_only .nil hw)
    · simp only [decide_eq_false_iff_not] at hlt
      repeat' (first | (refine is_pu ?_ (by rfl); first  | fail | refine hd_opAB ?_ | fail) | (refine is_pn ?_; first | refine hd_pn_nil ?_ | fail  | fail | refine hd_pnAB ?_ | fail | (refine hd_pn_op rfl ?_)) | (refine is_co ?_; first | fail  | ((first | apply hd_ok | apply ch_ok); (focus ((first | (apply OK.plain; rfl) | (apply OK.guarded; rfl; rfl; (intro hg; (try have hk := hg.2); (try have hl := hg.2.2); (try have hm := hg.2.2.2)))); (first | (apply od_call; exact aX; infer_instance; exact aE; exact aN; (focus (first | fail))) ))); rfl; rfl) | refine hd_storeA ?_ | refine hd_boxA (fun _ => ?_) | refine hd_alloc rfl (fun _ => ?_) | refine hd_makeA (fun _ => ?_) | refine hd_copyA ?_ | refine hd_litA (fun _ => ?_) | refine hd_appendA (fun _ _ => ?_) | refine hd_storeRA ?_) | (refine is_ni ?_; first | (refine is_on ?_; first | refine pn_barA ?_ | refine pn_goA ?_ | refine pt_goA ?_  | refine ts_onA ?_) | refine hd_nil ?_) | (refine is_cw ?_; first | (refine is_rg ?_; first | fail | (refine hd_planT (id := 6) _ [] [.one 0 true, .one 1 true, .one 2 true, .one 3 true, .one 4 true, .one 5 true, .one 6 true, .one 7 true, .one 8 true] follows_any (by kernel_rfl) rfl (by kernel_rfl) rfl ?_) | refine hd_draw follows_any (by decide +kernel) ?_) | (refine is_cd ?_; first | (refine hd_condT (by exact aX) (by (first | rfl | (simp only [decide_eq_true_eq, decide_eq_false_iff_not]; omega) | fail)) ?_) | (refine hd_condF (by exact aX) (by (first | rfl | (simp only [decide_eq_true_eq, decide_eq_false_iff_not]; omega) | fail)) ?_) | (refine hd_cond (by exact aX) (fun _ => ?_) (fun _ => ?_))) | fail | refine wkA ?_) | refine wkA ?_ | (refine is_ch ?_; refine ch_opAB ?_) | ((first | apply hd_ok | apply ch_ok); (focus ((first | (apply OK.plain; rfl) | (apply OK.guarded; rfl; rfl; (intro hg; (try have hk := hg.2); (try have hl := hg.2.2); (try have hm := hg.2.2.2)))); (first | (apply od_call; exact aX; infer_instance; exact aE; exact aN; (focus (first | fail))) ))); rfl; rfl) | fail | fail | exact tsA | fail | (refine ts_step rfl (fun HF h1 hle => ?_)) | fail | fail)
      ((repeat (refine hd_undefer (by first | exact .inl rfl | exact .inr rfl) (by exact aP) ?_)); apply hd_res0; (focus (first | exact .inl rfl | exact .inr rfl)); rfl; exact aR)
      refine ret_bool ?_
      have e := hi.2
      rw [List.take_of_length_le (by omega), List.take_of_length_le (by omega)] at e
      simp [e]
--%set FIRST
theorem all_take_false {α : Type} {xs : List α} {i : Nat} {f : α → Bool} (h : (xs.take i).all f = false) : xs.all f = false := by
  cases e : xs.all f with
  | false => rfl
  | true =>
    rw [List.all_eq_true] at e
    have : (xs.take i).all f = true := by rw [List.all_eq_true]; exact fun x hx => e x (List.mem_of_mem_take hx)
    rw [this] at h; cases h
theorem all_stepB {α : Type} {xs : List α} {i : Nat} {x : α} {f : α → Bool} (hx : xs[i]? = some x) : (xs.take (i + 1)).all f = ((xs.take i).all f && f x) := by
  rw [take_step hx, List.all_append]; simp
end Go.Proofs.Ytbdkokkmheobdaa
