/- What package score yields, and the document's answer. -/
import Derived.Test.YtddhljoglhfhdaaFilt
import Derived.Test.YtddhljoglhfhdaaScoreP
namespace Go.Proofs.Ytddhljoglhfhdaa
open Go Go.GV
attribute [local irreducible] cw Go.GV.SpecM Go.GV.wpList Exit.then Exit.inBlock Go.GV.bodyPost wpPl wpPm wpPn TS rnd rPost YieldsB wpPT ptK
set_option maxRecDepth 10000
set_option maxHeartbeats 4000000
set_option linter.unusedVariables false
set_option linter.unusedSimpArgs false
--%set FIRST
theorem score_quarter {a b c d : Int} (h : PH) (h1 : -2147483648 ≤ a) (h2 : b ≤ 2147483647) (h3 : a ≤ c) (h4 : c ≤ d) (h5 : d ≤ b) : Det Try.prog 46 #[.agg #[.int .i32 a, .int .i32 b], .agg #[.int .i32 c, .int .i32 d]] h (.int .i64 (quart (a, b) (c, d))) := by
  refine spec_enter (args := [_, _]) Try.func46 rfl Try.ntmps46 rfl (fun w l => ?_)
  repeat' (first | fail | fail | refine wkA ?_ | fail | fail | refine hd_draw follows_any (by decide +kernel) ?_ | (refine is_on ?_; first | refine ts_onA ?_ | refine pn_barA ?_ | refine pn_goA ?_ | refine pt_goA ?_) | refine hd_nil ?_ | exact tsA | fail | (refine hd_condT (by exact aX) (by (first | rfl | (simp only [decide_eq_true_eq, decide_eq_false_iff_not]; omega) | fail)) ?_) | (refine hd_condF (by exact aX) (by (first | rfl | (simp only [decide_eq_true_eq, decide_eq_false_iff_not]; omega) | fail)) ?_) | (refine hd_cond (by exact aX) (fun _ => ?_) (fun _ => ?_))  | fail | refine hd_opA ?_ | refine ch_opA ?_ | refine hd_pnA ?_ | fail | ((first | apply hd_ok | apply ch_ok); (focus ((first | (apply OK.plain; rfl) | (apply OK.guarded; rfl; rfl; (intro hg; (try have hk := hg.2); (try have hl := hg.2.2); (try have hm := hg.2.2.2)))); (first | (apply od_call; exact aX; infer_instance; exact aE; exact aN; (focus (first | fail))) ))); rfl; rfl) | (refine hd_pn_op rfl ?_) | (refine ts_step rfl (fun HF h1 hle => ?_)) | refine hd_storeA ?_ | refine hd_boxA (fun _ => ?_) | refine hd_alloc rfl (fun _ => ?_) | refine hd_makeA (fun _ => ?_) | refine hd_copyA ?_ | refine hd_litA (fun _ => ?_) | refine hd_appendA (fun _ _ => ?_) | refine hd_storeRA ?_)
  ((repeat (refine hd_undefer (by first | exact .inl rfl | exact .inr rfl) (by exact aP) ?_)); apply hd_res0; (focus (first | exact .inl rfl | exact .inr rfl)); rfl; exact aR)
  exact ret_int (by unfold quart; rfl)
theorem score_Key {p q : Option Addr} {n c m d : Nat} {s f : List Sp} (h : PH) (hs : SlS h p n c s) (hf : SlS h q m d f) (hr : right s = true) (hrf : rightF s f = true) : Det Try.prog 39 #[.slice p n c, .slice q m d] h (.int .u8 (keyF s f)) := by
  have ls := hs.len
  have lf := hf.len
  have ts := hs.top
  have tf := hf.top
  obtain ⟨hz1, hz2, hz3⟩ := right_zip hr hrf
  refine spec_enter (args := [_, _]) Try.func39 rfl Try.ntmps39 rfl (fun w l => ?_)
  repeat' (first | fail | fail | refine wkA ?_ | fail | fail | refine hd_draw follows_any (by decide +kernel) ?_ | (refine is_on ?_; first | refine ts_onA ?_ | refine pn_barA ?_ | refine pn_goA ?_ | refine pt_goA ?_) | refine hd_nil ?_ | exact tsA | fail | (refine hd_condT (by exact aX) (by (first | rfl | (simp only [decide_eq_true_eq, decide_eq_false_iff_not]; omega) | fail)) ?_) | (refine hd_condF (by exact aX) (by (first | rfl | (simp only [decide_eq_true_eq, decide_eq_false_iff_not]; omega) | fail)) ?_) | (refine hd_cond (by exact aX) (fun _ => ?_) (fun _ => ?_))  | fail | refine hd_opA ?_ | refine ch_opA ?_ | refine hd_pnA ?_ | fail | ((first | apply hd_ok | apply ch_ok); (focus ((first | (apply OK.plain; rfl) | (apply OK.guarded; rfl; rfl; (intro hg; (try have hk := hg.2); (try have hl := hg.2.2); (try have hm := hg.2.2.2)))); (first | (apply od_call; exact aX; infer_instance; exact aE; exact aN; (focus (first | exact score_quarter _ hx1.1 hx2.2 hq.1 hq.2.1 hq.2.2))) ))); rfl; rfl) | (refine hd_pn_op rfl ?_) | (refine ts_step rfl (fun HF h1 hle => ?_)) | refine hd_storeA ?_ | refine hd_boxA (fun _ => ?_) | refine hd_alloc rfl (fun _ => ?_) | refine hd_makeA (fun _ => ?_) | refine hd_copyA ?_ | refine hd_litA (fun _ => ?_) | refine hd_appendA (fun _ _ => ?_) | refine hd_storeRA ?_)
  refine hd_loopS (ι := Nat) (fun i => i ≤ min n m) (fun i => [(0, [], .slice p n c), (1, [], .slice q m d), (5, [], .int .i64 (((s.zip f).take i).foldl keyStep 0)), (11, [], .int .i64 (min (n : Int) m)), (12, [], .int .i64 i)]) (fun _ => []) (fun _ => h) (fun i => min n m - i) 0 (by simp) (by exact aU) (fun _ hw => hw) (fun i hi => ?_)
  have hkb := key_take hz1 hz2 i
  refine hd_split (c := decide (i < min n m)) (fun hlt => ?_) (fun hlt => ?_)
  · simp only [decide_eq_true_eq] at hlt
    obtain ⟨x, hx⟩ := get_of (i := i) ls (by omega)
    obtain ⟨hpub, hx1, hx2, hptr⟩ := SlS_at hs hx
    obtain ⟨y, hy⟩ := get_of (i := i) lf (by omega)
    obtain ⟨hpub2, hy1, hy2, hptr2⟩ := SlS_at hf hy
    have hz := zip_at hx hy
    have hq := rgb_q (List.all_eq_true.1 hz1 _ (List.mem_of_getElem? hz))
    have hqb := quart_bd hq.1 hq.2.1 hq.2.2
    simp only at hq hqb
    repeat' (first | fail | fail | refine wkA ?_ | fail | fail | refine hd_draw follows_any (by decide +kernel) ?_ | (refine is_on ?_; first | refine ts_onA ?_ | refine pn_barA ?_ | refine pn_goA ?_ | refine pt_goA ?_) | refine hd_nil ?_ | exact tsA | fail | (refine hd_condT (by exact aX) (by (first | rfl | (simp only [decide_eq_true_eq, decide_eq_false_iff_not]; omega) | fail)) ?_) | (refine hd_condF (by exact aX) (by (first | rfl | (simp only [decide_eq_true_eq, decide_eq_false_iff_not]; omega) | fail)) ?_) | (refine hd_cond (by exact aX) (fun _ => ?_) (fun _ => ?_))  | fail | refine hd_opA ?_ | refine ch_opA ?_ | refine hd_pnA ?_ | fail | ((first | apply hd_ok | apply ch_ok); (focus ((first | (apply OK.plain; rfl) | (apply OK.guarded; rfl; rfl; (intro hg; (try have hk := hg.2); (try have hl := hg.2.2); (try have hm := hg.2.2.2)))); (first | (apply od_call; exact aX; infer_instance; exact aE; exact aN; (focus (first | exact score_quarter _ hx1.1 hx2.2 hq.1 hq.2.1 hq.2.2))) ))); rfl; rfl) | (refine hd_pn_op rfl ?_) | (refine ts_step rfl (fun HF h1 hle => ?_)) | refine hd_storeA ?_ | refine hd_boxA (fun _ => ?_) | refine hd_alloc rfl (fun _ => ?_) | refine hd_makeA (fun _ => ?_) | refine hd_copyA ?_ | refine hd_litA (fun _ => ?_) | refine hd_appendA (fun _ _ => ?_) | refine hd_storeRA ?_)
    refine hd_again (i + 1) (by omega) (by omega) (by rw [take_step hz, List.foldl_append]; exact aU) (fun w hw => inv_only .nil hw)
  · simp only [decide_eq_false_iff_not] at hlt
    have hik : i = min n m := by omega
    subst hik
    rw [List.take_of_length_le (by simp; omega)] at hkb
    rw [List.take_of_length_le (by simp; omega)]
    repeat' (first | fail | fail | refine wkA ?_ | fail | fail | refine hd_draw follows_any (by decide +kernel) ?_ | (refine is_on ?_; first | refine ts_onA ?_ | refine pn_barA ?_ | refine pn_goA ?_ | refine pt_goA ?_) | refine hd_nil ?_ | exact tsA | fail | (refine hd_condT (by exact aX) (by (first | rfl | (simp only [decide_eq_true_eq, decide_eq_false_iff_not]; omega) | fail)) ?_) | (refine hd_condF (by exact aX) (by (first | rfl | (simp only [decide_eq_true_eq, decide_eq_false_iff_not]; omega) | fail)) ?_) | (refine hd_cond (by exact aX) (fun _ => ?_) (fun _ => ?_))  | fail | refine hd_opA ?_ | refine ch_opA ?_ | refine hd_pnA ?_ | fail | ((first | apply hd_ok | apply ch_ok); (focus ((first | (apply OK.plain; rfl) | (apply OK.guarded; rfl; rfl; (intro hg; (try have hk := hg.2); (try have hl := hg.2.2); (try have hm := hg.2.2.2)))); (first | (apply od_call; exact aX; infer_instance; exact aE; exact aN; (focus (first | exact score_quarter _ hx1.1 hx2.2 hq.1 hq.2.1 hq.2.2))) ))); rfl; rfl) | (refine hd_pn_op rfl ?_) | (refine ts_step rfl (fun HF h1 hle => ?_)) | refine hd_storeA ?_ | refine hd_boxA (fun _ => ?_) | refine hd_alloc rfl (fun _ => ?_) | refine hd_makeA (fun _ => ?_) | refine hd_copyA ?_ | refine hd_litA (fun _ => ?_) | refine hd_appendA (fun _ _ => ?_) | refine hd_storeRA ?_)
    ((repeat (refine hd_undefer (by first | exact .inl rfl | exact .inr rfl) (by exact aP) ?_)); apply hd_res0; (focus (first | exact .inl rfl | exact .inr rfl)); rfl; exact aR)
    exact ret_int (by rfl)
theorem ref6_Key {p q : Option Addr} {n c m d : Nat} {s f : List Sp} (h : PH) (hs : SlS h p n c s) (hf : SlS h q m d f) (hr : right s = true) (hrf : rightF s f = true) : Det Try.prog 41 #[.slice p n c, .slice q m d] h (.int .u8 (keyF s f)) := by
  have ls := hs.len
  have lf := hf.len
  have ts := hs.top
  have tf := hf.top
  obtain ⟨hz1, hz2, hz3⟩ := right_zip hr hrf
  refine spec_enter (args := [_, _]) Try.func41 rfl Try.ntmps41 rfl (fun w l => ?_)
  repeat' (first | fail | fail | refine wkA ?_ | fail | fail | refine hd_draw follows_any (by decide +kernel) ?_ | (refine is_on ?_; first | refine ts_onA ?_ | refine pn_barA ?_ | refine pn_goA ?_ | refine pt_goA ?_) | refine hd_nil ?_ | exact tsA | fail | (refine hd_condT (by exact aX) (by (first | rfl | (simp only [decide_eq_true_eq, decide_eq_false_iff_not]; omega) | fail)) ?_) | (refine hd_condF (by exact aX) (by (first | rfl | (simp only [decide_eq_true_eq, decide_eq_false_iff_not]; omega) | fail)) ?_) | (refine hd_cond (by exact aX) (fun _ => ?_) (fun _ => ?_))  | fail | refine hd_opA ?_ | refine ch_opA ?_ | refine hd_pnA ?_ | fail | ((first | apply hd_ok | apply ch_ok); (focus ((first | (apply OK.plain; rfl) | (apply OK.guarded; rfl; rfl; (intro hg; (try have hk := hg.2); (try have hl := hg.2.2); (try have hm := hg.2.2.2)))); (first | (apply od_call; exact aX; infer_instance; exact aE; exact aN; (focus (first | exact score_quarter _ hx1.1 hx2.2 hq.1 hq.2.1 hq.2.2))) ))); rfl; rfl) | (refine hd_pn_op rfl ?_) | (refine ts_step rfl (fun HF h1 hle => ?_)) | refine hd_storeA ?_ | refine hd_boxA (fun _ => ?_) | refine hd_alloc rfl (fun _ => ?_) | refine hd_makeA (fun _ => ?_) | refine hd_copyA ?_ | refine hd_litA (fun _ => ?_) | refine hd_appendA (fun _ _ => ?_) | refine hd_storeRA ?_)
  · rename_i hc
    simp at hc
    ((repeat (refine hd_undefer (by first | exact .inl rfl | exact .inr rfl) (by exact aP) ?_)); apply hd_res0; (focus (first | exact .inl rfl | exact .inr rfl)); rfl; exact aR)
    have : f = [] := List.length_eq_zero_iff.1 (by omega)
    exact ret_int (by rw [this]; simp [keyF])
  rename_i hc
  have hmn : m = n ∧ m ≠ 0 := by simp at hc; omega
  obtain ⟨rfl, hm0⟩ := hmn
  refine hd_loopS (ι := Nat) (fun i => i ≤ m) (fun i => [(0, [], .slice p m c), (1, [], .slice q m d), (5, [], .int .i64 (((s.zip f).take i).foldl keyStep 0)), (6, [], .int .i64 i)]) (fun _ => []) (fun _ => h) (fun i => m - i) 0 (by simp) (by exact aU) (fun _ hw => hw) (fun i hi => ?_)
  have hkb := key_take hz1 hz2 i
  refine hd_split (c := decide (i < m)) (fun hlt => ?_) (fun hlt => ?_)
  · simp only [decide_eq_true_eq] at hlt
    obtain ⟨x, hx⟩ := get_of (i := i) ls (by omega)
    obtain ⟨hpub, hx1, hx2, hptr⟩ := SlS_at hs hx
    obtain ⟨y, hy⟩ := get_of (i := i) lf (by omega)
    obtain ⟨hpub2, hy1, hy2, hptr2⟩ := SlS_at hf hy
    have hz := zip_at hx hy
    have hq := rgb_q (List.all_eq_true.1 hz1 _ (List.mem_of_getElem? hz))
    have hqb := quart_bd hq.1 hq.2.1 hq.2.2
    simp only at hq hqb
    have ht1 := tdiv_or (y.1 + y.2) 2
    have ht2 := tmod_or (y.1 + y.2) 2
    repeat' (first | fail | fail | refine wkA ?_ | fail | fail | refine hd_draw follows_any (by decide +kernel) ?_ | (refine is_on ?_; first | refine ts_onA ?_ | refine pn_barA ?_ | refine pn_goA ?_ | refine pt_goA ?_) | refine hd_nil ?_ | exact tsA | fail | (refine hd_condT (by exact aX) (by (first | rfl | (simp only [decide_eq_true_eq, decide_eq_false_iff_not]; omega) | fail)) ?_) | (refine hd_condF (by exact aX) (by (first | rfl | (simp only [decide_eq_true_eq, decide_eq_false_iff_not]; omega) | fail)) ?_) | (refine hd_cond (by exact aX) (fun _ => ?_) (fun _ => ?_))  | fail | refine hd_opA ?_ | refine ch_opA ?_ | refine hd_pnA ?_ | fail | ((first | apply hd_ok | apply ch_ok); (focus ((first | (apply OK.plain; rfl) | (apply OK.guarded; rfl; rfl; (intro hg; (try have hk := hg.2); (try have hl := hg.2.2); (try have hm := hg.2.2.2)))); (first | (apply od_call; exact aX; infer_instance; exact aE; exact aN; (focus (first | exact score_quarter _ hx1.1 hx2.2 hq.1 hq.2.1 hq.2.2))) ))); rfl; rfl) | (refine hd_pn_op rfl ?_) | (refine ts_step rfl (fun HF h1 hle => ?_)) | refine hd_storeA ?_ | refine hd_boxA (fun _ => ?_) | refine hd_alloc rfl (fun _ => ?_) | refine hd_makeA (fun _ => ?_) | refine hd_copyA ?_ | refine hd_litA (fun _ => ?_) | refine hd_appendA (fun _ _ => ?_) | refine hd_storeRA ?_)
    all_goals rename_i hcm
    all_goals simp at hcm
    all_goals (refine hd_loopS (ι := Nat) (fun k => (k : Int) * (x.2 - x.1 + 1) ≤ 4 * ((y.1 + y.2) / 2 - x.1)) (fun k => [(0, [], .slice p m c), (1, [], .slice q m d), (5, [], .int .i64 (((s.zip f).take i).foldl keyStep 0)), (6, [], .int .i64 i), (8, [], .int .i64 ((y.1 + y.2) / 2)), (9, [], .int .i64 (x.2 - x.1 + 1)), (10, [], .int .i64 k)]) (fun _ => []) (fun _ => h) (fun k => 4 - k) 0 (by simp; omega) (by exact aU) (fun _ hw => inv_only .nil hw) (fun k hk => ?_))
    all_goals have hkq : (k : Int) ≤ quart x y := quart_le (by omega) hk
    all_goals have hmb := qmul_bd (q := k) (L := x.2 - x.1 + 1) (by omega) (by omega) (by omega) (by omega)
    all_goals repeat' (first | fail | fail | refine wkA ?_ | fail | fail | refine hd_draw follows_any (by decide +kernel) ?_ | (refine is_on ?_; first | refine ts_onA ?_ | refine pn_barA ?_ | refine pn_goA ?_ | refine pt_goA ?_) | refine hd_nil ?_ | exact tsA | fail | (refine hd_condT (by exact aX) (by (first | rfl | (simp only [decide_eq_true_eq, decide_eq_false_iff_not]; omega) | fail)) ?_) | (refine hd_condF (by exact aX) (by (first | rfl | (simp only [decide_eq_true_eq, decide_eq_false_iff_not]; omega) | fail)) ?_) | (refine hd_cond (by exact aX) (fun _ => ?_) (fun _ => ?_))  | fail | refine hd_opA ?_ | refine ch_opA ?_ | refine hd_pnA ?_ | fail | ((first | apply hd_ok | apply ch_ok); (focus ((first | (apply OK.plain; rfl) | (apply OK.guarded; rfl; rfl; (intro hg; (try have hk := hg.2); (try have hl := hg.2.2); (try have hm := hg.2.2.2)))); (first | (apply od_call; exact aX; infer_instance; exact aE; exact aN; (focus (first | exact score_quarter _ hx1.1 hx2.2 hq.1 hq.2.1 hq.2.2))) ))); rfl; rfl) | (refine hd_pn_op rfl ?_) | (refine ts_step rfl (fun HF h1 hle => ?_)) | refine hd_storeA ?_ | refine hd_boxA (fun _ => ?_) | refine hd_alloc rfl (fun _ => ?_) | refine hd_makeA (fun _ => ?_) | refine hd_copyA ?_ | refine hd_litA (fun _ => ?_) | refine hd_appendA (fun _ _ => ?_) | refine hd_storeRA ?_)
    all_goals rename_i hd
    all_goals simp at hd
    all_goals first
      | (refine hd_again (k + 1) (by simpa using hd) (by omega) (by exact aU) (fun w hw => inv_only .nil hw))
      | skip
    all_goals have hqe := quart_end (r := x) (s := y) (by omega) hk hd
    all_goals repeat' (first | fail | fail | refine wkA ?_ | fail | fail | refine hd_draw follows_any (by decide +kernel) ?_ | (refine is_on ?_; first | refine ts_onA ?_ | refine pn_barA ?_ | refine pn_goA ?_ | refine pt_goA ?_) | refine hd_nil ?_ | exact tsA | fail | (refine hd_condT (by exact aX) (by (first | rfl | (simp only [decide_eq_true_eq, decide_eq_false_iff_not]; omega) | fail)) ?_) | (refine hd_condF (by exact aX) (by (first | rfl | (simp only [decide_eq_true_eq, decide_eq_false_iff_not]; omega) | fail)) ?_) | (refine hd_cond (by exact aX) (fun _ => ?_) (fun _ => ?_))  | fail | refine hd_opA ?_ | refine ch_opA ?_ | refine hd_pnA ?_ | fail | ((first | apply hd_ok | apply ch_ok); (focus ((first | (apply OK.plain; rfl) | (apply OK.guarded; rfl; rfl; (intro hg; (try have hk := hg.2); (try have hl := hg.2.2); (try have hm := hg.2.2.2)))); (first | (apply od_call; exact aX; infer_instance; exact aE; exact aN; (focus (first | exact score_quarter _ hx1.1 hx2.2 hq.1 hq.2.1 hq.2.2))) ))); rfl; rfl) | (refine hd_pn_op rfl ?_) | (refine ts_step rfl (fun HF h1 hle => ?_)) | refine hd_storeA ?_ | refine hd_boxA (fun _ => ?_) | refine hd_alloc rfl (fun _ => ?_) | refine hd_makeA (fun _ => ?_) | refine hd_copyA ?_ | refine hd_litA (fun _ => ?_) | refine hd_appendA (fun _ _ => ?_) | refine hd_storeRA ?_)
    all_goals (refine hd_again (i + 1) (by omega) (by omega) (by rw [take_step hz, List.foldl_append, List.foldl_cons, List.foldl_nil, keyStep, ← hqe]; exact aU) (fun w hw => inv_only .nil hw))
  · simp only [decide_eq_false_iff_not] at hlt
    have hik : i = m := by omega
    subst hik
    rw [List.take_of_length_le (by simp; omega)] at hkb
    rw [List.take_of_length_le (by simp; omega)]
    repeat' (first | fail | fail | refine wkA ?_ | fail | fail | refine hd_draw follows_any (by decide +kernel) ?_ | (refine is_on ?_; first | refine ts_onA ?_ | refine pn_barA ?_ | refine pn_goA ?_ | refine pt_goA ?_) | refine hd_nil ?_ | exact tsA | fail | (refine hd_condT (by exact aX) (by (first | rfl | (simp only [decide_eq_true_eq, decide_eq_false_iff_not]; omega) | fail)) ?_) | (refine hd_condF (by exact aX) (by (first | rfl | (simp only [decide_eq_true_eq, decide_eq_false_iff_not]; omega) | fail)) ?_) | (refine hd_cond (by exact aX) (fun _ => ?_) (fun _ => ?_))  | fail | refine hd_opA ?_ | refine ch_opA ?_ | refine hd_pnA ?_ | fail | ((first | apply hd_ok | apply ch_ok); (focus ((first | (apply OK.plain; rfl) | (apply OK.guarded; rfl; rfl; (intro hg; (try have hk := hg.2); (try have hl := hg.2.2); (try have hm := hg.2.2.2)))); (first | (apply od_call; exact aX; infer_instance; exact aE; exact aN; (focus (first | exact score_quarter _ hx1.1 hx2.2 hq.1 hq.2.1 hq.2.2))) ))); rfl; rfl) | (refine hd_pn_op rfl ?_) | (refine ts_step rfl (fun HF h1 hle => ?_)) | refine hd_storeA ?_ | refine hd_boxA (fun _ => ?_) | refine hd_alloc rfl (fun _ => ?_) | refine hd_makeA (fun _ => ?_) | refine hd_copyA ?_ | refine hd_litA (fun _ => ?_) | refine hd_appendA (fun _ _ => ?_) | refine hd_storeRA ?_)
    ((repeat (refine hd_undefer (by first | exact .inl rfl | exact .inr rfl) (by exact aP) ?_)); apply hd_res0; (focus (first | exact .inl rfl | exact .inr rfl)); rfl; exact aR)
    exact ret_int (by rfl)
end Go.Proofs.Ytddhljoglhfhdaa
