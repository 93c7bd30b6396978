/- What the laws of layer 20 share: Few. -/
import Derived.Test.YtmpfeaoofkkhjaaGreatMgM
namespace Go.Proofs.YtmpfeaoofkkhjaaGreat
open Go Go.GV
attribute [local irreducible] cw Go.GV.SpecM Go.GV.wpList Exit.then Exit.inBlock Go.GV.bodyPost wpPl wpPm wpPn TS rnd rPost YieldsB wpPT ptK
set_option maxRecDepth 10000
set_option maxHeartbeats 8000000
set_option linter.unusedVariables false
set_option linter.unusedSimpArgs false

def smD (d : DsT) : Bool := decide (d.2.2.2.length ≤ 8)
def fewM (m : MsD) : Bool := decide (m.list.length ≤ 70) && decide (m.table.length ≤ 20) && decide (m.marks.length ≤ 20) && decide (m.ids.length ≤ 260) && decide (m.ev.2.1.length ≤ 8) && decide (m.ev.2.2.length ≤ 70) && m.list.all smD
theorem pvMgF1 {A : Prop} (h : A := by (first | rfl | (simp only [decide_eq_true_eq, decide_eq_false_iff_not]; omega) | fail)) : A := h
theorem zMgF1 {A : Prop} (h : A := by ((first | (apply OK.plain; rfl) | (apply OK.guarded; rfl; rfl; (intro hg; (try have hk := hg.2); (try have hl := hg.2.2); (try have hm := hg.2.2.2)))); (first | (apply od_call; exact aX; infer_instance; exact aE; exact aN; (focus (first | fail))) ))) : A := h
theorem wMgF1 {A B : Prop} (k : B) (h : Kx B → A := by intro k; (first | (refine is_pu ?_ (by rfl); first | refine hd_opAB ?_) | (refine is_pn ?_; first | refine hd_pn_nil ?_ | refine hd_pnAB ?_ | (refine hd_pn_op rfl ?_)) | (refine is_co ?_; first | ((first | apply hd_ok | apply ch_ok); (focus exact zMgF1); rfl; rfl) | refine hd_storeA ?_ | refine hd_copyA ?_ | refine hd_storeRA ?_) | (refine is_ni ?_; first | (refine is_on ?_; first | refine pn_barA ?_ | refine pn_goA ?_ | refine pt_goA ?_ | refine ts_onA ?_) | refine hd_nil ?_) | refine wkA ?_ | (refine is_ch ?_; refine ch_opAB ?_) | ((first | apply hd_ok | apply ch_ok); (focus exact zMgF1); rfl; rfl)); exact k.go) : A := h ⟨k⟩
theorem wMgF2 {A B : Prop} (k : B) (h : Kx B → A := by intro k; ((refine is_cw ?_; refine is_rg ?_; first | refine hd_draw follows_any (by decide +kernel) ?_)); exact k.go) : A := h ⟨k⟩
theorem wMgF3 {A B : Prop} (k : B) (h : Kx B → A := by intro k; ((refine is_cw ?_; refine is_cd ?_; first | (refine hd_condT (by exact aX) (by exact pvMgF1) ?_) | (refine hd_condF (by exact aX) (by exact pvMgF1) ?_))); exact k.go) : A := h ⟨k⟩
theorem law_Few {p : Option Addr} {n c : Nat} {xs : List MsD} (h : PH) (hx : SlR rMsg h p n c xs) : Det Tryz.prog 7 #[.slice p n c] h (.bool (xs.all fewM)) := by
  have hl := hx.len
  have ht := hx.top
  refine spec_enter (args := [_]) Tryz.func7 rfl Tryz.ntmps7 rfl (fun w l => ?_)
  repeat' (first | refine wMgF2 ?_ | refine wMgF3 ?_ | (refine is_cd ?_; first | refine hd_condA (fun _ => ?_) (fun _ => ?_)) | refine wMgF1 ?_ | refine wkB (fun _ => ?_) | refine wkC (fun _ _ => ?_) | exact tsA | (refine ts_step rfl (fun HF h1 hle => ?_)))
  refine hd_loopS (ι := Nat) (fun i => i ≤ n ∧ (xs.take i).all fewM = true) (fun i => [(7, [], .slice p n c), (8, [], .int .i64 n), (9, [], .int .i64 i)]) (fun _ => []) (fun _ => h) (fun i => n - i) 0 (by simp) (by exact aU) (fun _ hw => hw) (fun i hi => ?_)
  refine hd_split (c := decide (i < n)) (fun hlt => ?_) (fun hlt => ?_)
  · simp only [decide_eq_true_eq] at hlt
    obtain ⟨m, hy1⟩ := get_of hl hlt
    obtain ⟨cs1, hpub, hok1, hptr⟩ := hx.at hy1
    obtain ⟨a, rfl, hv⟩ := rMsg_ok hok1
    unfold MsP.cs at hpub
    have l1 := hv.list.len
    have l2 := hv.table.len
    have l3 := hv.marks.len
    have l4 := hv.ids.len
    have l5 := hv.vals.len
    have l6 := hv.data.len
    have ht1 := hv.list.top
    repeat' (first | refine wMgF2 ?_ | refine wMgF3 ?_ | (refine is_cd ?_; first | refine hd_condA (fun _ => ?_) (fun _ => ?_)) | refine wMgF1 ?_ | refine wkB (fun _ => ?_) | refine wkC (fun _ _ => ?_) | exact tsA | (refine ts_step rfl (fun HF h1 hle => ?_)))
    · rename_i hd
      ((repeat (refine hd_undefer (by first | exact .inl rfl | exact .inr rfl) (by exact aP) ?_)); apply hd_res0; (focus (first | exact .inl rfl | exact .inr rfl)); rfl; exact aR)
      refine ret_bool ?_
      simp only [Bool.or_eq_true, decide_eq_true_eq] at hd
      rw [all_not hy1 (by simp only [fewM, l1, l2, l3, l4, l5, l6, Bool.and_eq_false_iff, decide_eq_false_iff_not]; omega)]
    · rename_i hd
      simp only [Bool.or_eq_false_iff, decide_eq_false_iff_not] at hd
      refine hd_loopS (ι := Nat) (fun j => j ≤ a.nl ∧ (m.list.take j).all smD = true) (fun j => [(7, [], .slice p n c), (8, [], .int .i64 n), (9, [], .int .i64 i), (50, [], .slice a.pl a.nl a.cl), (51, [], .int .i64 a.nl), (52, [], .int .i64 j)]) (fun _ => []) (fun _ => h) (fun j => a.nl - j) 0 (by simp) (by exact aU) (fun w hw => inv_only .nil hw) (fun j hj => ?_)
      refine hd_split (c := decide (j < a.nl)) (fun hlt2 => ?_) (fun hlt2 => ?_)
      · simp only [decide_eq_true_eq] at hlt2
        obtain ⟨y2, hy2⟩ := get_of l1 hlt2
        obtain ⟨cs2, hpub2, hok2, hptr2⟩ := hv.list.at hy2
        obtain ⟨pf2, nf2, cf2, rfl, hf2, _⟩ := rDs_ok hok2
        have l7 := hf2.len
        repeat' (first | refine wMgF2 ?_ | refine wMgF3 ?_ | (refine is_cd ?_; first | refine hd_condA (fun _ => ?_) (fun _ => ?_)) | refine wMgF1 ?_ | refine wkB (fun _ => ?_) | refine wkC (fun _ _ => ?_) | exact tsA | (refine ts_step rfl (fun HF h1 hle => ?_)))
        · rename_i hd2
          ((repeat (refine hd_undefer (by first | exact .inl rfl | exact .inr rfl) (by exact aP) ?_)); apply hd_res0; (focus (first | exact .inl rfl | exact .inr rfl)); rfl; exact aR)
          refine ret_bool ?_
          simp only [decide_eq_true_eq] at hd2
          rw [all_not hy1 (by rw [fewM, all_not hy2 (by simp only [smD, l7, decide_eq_false_iff_not]; omega), Bool.and_false])]
        · rename_i hd2
          simp only [decide_eq_false_iff_not] at hd2
          exact hd_again (j + 1) ⟨by omega, all_step hy2 hj.2 (by simp only [smD, l7, decide_eq_true_eq]; omega)⟩ (by omega) (by exact aU) (fun w hw => inv_only .nil hw)
      · simp only [decide_eq_false_iff_not] at hlt2
        have e1 := all_end (by omega) hj.2
        repeat' (first | refine wMgF2 ?_ | refine wMgF3 ?_ | (refine is_cd ?_; first | refine hd_condA (fun _ => ?_) (fun _ => ?_)) | refine wMgF1 ?_ | refine wkB (fun _ => ?_) | refine wkC (fun _ _ => ?_) | exact tsA | (refine ts_step rfl (fun HF h1 hle => ?_)))
        exact hd_again (i + 1) ⟨by omega, all_step hy1 hi.2 (by simp only [fewM, l1, l2, l3, l4, l5, l6, e1, Bool.and_true, Bool.and_eq_true, decide_eq_true_eq]; omega)⟩ (by omega) (by exact aU) (fun w hw => inv_only .nil hw)
  · simp only [decide_eq_false_iff_not] at hlt
    repeat' (first | refine wMgF2 ?_ | refine wMgF3 ?_ | (refine is_cd ?_; first | refine hd_condA (fun _ => ?_) (fun _ => ?_)) | refine wMgF1 ?_ | refine wkB (fun _ => ?_) | refine wkC (fun _ _ => ?_) | exact tsA | (refine ts_step rfl (fun HF h1 hle => ?_)))
    ((repeat (refine hd_undefer (by first | exact .inl rfl | exact .inr rfl) (by exact aP) ?_)); apply hd_res0; (focus (first | exact .inl rfl | exact .inr rfl)); rfl; exact aR)
    exact ret_bool (all_end (by omega) hi.2).symm
end Go.Proofs.YtmpfeaoofkkhjaaGreat
