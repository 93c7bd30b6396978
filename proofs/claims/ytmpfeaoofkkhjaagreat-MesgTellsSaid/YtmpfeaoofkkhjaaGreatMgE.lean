/- When messages are the same. Printed by gen_mge.py. -/
import Derived.Test.YtmpfeaoofkkhjaaGreatMgC
namespace Go.Proofs.YtmpfeaoofkkhjaaGreat
open Go Go.GV
attribute [local irreducible] cw Go.GV.SpecM Go.GV.wpList Exit.then Exit.inBlock Go.GV.bodyPost wpPl wpPm wpPn TS rnd rPost YieldsB wpPT ptK
set_option maxRecDepth 10000
set_option maxHeartbeats 8000000
set_option linter.unusedVariables false
set_option linter.unusedSimpArgs false
theorem pvMgE1 {A : Prop} (h : A := by (first | rfl | (simp only [decide_eq_true_eq, decide_eq_false_iff_not]; omega) | fail)) : A := h
theorem take_eq_step {xs ys : List Int} {i : Nat} {x y : Int} (hx : xs[i]? = some x) (hy : ys[i]? = some y) (h1 : xs.take i = ys.take i) (h2 : x = y) : xs.take (i + 1) = ys.take (i + 1) := by
  rw [take_step hx, take_step hy, h1, h2]
theorem take_ne {xs ys : List Int} {i : Nat} {x y : Int} (hx : xs[i]? = some x) (hy : ys[i]? = some y) (h2 : x ≠ y) : xs ≠ ys := fun e => by
  rw [e, hy] at hx; simp at hx; exact h2 hx.symm
theorem zMgE2 {A : Prop} (h : A := by ((first | (apply OK.plain; rfl) | (apply OK.guarded; rfl; rfl; (intro hg; (try have hk := hg.2); (try have hl := hg.2.2); (try have hm := hg.2.2.2)))); (first | (apply od_call; exact aX; infer_instance; exact aE; exact aN; (focus (first | fail))) ))) : A := h
theorem wMgE1 {A B : Prop} (k : B) (h : Kx B → A := by intro k; (first | (refine is_pu ?_ (by rfl); first | refine hd_opAB ?_) | (refine is_pn ?_; first | refine hd_pn_nil ?_ | refine hd_pnAB ?_ | (refine hd_pn_op rfl ?_)) | (refine is_co ?_; first | ((first | apply hd_ok | apply ch_ok); (focus exact zMgE2); rfl; rfl) | refine hd_storeA ?_ | refine hd_copyA ?_ | refine hd_storeRA ?_) | (refine is_ni ?_; first | (refine is_on ?_; first | refine pn_barA ?_ | refine pn_goA ?_ | refine pt_goA ?_ | refine ts_onA ?_) | refine hd_nil ?_) | refine wkA ?_ | (refine is_ch ?_; refine ch_opAB ?_) | ((first | apply hd_ok | apply ch_ok); (focus exact zMgE2); rfl; rfl)); exact k.go) : A := h ⟨k⟩
theorem wMgE2 {A B : Prop} (k : B) (h : Kx B → A := by intro k; ((refine is_cw ?_; refine is_rg ?_; first | (refine hd_planT (id := 6) _ [] [.one 0 true, .one 1 true, .one 2 true, .one 3 true, .one 4 true, .one 5 true, .one 6 true, .one 7 true, .one 8 true] follows_any (by kernel_rfl) rfl (by kernel_rfl) rfl ?_) | refine hd_draw follows_any (by decide +kernel) ?_)); exact k.go) : A := h ⟨k⟩
theorem wMgE3 {A B : Prop} (k : B) (h : Kx B → A := by intro k; ((refine is_cw ?_; refine is_cd ?_; first | (refine hd_condT (by exact aX) (by exact pvMgE1) ?_) | (refine hd_condF (by exact aX) (by exact pvMgE1) ?_))); exact k.go) : A := h ⟨k⟩
theorem slices_Equal {p q : Option Addr} {n c m d : Nat} {xs ys : List Int} (h : PH) (hx : SlV h p n c xs) (hy : SlV h q m d ys) : Det Tryz.prog 96 #[.slice p n c, .slice q m d] h (.bool (decide (xs = ys))) := by
  have hl := hx.len
  have hl2 := hy.len
  have ht := hx.top
  refine spec_enter (args := [_, _]) Tryz.func96 rfl Tryz.ntmps96 rfl (fun w l => ?_)
  repeat' (first | refine wMgE2 ?_ | refine wMgE3 ?_ | (refine is_cd ?_; first | refine hd_condA (fun _ => ?_) (fun _ => ?_)) | refine wMgE1 ?_ | refine wkB (fun _ => ?_) | refine wkC (fun _ _ => ?_) | exact tsA | (refine ts_step rfl (fun HF h1 hle => ?_)))
  · rename_i hc
    ((repeat (refine hd_undefer (by first | exact .inl rfl | exact .inr rfl) (by exact aP) ?_)); apply hd_res0; (focus (first | exact .inl rfl | exact .inr rfl)); rfl; exact aR)
    refine ret_bool ?_
    simp at hc
    simp; intro e; rw [e] at hl; omega
  · rename_i hc
    have hmn : n = m := by simp at hc; omega
    subst hmn
    refine hd_loopS (ι := Nat) (fun i => i ≤ n ∧ xs.take i = ys.take i) (fun i => [(0, [], .slice p n c), (1, [], .slice q n d), (12, [], .int .i64 n), (13, [], .int .i64 i)]) (fun _ => []) (fun _ => h) (fun i => n - i) 0 (by simp) (by exact aU) (fun _ hw => hw) (fun i hi => ?_)
    refine hd_split (c := decide (i < n)) (fun hlt => ?_) (fun hlt => ?_)
    · simp only [decide_eq_true_eq] at hlt
      obtain ⟨y1, hy1⟩ := get_of hl hlt
      obtain ⟨hpub, hr1, hptr⟩ := hx.atI hy1
      obtain ⟨y2, hy2⟩ := get_of hl2 hlt
      obtain ⟨hpub2, hr2, hptr2⟩ := hy.atI hy2
      repeat' (first | refine wMgE2 ?_ | refine wMgE3 ?_ | (refine is_cd ?_; first | refine hd_condA (fun _ => ?_) (fun _ => ?_)) | refine wMgE1 ?_ | refine wkB (fun _ => ?_) | refine wkC (fun _ _ => ?_) | exact tsA | (refine ts_step rfl (fun HF h1 hle => ?_)))
      · rename_i hd
        ((repeat (refine hd_undefer (by first | exact .inl rfl | exact .inr rfl) (by exact aP) ?_)); apply hd_res0; (focus (first | exact .inl rfl | exact .inr rfl)); rfl; exact aR)
        refine ret_bool ?_
        simp at hd
        simp [take_ne hy1 hy2 hd]
      · rename_i hd
        simp at hd
        refine hd_again (i + 1) ⟨by omega, take_eq_step hy1 hy2 hi.2 hd⟩ (by omega) (by exact aU) (fun w hw => hw)
    · simp only [decide_eq_false_iff_not] at hlt
      repeat' (first | refine wMgE2 ?_ | refine wMgE3 ?_ | (refine is_cd ?_; first | refine hd_condA (fun _ => ?_) (fun _ => ?_)) | refine wMgE1 ?_ | refine wkB (fun _ => ?_) | refine wkC (fun _ _ => ?_) | exact tsA | (refine ts_step rfl (fun HF h1 hle => ?_)))
      ((repeat (refine hd_undefer (by first | exact .inl rfl | exact .inr rfl) (by exact aP) ?_)); apply hd_res0; (focus (first | exact .inl rfl | exact .inr rfl)); rfl; exact aR)
      refine ret_bool ?_
      have e := hi.2
      rw [List.take_of_length_le (by omega), List.take_of_length_le (by omega)] at e
      simp [e]

theorem takeq_step {α : Type} {xs ys : List α} {i : Nat} {x y : α} (hx : xs[i]? = some x) (hy : ys[i]? = some y) (h1 : xs.take i = ys.take i) (h2 : x = y) : xs.take (i + 1) = ys.take (i + 1) := by
  rw [take_step hx, take_step hy, h1, h2]
theorem take_neq {α : Type} {xs ys : List α} {i : Nat} {x y : α} (hx : xs[i]? = some x) (hy : ys[i]? = some y) (h2 : x ≠ y) : xs ≠ ys := fun e => by
  rw [e, hy] at hx; simp at hx; exact h2 hx.symm
theorem sp_ne {x y : Sp} (h : eqL [.int .i32 x.1, .int .i32 x.2] [.int .i32 y.1, .int .i32 y.2] = false) : x ≠ y := fun e => by
  subst e; simp [eqL, eqV] at h
theorem sp_eq {x y : Sp} (h : eqL [.int .i32 x.1, .int .i32 x.2] [.int .i32 y.1, .int .i32 y.2] = true) : x = y := by
  simp [eqL, eqV] at h; exact Prod.ext h.1 h.2
theorem slices_EqualF {p q : Option Addr} {n c m d : Nat} {xs ys : List Sp} (h : PH) (hx : SlS h p n c xs) (hy : SlS h q m d ys) : Det Tryz.prog 142 #[.slice p n c, .slice q m d] h (.bool (decide (xs = ys))) := by
  have hl := hx.len
  have hl2 := hy.len
  have ht := hx.top
  refine spec_enter (args := [_, _]) Tryz.func142 rfl Tryz.ntmps142 rfl (fun w l => ?_)
  repeat' (first | refine wMgE2 ?_ | refine wMgE3 ?_ | (refine is_cd ?_; first | refine hd_condA (fun _ => ?_) (fun _ => ?_)) | refine wMgE1 ?_ | refine wkB (fun _ => ?_) | refine wkC (fun _ _ => ?_) | exact tsA | (refine ts_step rfl (fun HF h1 hle => ?_)))
  · rename_i hc
    ((repeat (refine hd_undefer (by first | exact .inl rfl | exact .inr rfl) (by exact aP) ?_)); apply hd_res0; (focus (first | exact .inl rfl | exact .inr rfl)); rfl; exact aR)
    refine ret_bool ?_
    simp at hc
    simp; intro e; rw [e] at hl; omega
  · rename_i hc
    have hmn : n = m := by simp at hc; omega
    subst hmn
    refine hd_loopS (ι := Nat) (fun i => i ≤ n ∧ xs.take i = ys.take i) (fun i => [(0, [], .slice p n c), (1, [], .slice q n d), (12, [], .int .i64 n), (13, [], .int .i64 i)]) (fun _ => []) (fun _ => h) (fun i => n - i) 0 (by simp) (by exact aU) (fun _ hw => hw) (fun i hi => ?_)
    refine hd_split (c := decide (i < n)) (fun hlt => ?_) (fun hlt => ?_)
    · simp only [decide_eq_true_eq] at hlt
      obtain ⟨y1, hy1⟩ := get_of hl hlt
      obtain ⟨hpub, hr1, hr1', hptr⟩ := SlS_at hx hy1
      obtain ⟨y2, hy2⟩ := get_of hl2 hlt
      obtain ⟨hpub2, hr2, hr2', hptr2⟩ := SlS_at hy hy2
      repeat' (first | refine wMgE2 ?_ | refine wMgE3 ?_ | (refine is_cd ?_; first | refine hd_condA (fun _ => ?_) (fun _ => ?_)) | refine wMgE1 ?_ | refine wkB (fun _ => ?_) | refine wkC (fun _ _ => ?_) | exact tsA | (refine ts_step rfl (fun HF h1 hle => ?_)))
      · rename_i hd
        ((repeat (refine hd_undefer (by first | exact .inl rfl | exact .inr rfl) (by exact aP) ?_)); apply hd_res0; (focus (first | exact .inl rfl | exact .inr rfl)); rfl; exact aR)
        refine ret_bool ?_
        simp at hd
        simp [take_neq hy1 hy2 (sp_ne hd)]
      · rename_i hd
        simp at hd
        refine hd_again (i + 1) ⟨by omega, takeq_step hy1 hy2 hi.2 (sp_eq hd)⟩ (by omega) (by exact aU) (fun w hw => inv_only .nil hw)
    · simp only [decide_eq_false_iff_not] at hlt
      repeat' (first | refine wMgE2 ?_ | refine wMgE3 ?_ | (refine is_cd ?_; first | refine hd_condA (fun _ => ?_) (fun _ => ?_)) | refine wMgE1 ?_ | refine wkB (fun _ => ?_) | refine wkC (fun _ _ => ?_) | exact tsA | (refine ts_step rfl (fun HF h1 hle => ?_)))
      ((repeat (refine hd_undefer (by first | exact .inl rfl | exact .inr rfl) (by exact aP) ?_)); apply hd_res0; (focus (first | exact .inl rfl | exact .inr rfl)); rfl; exact aR)
      refine ret_bool ?_
      have e := hi.2
      rw [List.take_of_length_le (by omega), List.take_of_length_le (by omega)] at e
      simp [e]
theorem zMgE4 {A : Prop} (h : A := by (first | (with_reducible exact natC _) | (with_reducible exact natLit _) | exact rfl | exact (Int.toNat_of_nonneg (by (first | omega | grind [Sat]))).symm)) : A := h
theorem zMgE1 {A : Prop} (h : A := by ((first | (apply OK.plain; rfl; apply OD.of) | (apply OKp.plain; rfl)); (first | (apply od_b2s; exact aX; (focus (first | exact s1 | exact s2)); rfl) | (apply od_seq; exact aX; exact aX; (focus (first | exact hb1 | exact hb2)); (focus (first | exact hb2 | exact hb1))) | (apply od_index; exact aX; exact aX; (focus exact zMgE4); (focus (first | omega | grind [Sat])); (focus (first | assumption | rfl))) | (apply od_slice; exact aX; (focus (first | exact Bd.none | (apply Bd.some; exact aX; (focus exact zMgE4)))); (focus (first | exact Bd.none | (apply Bd.some; exact aX; (focus exact zMgE4)))); (focus (first | omega | grind [Sat])); (focus (first | omega | grind [Sat]))) | (apply od_shr; exact aX; exact aX; (focus exact zMgE4); (focus (simp [IntKind.bits] <;> omega))) | (apply od_shlR; exact aX; exact aX; (focus exact zMgE4); (focus (simp [IntKind.bits] <;> omega)); (focus ((first | with_reducible apply inR_i64 | with_reducible apply inR_i32 | with_reducible apply inR_u8 | with_reducible apply inR_u16 | with_reducible apply inR_u32 | with_reducible apply inR_u64) <;> (first | omega | grind [Sat])))) | (apply od_rem; exact aX; exact aX; (focus (first | omega | grind [Sat])); (focus (first | omega | grind [Sat]))) | (apply od_quo; exact aX; exact aX; (focus (first | omega | grind [Sat])); (focus (first | omega | grind [Sat])); (focus ((first | with_reducible apply inR_i64 | with_reducible apply inR_i32 | with_reducible apply inR_u8 | with_reducible apply inR_u16 | with_reducible apply inR_u32 | with_reducible apply inR_u64) <;> (first | omega | grind [Sat])))) | (apply od_load_one0; exact aX; (focus (first | assumption | exact Pub.mono (by assumption) (by exact aL)))) | (apply od_load_aggp; exact aX; (focus (first | assumption | exact Pub.mono (by assumption) (by exact aL))); exact aN; rfl) | (apply od_load_onep; exact aX; (focus (first | assumption | exact Pub.mono (by assumption) (by exact aL))); rfl; rfl)))) : A := h
theorem wMgE4 {A B : Prop} (k : B) (h : Kx B → A := by intro k; (first | (refine is_pu ?_ (by rfl); first | refine hd_opAB ?_ | ((first | apply hd_ok | apply ch_ok | (apply hd_pn_run; rfl; exact aM)); (focus exact zMgE1); rfl; rfl)) | (refine is_pn ?_; first | refine hd_pn_nil ?_ | refine hd_pnAB ?_ | ((first | apply hd_ok | apply ch_ok | (apply hd_pn_run; rfl; exact aM)); (focus exact zMgE1); rfl; rfl) | (refine hd_pn_op rfl ?_)) | (refine is_co ?_; first | ((first | apply hd_ok | apply ch_ok); (focus exact zMgE2); rfl; rfl) | refine hd_storeA ?_ | refine hd_copyA ?_ | refine hd_storeRA ?_) | (refine is_ni ?_; first | (refine is_on ?_; first | refine pn_barA ?_ | refine pn_goA ?_ | refine pt_goA ?_ | refine ts_onA ?_) | refine hd_nil ?_) | refine wkA ?_ | (refine is_ch ?_; refine ch_opAB ?_) | ((first | apply hd_ok | apply ch_ok); (focus exact zMgE2); rfl; rfl) | ((first | apply hd_ok | apply ch_ok | (apply hd_pn_run; rfl; exact aM)); (focus exact zMgE1); rfl; rfl)); exact k.go) : A := h ⟨k⟩
theorem bytes_Equal {p q : Option Addr} {n c m d : Nat} {xs ys : List Int} (h : PH) (h1 : SlB h p n c xs) (h2 : SlB h q m d ys) : Det Tryz.prog 97 #[.slice p n c, .slice q m d] h (.bool (decide (xs = ys))) := by
  refine spec_enter (args := [_, _]) Tryz.func97 rfl Tryz.ntmps97 rfl (fun w l => ?_)
  have hb1 := h1.inR
  have hb2 := h2.inR
  have s1 : Src [] h p n 1 (vI .u8 xs) := h1.srcI
  have s2 : Src [] h q m 1 (vI .u8 ys) := h2.srcI
  repeat' (first | refine wMgE2 ?_ | refine wMgE3 ?_ | (refine is_cd ?_; first | refine hd_condA (fun _ => ?_) (fun _ => ?_)) | refine wMgE4 ?_ | refine wkB (fun _ => ?_) | refine wkC (fun _ _ => ?_) | exact tsA | (refine ts_step rfl (fun HF h1 hle => ?_)))
  all_goals ((repeat (refine hd_undefer (by first | exact .inl rfl | exact .inr rfl) (by exact aP) ?_)); apply hd_res0; (focus (first | exact .inl rfl | exact .inr rfl)); rfl; exact aR)
  all_goals rfl
theorem eq3_eq {k1 k2 k3 : IntKind} {a b : Mk} : eqL [.int k1 a.1, .int k2 a.2.1, .int k3 a.2.2] [.int k1 b.1, .int k2 b.2.1, .int k3 b.2.2] = decide (a = b) := by
  obtain ⟨a1, a2, a3⟩ := a
  obtain ⟨b1, b2, b3⟩ := b
  rw [Bool.eq_iff_iff]; simp [eqL, eqV, and_assoc]
theorem slices_EqualM {p q : Option Addr} {n c m d : Nat} {xs ys : List Mk} (h : PH) (hx : SlM h p n c xs) (hy : SlM h q m d ys) : Det Tryz.prog 87 #[.slice p n c, .slice q m d] h (.bool (decide (xs = ys))) := by
  have hl := hx.len
  have hl2 := hy.len
  have ht := hx.top
  refine spec_enter (args := [_, _]) Tryz.func87 rfl Tryz.ntmps87 rfl (fun w l => ?_)
  repeat' (first | refine wMgE2 ?_ | refine wMgE3 ?_ | (refine is_cd ?_; first | refine hd_condA (fun _ => ?_) (fun _ => ?_)) | refine wMgE1 ?_ | refine wkB (fun _ => ?_) | refine wkC (fun _ _ => ?_) | exact tsA | (refine ts_step rfl (fun HF h1 hle => ?_)))
  · rename_i hc
    ((repeat (refine hd_undefer (by first | exact .inl rfl | exact .inr rfl) (by exact aP) ?_)); apply hd_res0; (focus (first | exact .inl rfl | exact .inr rfl)); rfl; exact aR)
    refine ret_bool ?_
    simp at hc
    simp; intro e; rw [e] at hl; omega
  · rename_i hc
    have hmn : n = m := by simp at hc; omega
    subst hmn
    refine hd_loopS (ι := Nat) (fun i => i ≤ n ∧ xs.take i = ys.take i) (fun i => [(0, [], .slice p n c), (1, [], .slice q n d), (12, [], .int .i64 n), (13, [], .int .i64 i)]) (fun _ => []) (fun _ => h) (fun i => n - i) 0 (by simp) (by exact aU) (fun _ hw => hw) (fun i hi => ?_)
    refine hd_split (c := decide (i < n)) (fun hlt => ?_) (fun hlt => ?_)
    · simp only [decide_eq_true_eq] at hlt
      obtain ⟨y1, hy1⟩ := get_of hl hlt
      obtain ⟨cs1, hpub, hok1, hptr⟩ := hx.at hy1
      obtain ⟨rfl, hr1⟩ := rMm_ok hok1
      obtain ⟨y2, hy2⟩ := get_of hl2 hlt
      obtain ⟨cs2, hpub2, hok2, hptr2⟩ := hy.at hy2
      obtain ⟨rfl, hr2⟩ := rMm_ok hok2
      have hge : eqL [.int .u16 y1.1, .int .u8 y1.2.1, .int .u8 y1.2.2] [.int .u16 y2.1, .int .u8 y2.2.1, .int .u8 y2.2.2] = decide (y1 = y2) := eq3_eq
      repeat' (first | refine wMgE2 ?_ | refine wMgE3 ?_ | (refine is_cd ?_; first | refine hd_condA (fun _ => ?_) (fun _ => ?_)) | refine wMgE1 ?_ | refine wkB (fun _ => ?_) | refine wkC (fun _ _ => ?_) | exact tsA | (refine ts_step rfl (fun HF h1 hle => ?_)))
      · rename_i hd
        ((repeat (refine hd_undefer (by first | exact .inl rfl | exact .inr rfl) (by exact aP) ?_)); apply hd_res0; (focus (first | exact .inl rfl | exact .inr rfl)); rfl; exact aR)
        refine ret_bool ?_
        rw [hge] at hd
        simp only [Bool.not_eq_true', decide_eq_false_iff_not] at hd
        simp [take_neq hy1 hy2 hd]
      · rename_i hd
        rw [hge] at hd
        simp only [Bool.not_eq_false', decide_eq_true_eq] at hd
        refine hd_again (i + 1) ⟨by omega, takeq_step hy1 hy2 hi.2 hd⟩ (by omega) (by exact aU) (fun w hw => inv_only .nil hw)
    · simp only [decide_eq_false_iff_not] at hlt
      repeat' (first | refine wMgE2 ?_ | refine wMgE3 ?_ | (refine is_cd ?_; first | refine hd_condA (fun _ => ?_) (fun _ => ?_)) | refine wMgE1 ?_ | refine wkB (fun _ => ?_) | refine wkC (fun _ _ => ?_) | exact tsA | (refine ts_step rfl (fun HF h1 hle => ?_)))
      ((repeat (refine hd_undefer (by first | exact .inl rfl | exact .inr rfl) (by exact aP) ?_)); apply hd_res0; (focus (first | exact .inl rfl | exact .inr rfl)); rfl; exact aR)
      refine ret_bool ?_
      have e := hi.2
      rw [List.take_of_length_le (by omega), List.take_of_length_le (by omega)] at e
      simp [e]
theorem slices_EqualK {p q : Option Addr} {n c m d : Nat} {xs ys : List Mk} (h : PH) (hx : SlK h p n c xs) (hy : SlK h q m d ys) : Det Tryz.prog 119 #[.slice p n c, .slice q m d] h (.bool (decide (xs = ys))) := by
  have hl := hx.len
  have hl2 := hy.len
  have ht := hx.top
  refine spec_enter (args := [_, _]) Tryz.func119 rfl Tryz.ntmps119 rfl (fun w l => ?_)
  repeat' (first | refine wMgE2 ?_ | refine wMgE3 ?_ | (refine is_cd ?_; first | refine hd_condA (fun _ => ?_) (fun _ => ?_)) | refine wMgE1 ?_ | refine wkB (fun _ => ?_) | refine wkC (fun _ _ => ?_) | exact tsA | (refine ts_step rfl (fun HF h1 hle => ?_)))
  · rename_i hc
    ((repeat (refine hd_undefer (by first | exact .inl rfl | exact .inr rfl) (by exact aP) ?_)); apply hd_res0; (focus (first | exact .inl rfl | exact .inr rfl)); rfl; exact aR)
    refine ret_bool ?_
    simp at hc
    simp; intro e; rw [e] at hl; omega
  · rename_i hc
    have hmn : n = m := by simp at hc; omega
    subst hmn
    refine hd_loopS (ι := Nat) (fun i => i ≤ n ∧ xs.take i = ys.take i) (fun i => [(0, [], .slice p n c), (1, [], .slice q n d), (12, [], .int .i64 n), (13, [], .int .i64 i)]) (fun _ => []) (fun _ => h) (fun i => n - i) 0 (by simp) (by exact aU) (fun _ hw => hw) (fun i hi => ?_)
    refine hd_split (c := decide (i < n)) (fun hlt => ?_) (fun hlt => ?_)
    · simp only [decide_eq_true_eq] at hlt
      obtain ⟨y1, hy1⟩ := get_of hl hlt
      obtain ⟨cs1, hpub, hok1, hptr⟩ := hx.at hy1
      obtain ⟨rfl, hr1⟩ := rID_ok hok1
      obtain ⟨y2, hy2⟩ := get_of hl2 hlt
      obtain ⟨cs2, hpub2, hok2, hptr2⟩ := hy.at hy2
      obtain ⟨rfl, hr2⟩ := rID_ok hok2
      have hge : eqL [.int .u8 y1.1, .int .u16 y1.2.1, .int .u32 y1.2.2] [.int .u8 y2.1, .int .u16 y2.2.1, .int .u32 y2.2.2] = decide (y1 = y2) := eq3_eq
      repeat' (first | refine wMgE2 ?_ | refine wMgE3 ?_ | (refine is_cd ?_; first | refine hd_condA (fun _ => ?_) (fun _ => ?_)) | refine wMgE1 ?_ | refine wkB (fun _ => ?_) | refine wkC (fun _ _ => ?_) | exact tsA | (refine ts_step rfl (fun HF h1 hle => ?_)))
      · rename_i hd
        ((repeat (refine hd_undefer (by first | exact .inl rfl | exact .inr rfl) (by exact aP) ?_)); apply hd_res0; (focus (first | exact .inl rfl | exact .inr rfl)); rfl; exact aR)
        refine ret_bool ?_
        rw [hge] at hd
        simp only [Bool.not_eq_true', decide_eq_false_iff_not] at hd
        simp [take_neq hy1 hy2 hd]
      · rename_i hd
        rw [hge] at hd
        simp only [Bool.not_eq_false', decide_eq_true_eq] at hd
        refine hd_again (i + 1) ⟨by omega, takeq_step hy1 hy2 hi.2 hd⟩ (by omega) (by exact aU) (fun w hw => inv_only .nil hw)
    · simp only [decide_eq_false_iff_not] at hlt
      repeat' (first | refine wMgE2 ?_ | refine wMgE3 ?_ | (refine is_cd ?_; first | refine hd_condA (fun _ => ?_) (fun _ => ?_)) | refine wMgE1 ?_ | refine wkB (fun _ => ?_) | refine wkC (fun _ _ => ?_) | exact tsA | (refine ts_step rfl (fun HF h1 hle => ?_)))
      ((repeat (refine hd_undefer (by first | exact .inl rfl | exact .inr rfl) (by exact aP) ?_)); apply hd_res0; (focus (first | exact .inl rfl | exact .inr rfl)); rfl; exact aR)
      refine ret_bool ?_
      have e := hi.2
      rw [List.take_of_length_le (by omega), List.take_of_length_le (by omega)] at e
      simp [e]
theorem slices_EqualI {p q : Option Addr} {n c m d : Nat} {xs ys : List Mk} (h : PH) (hx : SlK h p n c xs) (hy : SlK h q m d ys) : Det Tryz.prog 130 #[.slice p n c, .slice q m d] h (.bool (decide (xs = ys))) := by
  have hl := hx.len
  have hl2 := hy.len
  have ht := hx.top
  refine spec_enter (args := [_, _]) Tryz.func130 rfl Tryz.ntmps130 rfl (fun w l => ?_)
  repeat' (first | refine wMgE2 ?_ | refine wMgE3 ?_ | (refine is_cd ?_; first | refine hd_condA (fun _ => ?_) (fun _ => ?_)) | refine wMgE1 ?_ | refine wkB (fun _ => ?_) | refine wkC (fun _ _ => ?_) | exact tsA | (refine ts_step rfl (fun HF h1 hle => ?_)))
  · rename_i hc
    ((repeat (refine hd_undefer (by first | exact .inl rfl | exact .inr rfl) (by exact aP) ?_)); apply hd_res0; (focus (first | exact .inl rfl | exact .inr rfl)); rfl; exact aR)
    refine ret_bool ?_
    simp at hc
    simp; intro e; rw [e] at hl; omega
  · rename_i hc
    have hmn : n = m := by simp at hc; omega
    subst hmn
    refine hd_loopS (ι := Nat) (fun i => i ≤ n ∧ xs.take i = ys.take i) (fun i => [(0, [], .slice p n c), (1, [], .slice q n d), (12, [], .int .i64 n), (13, [], .int .i64 i)]) (fun _ => []) (fun _ => h) (fun i => n - i) 0 (by simp) (by exact aU) (fun _ hw => hw) (fun i hi => ?_)
    refine hd_split (c := decide (i < n)) (fun hlt => ?_) (fun hlt => ?_)
    · simp only [decide_eq_true_eq] at hlt
      obtain ⟨y1, hy1⟩ := get_of hl hlt
      obtain ⟨cs1, hpub, hok1, hptr⟩ := hx.at hy1
      obtain ⟨rfl, hr1⟩ := rID_ok hok1
      obtain ⟨y2, hy2⟩ := get_of hl2 hlt
      obtain ⟨cs2, hpub2, hok2, hptr2⟩ := hy.at hy2
      obtain ⟨rfl, hr2⟩ := rID_ok hok2
      have hge : eqL [.int .u8 y1.1, .int .u16 y1.2.1, .int .u32 y1.2.2] [.int .u8 y2.1, .int .u16 y2.2.1, .int .u32 y2.2.2] = decide (y1 = y2) := eq3_eq
      repeat' (first | refine wMgE2 ?_ | refine wMgE3 ?_ | (refine is_cd ?_; first | refine hd_condA (fun _ => ?_) (fun _ => ?_)) | refine wMgE1 ?_ | refine wkB (fun _ => ?_) | refine wkC (fun _ _ => ?_) | exact tsA | (refine ts_step rfl (fun HF h1 hle => ?_)))
      · rename_i hd
        ((repeat (refine hd_undefer (by first | exact .inl rfl | exact .inr rfl) (by exact aP) ?_)); apply hd_res0; (focus (first | exact .inl rfl | exact .inr rfl)); rfl; exact aR)
        refine ret_bool ?_
        rw [hge] at hd
        simp only [Bool.not_eq_true', decide_eq_false_iff_not] at hd
        simp [take_neq hy1 hy2 hd]
      · rename_i hd
        rw [hge] at hd
        simp only [Bool.not_eq_false', decide_eq_true_eq] at hd
        refine hd_again (i + 1) ⟨by omega, takeq_step hy1 hy2 hi.2 hd⟩ (by omega) (by exact aU) (fun w hw => inv_only .nil hw)
    · simp only [decide_eq_false_iff_not] at hlt
      repeat' (first | refine wMgE2 ?_ | refine wMgE3 ?_ | (refine is_cd ?_; first | refine hd_condA (fun _ => ?_) (fun _ => ?_)) | refine wMgE1 ?_ | refine wkB (fun _ => ?_) | refine wkC (fun _ _ => ?_) | exact tsA | (refine ts_step rfl (fun HF h1 hle => ?_)))
      ((repeat (refine hd_undefer (by first | exact .inl rfl | exact .inr rfl) (by exact aP) ?_)); apply hd_res0; (focus (first | exact .inl rfl | exact .inr rfl)); rfl; exact aR)
      refine ret_bool ?_
      have e := hi.2
      rw [List.take_of_length_le (by omega), List.take_of_length_le (by omega)] at e
      simp [e]
theorem zMgE7 {A : Prop} (h : A := by ((first | (apply OK.plain; rfl) | (apply OK.guarded; rfl; rfl; (intro hg; (try have hk := hg.2); (try have hl := hg.2.2); (try have hm := hg.2.2.2)))); (first | (apply od_call; exact aX; infer_instance; exact aE; exact aN; (focus (first | exact slices_EqualF _ (by assumption) (by assumption)))) ))) : A := h
theorem wMgE5 {A B : Prop} (k : B) (h : Kx B → A := by intro k; (first | (refine is_pu ?_ (by rfl); first | refine hd_opAB ?_) | (refine is_pn ?_; first | refine hd_pn_nil ?_ | refine hd_pnAB ?_ | (refine hd_pn_op rfl ?_)) | (refine is_co ?_; first | ((first | apply hd_ok | apply ch_ok); (focus exact zMgE7); rfl; rfl) | refine hd_storeA ?_ | refine hd_copyA ?_ | refine hd_storeRA ?_) | (refine is_ni ?_; first | (refine is_on ?_; first | refine pn_barA ?_ | refine pn_goA ?_ | refine pt_goA ?_ | refine ts_onA ?_) | refine hd_nil ?_) | refine wkA ?_ | (refine is_ch ?_; refine ch_opAB ?_) | ((first | apply hd_ok | apply ch_ok); (focus exact zMgE7); rfl; rfl)); exact k.go) : A := h ⟨k⟩
theorem wMgE6 {A B : Prop} (k : B) (h : Kx B → A := by intro k; ((refine is_cw ?_; refine is_rg ?_; first | refine hd_draw follows_any (by decide +kernel) ?_)); exact k.go) : A := h ⟨k⟩
theorem mesg_sameDesc {x y : DsT} {p q : Option Addr} {n c m d : Nat} (h : PH) (hx : SlS h p n c x.2.2.2) (hy : SlS h q m d y.2.2.2) : Det Tryz.prog 75 #[.agg #[.int .u8 x.1, .int .u16 x.2.1, .int .u8 x.2.2.1, .slice p n c], .agg #[.int .u8 y.1, .int .u16 y.2.1, .int .u8 y.2.2.1, .slice q m d]] h (.bool (decide (x = y))) := by
  refine spec_enter (args := [_, _]) Tryz.func75 rfl Tryz.ntmps75 rfl (fun w l => ?_)
  repeat' (first | refine wMgE6 ?_ | refine wMgE3 ?_ | (refine is_cd ?_; first | refine hd_condA (fun _ => ?_) (fun _ => ?_)) | refine wMgE5 ?_ | refine wkB (fun _ => ?_) | refine wkC (fun _ _ => ?_) | exact tsA | (refine ts_step rfl (fun HF h1 hle => ?_)))
  all_goals ((repeat (refine hd_undefer (by first | exact .inl rfl | exact .inr rfl) (by exact aP) ?_)); apply hd_res0; (focus (first | exact .inl rfl | exact .inr rfl)); rfl; exact aR)
  all_goals refine ret_bool ?_
  obtain ⟨x1, x2, x3, x4⟩ := x
  obtain ⟨y1, y2, y3, y4⟩ := y
  rw [Bool.eq_iff_iff]
  simp
  grind
theorem zMgE12 {A : Prop} (h : A := by ((first | (apply OK.plain; rfl) | (apply OK.guarded; rfl; rfl; (intro hg; (try have hk := hg.2); (try have hl := hg.2.2); (try have hm := hg.2.2.2)))); (first | (apply od_call; exact aX; infer_instance; exact aE; exact aN; (focus (first | exact mesg_sameDesc _ hf1 hf2))) ))) : A := h
theorem wMgE7 {A B : Prop} (k : B) (h : Kx B → A := by intro k; (first | (refine is_pu ?_ (by rfl); first | refine hd_opAB ?_) | (refine is_pn ?_; first | refine hd_pn_nil ?_ | refine hd_pnAB ?_ | (refine hd_pn_op rfl ?_)) | (refine is_co ?_; first | ((first | apply hd_ok | apply ch_ok); (focus exact zMgE12); rfl; rfl) | refine hd_storeA ?_ | refine hd_copyA ?_ | refine hd_storeRA ?_) | (refine is_ni ?_; first | (refine is_on ?_; first | refine pn_barA ?_ | refine pn_goA ?_ | refine pt_goA ?_ | refine ts_onA ?_) | refine hd_nil ?_) | refine wkA ?_ | (refine is_ch ?_; refine ch_opAB ?_) | ((first | apply hd_ok | apply ch_ok); (focus exact zMgE12); rfl; rfl)); exact k.go) : A := h ⟨k⟩
theorem equalFunc_D {p q : Option Addr} {n c m d : Nat} {xs ys : List DsT} (h : PH) (hx : SlD h p n c xs) (hy : SlD h q m d ys) : Det Tryz.prog 74 #[.slice p n c, .slice q m d, .func (.func 75) #[] #[]] h (.bool (decide (xs = ys))) := by
  have hl := hx.len
  have hl2 := hy.len
  have ht := hx.top
  refine spec_enter (args := [_, _, _]) Tryz.func74 rfl Tryz.ntmps74 rfl (fun w l => ?_)
  repeat' (first | refine wMgE6 ?_ | refine wMgE3 ?_ | (refine is_cd ?_; first | refine hd_condA (fun _ => ?_) (fun _ => ?_)) | refine wMgE7 ?_ | refine wkB (fun _ => ?_) | refine wkC (fun _ _ => ?_) | exact tsA | (refine ts_step rfl (fun HF h1 hle => ?_)))
  · rename_i hc
    ((repeat (refine hd_undefer (by first | exact .inl rfl | exact .inr rfl) (by exact aP) ?_)); apply hd_res0; (focus (first | exact .inl rfl | exact .inr rfl)); rfl; exact aR)
    refine ret_bool ?_
    simp at hc
    simp; intro e; rw [e] at hl; omega
  · rename_i hc
    have hmn : n = m := by simp at hc; omega
    subst hmn
    refine hd_loopS (ι := Nat) (fun i => i ≤ n ∧ xs.take i = ys.take i) (fun i => [(1, [], .slice q n d), (2, [], .func (.func 75) #[] #[]), (15, [], .slice p n c), (16, [], .int .i64 n), (17, [], .int .i64 i)]) (fun _ => []) (fun _ => h) (fun i => n - i) 0 (by simp) (by exact aU) (fun _ hw => hw) (fun i hi => ?_)
    refine hd_split (c := decide (i < n)) (fun hlt => ?_) (fun hlt => ?_)
    · simp only [decide_eq_true_eq] at hlt
      obtain ⟨y1, hy1⟩ := get_of hl hlt
      obtain ⟨cs1, hpub, hok1, hptr⟩ := hx.at hy1
      obtain ⟨pf1, nf1, cf1, rfl, hf1, _⟩ := rDs_ok hok1
      obtain ⟨y2, hy2⟩ := get_of hl2 hlt
      obtain ⟨cs2, hpub2, hok2, hptr2⟩ := hy.at hy2
      obtain ⟨pf2, nf2, cf2, rfl, hf2, _⟩ := rDs_ok hok2
      repeat' (first | refine wMgE6 ?_ | refine wMgE3 ?_ | (refine is_cd ?_; first | refine hd_condA (fun _ => ?_) (fun _ => ?_)) | refine wMgE7 ?_ | refine wkB (fun _ => ?_) | refine wkC (fun _ _ => ?_) | exact tsA | (refine ts_step rfl (fun HF h1 hle => ?_)))
      · rename_i hd
        ((repeat (refine hd_undefer (by first | exact .inl rfl | exact .inr rfl) (by exact aP) ?_)); apply hd_res0; (focus (first | exact .inl rfl | exact .inr rfl)); rfl; exact aR)
        refine ret_bool ?_
        simp at hd
        simp [take_neq hy1 hy2 hd]
      · rename_i hd
        simp at hd
        refine hd_again (i + 1) ⟨by omega, takeq_step hy1 hy2 hi.2 hd⟩ (by omega) (by exact aU) (fun w hw => inv_only .nil hw)
    · simp only [decide_eq_false_iff_not] at hlt
      repeat' (first | refine wMgE6 ?_ | refine wMgE3 ?_ | (refine is_cd ?_; first | refine hd_condA (fun _ => ?_) (fun _ => ?_)) | refine wMgE7 ?_ | refine wkB (fun _ => ?_) | refine wkC (fun _ _ => ?_) | exact tsA | (refine ts_step rfl (fun HF h1 hle => ?_)))
      ((repeat (refine hd_undefer (by first | exact .inl rfl | exact .inr rfl) (by exact aP) ?_)); apply hd_res0; (focus (first | exact .inl rfl | exact .inr rfl)); rfl; exact aR)
      refine ret_bool ?_
      have e := hi.2
      rw [List.take_of_length_le (by omega), List.take_of_length_le (by omega)] at e
      simp [e]

/-- Is a field the same in two? -/
def saF (m o : MsD) : Nat → Bool
  | 0 => decide (m.list = o.list)
  | 1 => decide (m.table = o.table)
  | 2 => decide (m.ev = o.ev)
  | 3 => decide (m.hops = o.hops)
  | 4 => decide (m.origin = o.origin)
  | 5 => decide (m.marks = o.marks)
  | 6 => decide (m.ids = o.ids)
  | _ => true
theorem pvMgE2 {A : Prop} (h : A := by exact pvMgE1) : A := h
theorem zMgE10 {A : Prop} (h : A := by ((first | (apply OK.plain; rfl) | (apply OK.guarded; rfl; rfl; (intro hg; (try have hk := hg.2); (try have hl := hg.2.2); (try have hm := hg.2.2.2)))); (first | (apply od_call; exact aX; infer_instance; exact aE; exact aN; (focus (first | exact equalFunc_D _ hv.list hw.list))) ))) : A := h
theorem wMgE8 {A B : Prop} (k : B) (h : Kx B → A := by intro k; (first | (refine is_pu ?_ (by rfl); first | refine hd_opAB ?_) | (refine is_pn ?_; first | refine hd_pn_nil ?_ | refine hd_pnAB ?_ | (refine hd_pn_op rfl ?_)) | (refine is_co ?_; first | ((first | apply hd_ok | apply ch_ok); (focus exact zMgE10); rfl; rfl) | refine hd_storeA ?_ | refine hd_copyA ?_ | refine hd_storeRA ?_) | (refine is_ni ?_; first | (refine is_on ?_; first | refine pn_barA ?_ | refine pn_goA ?_ | refine pt_goA ?_ | refine ts_onA ?_) | refine hd_nil ?_) | refine wkA ?_ | (refine is_ch ?_; refine ch_opAB ?_) | ((first | apply hd_ok | apply ch_ok); (focus exact zMgE10); rfl; rfl)); exact k.go) : A := h ⟨k⟩
theorem wMgE9 {A B : Prop} (k : B) (h : Kx B → A := by intro k; ((refine is_cw ?_; refine is_cd ?_; first | (refine hd_condT (by exact aX) (by exact pvMgE2) ?_) | (refine hd_condF (by exact aX) (by exact pvMgE2) ?_))); exact k.go) : A := h ⟨k⟩
theorem list_5 {m o : MsD} {a b : MsP} (h : PH) (hv : VMsP h a m) (hw : VMsP h b o) : Det Tryz.prog 73 #[.agg #[.int .u8 m.kind, .int .u8 m.frm, .int .u16 m.inc, .int .u8 m.to_, .slice a.pl a.nl a.cl, .slice a.pt a.nt a.ct, .int .u8 m.ev.1.1, .int .u16 m.ev.1.2.1, .int .u32 m.ev.1.2.2, .slice a.pv a.nv a.cv, .slice a.pd a.nd a.cd, .int .u8 m.hops, .int .u8 m.origin.1, .int .u16 m.origin.2.1, .int .u32 m.origin.2.2, .slice a.pm a.nm a.cm, .slice a.pi a.ni a.ci], .agg #[.int .u8 o.kind, .int .u8 o.frm, .int .u16 o.inc, .int .u8 o.to_, .slice b.pl b.nl b.cl, .slice b.pt b.nt b.ct, .int .u8 o.ev.1.1, .int .u16 o.ev.1.2.1, .int .u32 o.ev.1.2.2, .slice b.pv b.nv b.cv, .slice b.pd b.nd b.cd, .int .u8 o.hops, .int .u8 o.origin.1, .int .u16 o.origin.2.1, .int .u32 o.origin.2.2, .slice b.pm b.nm b.cm, .slice b.pi b.ni b.ci]] h (.bool (saF m o 0)) := by
  refine spec_enter (args := [_, _]) Tryz.func73 rfl Tryz.ntmps73 rfl (fun w l => ?_)
  repeat' (first | refine wMgE6 ?_ | refine wMgE9 ?_ | (refine is_cd ?_; first | refine hd_condA (fun _ => ?_) (fun _ => ?_)) | refine wMgE8 ?_ | refine wkB (fun _ => ?_) | refine wkC (fun _ _ => ?_) | exact tsA | (refine ts_step rfl (fun HF h1 hle => ?_)))
  all_goals ((repeat (refine hd_undefer (by first | exact .inl rfl | exact .inr rfl) (by exact aP) ?_)); apply hd_res0; (focus (first | exact .inl rfl | exact .inr rfl)); rfl; exact aR)
  all_goals exact ret_bool (rfl)
theorem zMgE8 {A : Prop} (h : A := by ((first | (apply OK.plain; rfl) | (apply OK.guarded; rfl; rfl; (intro hg; (try have hk := hg.2); (try have hl := hg.2.2); (try have hm := hg.2.2.2)))); (first | (apply od_call; exact aX; infer_instance; exact aE; exact aN; (focus (first | exact slices_EqualM _ hv.table hw.table))) ))) : A := h
theorem wMgE10 {A B : Prop} (k : B) (h : Kx B → A := by intro k; (first | (refine is_pu ?_ (by rfl); first | refine hd_opAB ?_) | (refine is_pn ?_; first | refine hd_pn_nil ?_ | refine hd_pnAB ?_ | (refine hd_pn_op rfl ?_)) | (refine is_co ?_; first | ((first | apply hd_ok | apply ch_ok); (focus exact zMgE8); rfl; rfl) | refine hd_storeA ?_ | refine hd_copyA ?_ | refine hd_storeRA ?_) | (refine is_ni ?_; first | (refine is_on ?_; first | refine pn_barA ?_ | refine pn_goA ?_ | refine pt_goA ?_ | refine ts_onA ?_) | refine hd_nil ?_) | refine wkA ?_ | (refine is_ch ?_; refine ch_opAB ?_) | ((first | apply hd_ok | apply ch_ok); (focus exact zMgE8); rfl; rfl)); exact k.go) : A := h ⟨k⟩
theorem table_5 {m o : MsD} {a b : MsP} (h : PH) (hv : VMsP h a m) (hw : VMsP h b o) : Det Tryz.prog 86 #[.agg #[.int .u8 m.kind, .int .u8 m.frm, .int .u16 m.inc, .int .u8 m.to_, .slice a.pl a.nl a.cl, .slice a.pt a.nt a.ct, .int .u8 m.ev.1.1, .int .u16 m.ev.1.2.1, .int .u32 m.ev.1.2.2, .slice a.pv a.nv a.cv, .slice a.pd a.nd a.cd, .int .u8 m.hops, .int .u8 m.origin.1, .int .u16 m.origin.2.1, .int .u32 m.origin.2.2, .slice a.pm a.nm a.cm, .slice a.pi a.ni a.ci], .agg #[.int .u8 o.kind, .int .u8 o.frm, .int .u16 o.inc, .int .u8 o.to_, .slice b.pl b.nl b.cl, .slice b.pt b.nt b.ct, .int .u8 o.ev.1.1, .int .u16 o.ev.1.2.1, .int .u32 o.ev.1.2.2, .slice b.pv b.nv b.cv, .slice b.pd b.nd b.cd, .int .u8 o.hops, .int .u8 o.origin.1, .int .u16 o.origin.2.1, .int .u32 o.origin.2.2, .slice b.pm b.nm b.cm, .slice b.pi b.ni b.ci]] h (.bool (saF m o 1)) := by
  refine spec_enter (args := [_, _]) Tryz.func86 rfl Tryz.ntmps86 rfl (fun w l => ?_)
  repeat' (first | refine wMgE6 ?_ | refine wMgE9 ?_ | (refine is_cd ?_; first | refine hd_condA (fun _ => ?_) (fun _ => ?_)) | refine wMgE10 ?_ | refine wkB (fun _ => ?_) | refine wkC (fun _ _ => ?_) | exact tsA | (refine ts_step rfl (fun HF h1 hle => ?_)))
  all_goals ((repeat (refine hd_undefer (by first | exact .inl rfl | exact .inr rfl) (by exact aP) ?_)); apply hd_res0; (focus (first | exact .inl rfl | exact .inr rfl)); rfl; exact aR)
  all_goals exact ret_bool (rfl)
theorem zMgE5 {A : Prop} (h : A := by ((first | (apply OK.plain; rfl) | (apply OK.guarded; rfl; rfl; (intro hg; (try have hk := hg.2); (try have hl := hg.2.2); (try have hm := hg.2.2.2)))); (first | (apply od_call; exact aX; infer_instance; exact aE; exact aN; (focus (first | exact slices_Equal _ (hv.vals.mono (by exact aL)) (hw.vals.mono (by exact aL)) | exact bytes_Equal _ (hv.data.mono (by exact aL)) (hw.data.mono (by exact aL))))) ))) : A := h
theorem wMgE11 {A B : Prop} (k : B) (h : Kx B → A := by intro k; (first | (refine is_pu ?_ (by rfl); first | refine hd_opAB ?_) | (refine is_pn ?_; first | refine hd_pn_nil ?_ | refine hd_pnAB ?_ | (refine hd_pn_op rfl ?_)) | (refine is_co ?_; first | ((first | apply hd_ok | apply ch_ok); (focus exact zMgE5); rfl; rfl) | refine hd_storeA ?_ | refine hd_copyA ?_ | refine hd_storeRA ?_) | (refine is_ni ?_; first | (refine is_on ?_; first | refine pn_barA ?_ | refine pn_goA ?_ | refine pt_goA ?_ | refine ts_onA ?_) | refine hd_nil ?_) | refine wkA ?_ | (refine is_ch ?_; refine ch_opAB ?_) | ((first | apply hd_ok | apply ch_ok); (focus exact zMgE5); rfl; rfl)); exact k.go) : A := h ⟨k⟩
theorem wMgE12 {A B : Prop} (k : B) (h : Kx B → A := by intro k; ((refine is_cw ?_; refine is_rg ?_; first | (refine hd_planT (id := 1) _ [] [.one 0 true, .one 1 true, .one 2 true, .one 3 true, .par [[4], [5]], .one 6 false, .one 7 false] follows_any (by kernel_rfl) rfl (by kernel_rfl) rfl ?_) | refine hd_draw follows_any (by decide +kernel) ?_)); exact k.go) : A := h ⟨k⟩
theorem event_5 {m o : MsD} {a b : MsP} (h : PH) (hv : VMsP h a m) (hw : VMsP h b o) : Det Tryz.prog 95 #[.agg #[.int .u8 m.kind, .int .u8 m.frm, .int .u16 m.inc, .int .u8 m.to_, .slice a.pl a.nl a.cl, .slice a.pt a.nt a.ct, .int .u8 m.ev.1.1, .int .u16 m.ev.1.2.1, .int .u32 m.ev.1.2.2, .slice a.pv a.nv a.cv, .slice a.pd a.nd a.cd, .int .u8 m.hops, .int .u8 m.origin.1, .int .u16 m.origin.2.1, .int .u32 m.origin.2.2, .slice a.pm a.nm a.cm, .slice a.pi a.ni a.ci], .agg #[.int .u8 o.kind, .int .u8 o.frm, .int .u16 o.inc, .int .u8 o.to_, .slice b.pl b.nl b.cl, .slice b.pt b.nt b.ct, .int .u8 o.ev.1.1, .int .u16 o.ev.1.2.1, .int .u32 o.ev.1.2.2, .slice b.pv b.nv b.cv, .slice b.pd b.nd b.cd, .int .u8 o.hops, .int .u8 o.origin.1, .int .u16 o.origin.2.1, .int .u32 o.origin.2.2, .slice b.pm b.nm b.cm, .slice b.pi b.ni b.ci]] h (.bool (saF m o 2)) := by
  refine spec_enter (args := [_, _]) Tryz.func95 rfl Tryz.ntmps95 rfl (fun w l => ?_)
  repeat' (first | (refine is_pn ?_; first | (apply hd_par2m (T1 := [4]) (D1 := [5]) (T2 := [5]) (D2 := [6]) (postA _ _) (postA _ _) rfl rfl)) | refine wMgE12 ?_ | refine wMgE9 ?_ | (refine is_cd ?_; first | refine hd_condA (fun _ => ?_) (fun _ => ?_)) | refine wMgE11 ?_ | refine wkB (fun _ => ?_) | refine wkC (fun _ _ => ?_) | exact tsA | (refine ts_step rfl (fun HF h1 hle => ?_)) | (rintro _ _ _ _ _ _ _ ⟨_, rfl, rfl⟩ ⟨_, rfl, rfl⟩ _ _ _))
  all_goals ((repeat (refine hd_undefer (by first | exact .inl rfl | exact .inr rfl) (by exact aP) ?_)); apply hd_res0; (focus (first | exact .inl rfl | exact .inr rfl)); rfl; exact aR)
  all_goals exact ret_bool (by
    rw [eq3_eq, Bool.eq_iff_iff]
    simp [saF, Prod.ext_iff, and_assoc])
theorem hops_5 {m o : MsD} {a b : MsP} (h : PH) (hv : VMsP h a m) (hw : VMsP h b o) : Det Tryz.prog 102 #[.agg #[.int .u8 m.kind, .int .u8 m.frm, .int .u16 m.inc, .int .u8 m.to_, .slice a.pl a.nl a.cl, .slice a.pt a.nt a.ct, .int .u8 m.ev.1.1, .int .u16 m.ev.1.2.1, .int .u32 m.ev.1.2.2, .slice a.pv a.nv a.cv, .slice a.pd a.nd a.cd, .int .u8 m.hops, .int .u8 m.origin.1, .int .u16 m.origin.2.1, .int .u32 m.origin.2.2, .slice a.pm a.nm a.cm, .slice a.pi a.ni a.ci], .agg #[.int .u8 o.kind, .int .u8 o.frm, .int .u16 o.inc, .int .u8 o.to_, .slice b.pl b.nl b.cl, .slice b.pt b.nt b.ct, .int .u8 o.ev.1.1, .int .u16 o.ev.1.2.1, .int .u32 o.ev.1.2.2, .slice b.pv b.nv b.cv, .slice b.pd b.nd b.cd, .int .u8 o.hops, .int .u8 o.origin.1, .int .u16 o.origin.2.1, .int .u32 o.origin.2.2, .slice b.pm b.nm b.cm, .slice b.pi b.ni b.ci]] h (.bool (saF m o 3)) := by
  refine spec_enter (args := [_, _]) Tryz.func102 rfl Tryz.ntmps102 rfl (fun w l => ?_)
  repeat' (first | (refine is_pn ?_; first | (apply hd_par2m (T1 := [4]) (D1 := [5]) (T2 := [5]) (D2 := [6]) (postA _ _) (postA _ _) rfl rfl)) | refine wMgE12 ?_ | refine wMgE9 ?_ | (refine is_cd ?_; first | refine hd_condA (fun _ => ?_) (fun _ => ?_)) | refine wMgE1 ?_ | refine wkB (fun _ => ?_) | refine wkC (fun _ _ => ?_) | exact tsA | (refine ts_step rfl (fun HF h1 hle => ?_)) | (rintro _ _ _ _ _ _ _ ⟨_, rfl, rfl⟩ ⟨_, rfl, rfl⟩ _ _ _))
  all_goals ((repeat (refine hd_undefer (by first | exact .inl rfl | exact .inr rfl) (by exact aP) ?_)); apply hd_res0; (focus (first | exact .inl rfl | exact .inr rfl)); rfl; exact aR)
  all_goals exact ret_bool (by rw [Bool.eq_iff_iff]; simp [saF])
theorem origin_5 {m o : MsD} {a b : MsP} (h : PH) (hv : VMsP h a m) (hw : VMsP h b o) : Det Tryz.prog 110 #[.agg #[.int .u8 m.kind, .int .u8 m.frm, .int .u16 m.inc, .int .u8 m.to_, .slice a.pl a.nl a.cl, .slice a.pt a.nt a.ct, .int .u8 m.ev.1.1, .int .u16 m.ev.1.2.1, .int .u32 m.ev.1.2.2, .slice a.pv a.nv a.cv, .slice a.pd a.nd a.cd, .int .u8 m.hops, .int .u8 m.origin.1, .int .u16 m.origin.2.1, .int .u32 m.origin.2.2, .slice a.pm a.nm a.cm, .slice a.pi a.ni a.ci], .agg #[.int .u8 o.kind, .int .u8 o.frm, .int .u16 o.inc, .int .u8 o.to_, .slice b.pl b.nl b.cl, .slice b.pt b.nt b.ct, .int .u8 o.ev.1.1, .int .u16 o.ev.1.2.1, .int .u32 o.ev.1.2.2, .slice b.pv b.nv b.cv, .slice b.pd b.nd b.cd, .int .u8 o.hops, .int .u8 o.origin.1, .int .u16 o.origin.2.1, .int .u32 o.origin.2.2, .slice b.pm b.nm b.cm, .slice b.pi b.ni b.ci]] h (.bool (saF m o 4)) := by
  refine spec_enter (args := [_, _]) Tryz.func110 rfl Tryz.ntmps110 rfl (fun w l => ?_)
  repeat' (first | (refine is_pn ?_; first | (apply hd_par2m (T1 := [4]) (D1 := [5]) (T2 := [5]) (D2 := [6]) (postA _ _) (postA _ _) rfl rfl)) | refine wMgE12 ?_ | refine wMgE9 ?_ | (refine is_cd ?_; first | refine hd_condA (fun _ => ?_) (fun _ => ?_)) | refine wMgE1 ?_ | refine wkB (fun _ => ?_) | refine wkC (fun _ _ => ?_) | exact tsA | (refine ts_step rfl (fun HF h1 hle => ?_)) | (rintro _ _ _ _ _ _ _ ⟨_, rfl, rfl⟩ ⟨_, rfl, rfl⟩ _ _ _))
  all_goals ((repeat (refine hd_undefer (by first | exact .inl rfl | exact .inr rfl) (by exact aP) ?_)); apply hd_res0; (focus (first | exact .inl rfl | exact .inr rfl)); rfl; exact aR)
  all_goals exact ret_bool (id_eq)
theorem zMgE9 {A : Prop} (h : A := by ((first | (apply OK.plain; rfl) | (apply OK.guarded; rfl; rfl; (intro hg; (try have hk := hg.2); (try have hl := hg.2.2); (try have hm := hg.2.2.2)))); (first | (apply od_call; exact aX; infer_instance; exact aE; exact aN; (focus (first | exact slices_EqualK _ hv.marks hw.marks))) ))) : A := h
theorem wMgE13 {A B : Prop} (k : B) (h : Kx B → A := by intro k; (first | (refine is_pu ?_ (by rfl); first | refine hd_opAB ?_) | (refine is_pn ?_; first | refine hd_pn_nil ?_ | refine hd_pnAB ?_ | (refine hd_pn_op rfl ?_)) | (refine is_co ?_; first | ((first | apply hd_ok | apply ch_ok); (focus exact zMgE9); rfl; rfl) | refine hd_storeA ?_ | refine hd_copyA ?_ | refine hd_storeRA ?_) | (refine is_ni ?_; first | (refine is_on ?_; first | refine pn_barA ?_ | refine pn_goA ?_ | refine pt_goA ?_ | refine ts_onA ?_) | refine hd_nil ?_) | refine wkA ?_ | (refine is_ch ?_; refine ch_opAB ?_) | ((first | apply hd_ok | apply ch_ok); (focus exact zMgE9); rfl; rfl)); exact k.go) : A := h ⟨k⟩
theorem marks_5 {m o : MsD} {a b : MsP} (h : PH) (hv : VMsP h a m) (hw : VMsP h b o) : Det Tryz.prog 118 #[.agg #[.int .u8 m.kind, .int .u8 m.frm, .int .u16 m.inc, .int .u8 m.to_, .slice a.pl a.nl a.cl, .slice a.pt a.nt a.ct, .int .u8 m.ev.1.1, .int .u16 m.ev.1.2.1, .int .u32 m.ev.1.2.2, .slice a.pv a.nv a.cv, .slice a.pd a.nd a.cd, .int .u8 m.hops, .int .u8 m.origin.1, .int .u16 m.origin.2.1, .int .u32 m.origin.2.2, .slice a.pm a.nm a.cm, .slice a.pi a.ni a.ci], .agg #[.int .u8 o.kind, .int .u8 o.frm, .int .u16 o.inc, .int .u8 o.to_, .slice b.pl b.nl b.cl, .slice b.pt b.nt b.ct, .int .u8 o.ev.1.1, .int .u16 o.ev.1.2.1, .int .u32 o.ev.1.2.2, .slice b.pv b.nv b.cv, .slice b.pd b.nd b.cd, .int .u8 o.hops, .int .u8 o.origin.1, .int .u16 o.origin.2.1, .int .u32 o.origin.2.2, .slice b.pm b.nm b.cm, .slice b.pi b.ni b.ci]] h (.bool (saF m o 5)) := by
  refine spec_enter (args := [_, _]) Tryz.func118 rfl Tryz.ntmps118 rfl (fun w l => ?_)
  repeat' (first | (refine is_pn ?_; first | (apply hd_par2m (T1 := [4]) (D1 := [5]) (T2 := [5]) (D2 := [6]) (postA _ _) (postA _ _) rfl rfl)) | refine wMgE12 ?_ | refine wMgE9 ?_ | (refine is_cd ?_; first | refine hd_condA (fun _ => ?_) (fun _ => ?_)) | refine wMgE13 ?_ | refine wkB (fun _ => ?_) | refine wkC (fun _ _ => ?_) | exact tsA | (refine ts_step rfl (fun HF h1 hle => ?_)) | (rintro _ _ _ _ _ _ _ ⟨_, rfl, rfl⟩ ⟨_, rfl, rfl⟩ _ _ _))
  all_goals ((repeat (refine hd_undefer (by first | exact .inl rfl | exact .inr rfl) (by exact aP) ?_)); apply hd_res0; (focus (first | exact .inl rfl | exact .inr rfl)); rfl; exact aR)
  all_goals exact ret_bool (rfl)
theorem zMgE11 {A : Prop} (h : A := by ((first | (apply OK.plain; rfl) | (apply OK.guarded; rfl; rfl; (intro hg; (try have hk := hg.2); (try have hl := hg.2.2); (try have hm := hg.2.2.2)))); (first | (apply od_call; exact aX; infer_instance; exact aE; exact aN; (focus (first | exact slices_EqualI _ hv.ids hw.ids))) ))) : A := h
theorem wMgE14 {A B : Prop} (k : B) (h : Kx B → A := by intro k; (first | (refine is_pu ?_ (by rfl); first | refine hd_opAB ?_) | (refine is_pn ?_; first | refine hd_pn_nil ?_ | refine hd_pnAB ?_ | (refine hd_pn_op rfl ?_)) | (refine is_co ?_; first | ((first | apply hd_ok | apply ch_ok); (focus exact zMgE11); rfl; rfl) | refine hd_storeA ?_ | refine hd_copyA ?_ | refine hd_storeRA ?_) | (refine is_ni ?_; first | (refine is_on ?_; first | refine pn_barA ?_ | refine pn_goA ?_ | refine pt_goA ?_ | refine ts_onA ?_) | refine hd_nil ?_) | refine wkA ?_ | (refine is_ch ?_; refine ch_opAB ?_) | ((first | apply hd_ok | apply ch_ok); (focus exact zMgE11); rfl; rfl)); exact k.go) : A := h ⟨k⟩
theorem ids_5 {m o : MsD} {a b : MsP} (h : PH) (hv : VMsP h a m) (hw : VMsP h b o) : Det Tryz.prog 129 #[.agg #[.int .u8 m.kind, .int .u8 m.frm, .int .u16 m.inc, .int .u8 m.to_, .slice a.pl a.nl a.cl, .slice a.pt a.nt a.ct, .int .u8 m.ev.1.1, .int .u16 m.ev.1.2.1, .int .u32 m.ev.1.2.2, .slice a.pv a.nv a.cv, .slice a.pd a.nd a.cd, .int .u8 m.hops, .int .u8 m.origin.1, .int .u16 m.origin.2.1, .int .u32 m.origin.2.2, .slice a.pm a.nm a.cm, .slice a.pi a.ni a.ci], .agg #[.int .u8 o.kind, .int .u8 o.frm, .int .u16 o.inc, .int .u8 o.to_, .slice b.pl b.nl b.cl, .slice b.pt b.nt b.ct, .int .u8 o.ev.1.1, .int .u16 o.ev.1.2.1, .int .u32 o.ev.1.2.2, .slice b.pv b.nv b.cv, .slice b.pd b.nd b.cd, .int .u8 o.hops, .int .u8 o.origin.1, .int .u16 o.origin.2.1, .int .u32 o.origin.2.2, .slice b.pm b.nm b.cm, .slice b.pi b.ni b.ci]] h (.bool (saF m o 6)) := by
  refine spec_enter (args := [_, _]) Tryz.func129 rfl Tryz.ntmps129 rfl (fun w l => ?_)
  repeat' (first | (refine is_pn ?_; first | (apply hd_par2m (T1 := [4]) (D1 := [5]) (T2 := [5]) (D2 := [6]) (postA _ _) (postA _ _) rfl rfl)) | refine wMgE12 ?_ | refine wMgE9 ?_ | (refine is_cd ?_; first | refine hd_condA (fun _ => ?_) (fun _ => ?_)) | refine wMgE14 ?_ | refine wkB (fun _ => ?_) | refine wkC (fun _ _ => ?_) | exact tsA | (refine ts_step rfl (fun HF h1 hle => ?_)) | (rintro _ _ _ _ _ _ _ ⟨_, rfl, rfl⟩ ⟨_, rfl, rfl⟩ _ _ _))
  all_goals ((repeat (refine hd_undefer (by first | exact .inl rfl | exact .inr rfl) (by exact aP) ?_)); apply hd_res0; (focus (first | exact .inl rfl | exact .inr rfl)); rfl; exact aR)
  all_goals exact ret_bool (rfl)
def saT (m o : MsD) : Nat → Bool
  | 0 => true
  | i + 1 => saT m o i && saF m o i
def hdS (m o : MsD) : Bool := decide (m.kind = o.kind) && decide (m.frm = o.frm) && decide (m.inc = o.inc) && decide (m.to_ = o.to_)
theorem same_no {m o : MsD} {i : Nat} (hi : i < 7) (h : saF m o i = false) : decide (m = o) = false := by
  simp only [decide_eq_false_iff_not]
  rintro rfl
  have : i = 0 ∨ i = 1 ∨ i = 2 ∨ i = 3 ∨ i = 4 ∨ i = 5 ∨ i = 6 := by omega
  rcases this with rfl | rfl | rfl | rfl | rfl | rfl | rfl <;> simp [saF] at h
theorem same_no0 {m o : MsD} (h : hdS m o = false) : decide (m = o) = false := by
  simp only [decide_eq_false_iff_not]
  rintro rfl
  simp [hdS] at h
theorem same_yes {m o : MsD} (h0 : hdS m o = true) (h : saT m o 7 = true) : decide (m = o) = true := by
  obtain ⟨m0, m1, m2, m3, m4, m5, m6, m7, m8, m9, m10⟩ := m
  obtain ⟨o0, o1, o2, o3, o4, o5, o6, o7, o8, o9, o10⟩ := o
  simp only [hdS, Bool.and_eq_true, decide_eq_true_eq] at h0
  simp only [saT, saF, Bool.and_eq_true, decide_eq_true_eq, true_and] at h
  obtain ⟨⟨⟨rfl, rfl⟩, rfl⟩, rfl⟩ := h0
  obtain ⟨⟨⟨⟨⟨⟨rfl, rfl⟩, rfl⟩, rfl⟩, rfl⟩, rfl⟩, rfl⟩ := h
  simp

theorem pvMgE3 {A : Prop} (h : A := by (first | rfl | assumption | exact bne_self_eq_false _ | (rw [hu]; rfl) | (simp only [decide_eq_true_eq, decide_eq_false_iff_not, bne_iff_ne, beq_eq_false_iff_ne, beq_iff_eq]; omega) | fail)) : A := h
theorem nvMgE3 {A : Prop} (h : A := by (first | decide | (rw [hu]; decide) | fail)) : A := h
theorem zMgE3 {A : Prop} (h : A := by ((first | (apply OK.plain; rfl) | (apply OK.guarded; rfl; rfl; (intro hg; (try have hk := hg.2); (try have hl := hg.2.2); (try have hm := hg.2.2.2)))); (first | (apply od_call; exact aX; infer_instance; exact aE; exact aN; (focus (first | exact list_5 _ (hv.mono (by exact aL)) (hw.mono (by exact aL)) | exact table_5 _ (hv.mono (by exact aL)) (hw.mono (by exact aL)) | exact event_5 _ (hv.mono (by exact aL)) (hw.mono (by exact aL)) | exact hops_5 _ (hv.mono (by exact aL)) (hw.mono (by exact aL)) | exact origin_5 _ (hv.mono (by exact aL)) (hw.mono (by exact aL)) | exact marks_5 _ (hv.mono (by exact aL)) (hw.mono (by exact aL)) | exact ids_5 _ (hv.mono (by exact aL)) (hw.mono (by exact aL))))) ))) : A := h
theorem zMgE6 {A : Prop} (h : A := by ((first | (apply OK.plain; rfl; apply OD.of) | (apply OKp.plain; rfl)); (first | (apply od_pickX; exact aX; exact pvMgE3; exact aX) | (apply od_pickY; exact aX; exact pvMgE3; exact aX)))) : A := h
theorem wMgE15 {A B : Prop} (k : B) (h : Kx B → A := by intro k; (first | (refine is_pu ?_ (by rfl); first | (apply hd_gon; rfl; rfl; (focus (constructor; exact pvMgE3; trivial))) | (apply hd_goff; rfl; rfl; (focus exact fun hs => absurd hs.1 (by exact nvMgE3)); rfl) | (apply hd_gundef; rfl; rfl; rfl) | refine hd_opAB ?_ | ((first | apply hd_ok | apply ch_ok | (apply hd_pn_run; rfl; exact aM)); (focus ((first | (apply OK.plain; rfl; apply OD.of) | (apply OKp.plain; rfl)); (first | fail))); rfl; rfl) | ((first | apply hd_ok | apply ch_ok | (apply hd_pn_run; rfl; exact aM)); (focus exact zMgE6); rfl; rfl)) | (refine is_pn ?_; first | refine hd_pn_nil ?_ | refine hd_pnAB ?_ | ((first | apply hd_ok | apply ch_ok | (apply hd_pn_run; rfl; exact aM)); (focus ((first | (apply OK.plain; rfl; apply OD.of) | (apply OKp.plain; rfl)); (first | fail))); rfl; rfl) | ((first | apply hd_ok | apply ch_ok | (apply hd_pn_run; rfl; exact aM)); (focus exact zMgE6); rfl; rfl) | (refine hd_pn_op rfl ?_)) | (refine is_co ?_; first | (apply hd_gon; rfl; rfl; (focus (constructor; exact pvMgE3; trivial))) | (apply hd_goff; rfl; rfl; (focus exact fun hs => absurd hs.1 (by exact nvMgE3)); rfl) | (apply hd_gundef; rfl; rfl; rfl) | ((first | apply hd_ok | apply ch_ok); (focus exact zMgE3); rfl; rfl) | refine hd_storeA ?_ | refine hd_copyA ?_) | (refine is_ni ?_; first | (refine is_on ?_; first | refine pn_barA ?_ | refine pn_goA ?_ | refine pt_goA ?_ | refine ts_onA ?_) | refine hd_nil ?_) | refine wkA ?_ | (refine is_ch ?_; refine ch_opAB ?_) | ((first | apply hd_ok | apply ch_ok); (focus exact zMgE3); rfl; rfl) | ((first | apply hd_ok | apply ch_ok | (apply hd_pn_run; rfl; exact aM)); (focus ((first | (apply OK.plain; rfl; apply OD.of) | (apply OKp.plain; rfl)); (first | fail))); rfl; rfl) | ((first | apply hd_ok | apply ch_ok | (apply hd_pn_run; rfl; exact aM)); (focus exact zMgE6); rfl; rfl)); exact k.go) : A := h ⟨k⟩
theorem wMgE16 {A B : Prop} (k : B) (h : Kx B → A := by intro k; ((refine is_cw ?_; refine is_cd ?_; first | (refine hd_condT (by exact aX) (by exact pvMgE3) ?_) | (refine hd_condF (by exact aX) (by exact pvMgE3) ?_))); exact k.go) : A := h ⟨k⟩
theorem mesg_Same {m o : MsD} {a b : MsP} (h : PH) (hv : VMsP h a m) (hw : VMsP h b o) : Det Tryz.prog 18 #[.agg #[.int .u8 m.kind, .int .u8 m.frm, .int .u16 m.inc, .int .u8 m.to_, .slice a.pl a.nl a.cl, .slice a.pt a.nt a.ct, .int .u8 m.ev.1.1, .int .u16 m.ev.1.2.1, .int .u32 m.ev.1.2.2, .slice a.pv a.nv a.cv, .slice a.pd a.nd a.cd, .int .u8 m.hops, .int .u8 m.origin.1, .int .u16 m.origin.2.1, .int .u32 m.origin.2.2, .slice a.pm a.nm a.cm, .slice a.pi a.ni a.ci], .agg #[.int .u8 o.kind, .int .u8 o.frm, .int .u16 o.inc, .int .u8 o.to_, .slice b.pl b.nl b.cl, .slice b.pt b.nt b.ct, .int .u8 o.ev.1.1, .int .u16 o.ev.1.2.1, .int .u32 o.ev.1.2.2, .slice b.pv b.nv b.cv, .slice b.pd b.nd b.cd, .int .u8 o.hops, .int .u8 o.origin.1, .int .u16 o.origin.2.1, .int .u32 o.origin.2.2, .slice b.pm b.nm b.cm, .slice b.pi b.ni b.ci]] h (.bool (decide (m = o))) := by
  refine spec_enter (args := [_, _]) Tryz.func18 rfl Tryz.ntmps18 rfl (fun w l => ?_)
  refine hd_split (c := hdS m o) (fun hu => ?_) (fun hu => ?_)
  rotate_left
  · have e := same_no0 hu
    have hq : (m.kind != o.kind || m.frm != o.frm || m.inc != o.inc || m.to_ != o.to_) = true := by
      cases hh : (m.kind != o.kind || m.frm != o.frm || m.inc != o.inc || m.to_ != o.to_) with
      | true => rfl
      | false => simp at hh; simp [hdS, hh] at hu
    have hu := True.intro
    repeat' (first | (refine is_pn ?_; first | (apply hd_par2m (T1 := [4]) (D1 := [5]) (T2 := [5]) (D2 := [6]) (postA _ _) (postA _ _) rfl rfl)) | (refine is_cx ?_ (by rfl); first | (refine hd_cA (s := by exact mesg_fields _) (k := ?_); rintro _ h1 hle1 ⟨pF, cF, rfl, hF⟩)) | refine wMgE12 ?_ | refine wMgE16 ?_ | (refine is_cd ?_; first | refine hd_condA (fun _ => ?_) (fun _ => ?_)) | refine wMgE15 ?_ | refine wkB (fun _ => ?_) | refine wkC (fun _ _ => ?_) | exact tsA | (refine ts_step rfl (fun HF h1 hle => ?_)) | (rintro _ _ _ _ _ _ _ ⟨_, rfl, rfl⟩ ⟨_, rfl, rfl⟩ _ _ _))
    ((repeat (refine hd_undefer (by first | exact .inl rfl | exact .inr rfl) (by exact aP) ?_)); apply hd_res0; (focus (first | exact .inl rfl | exact .inr rfl)); rfl; exact aR)
    exact ret_bool e.symm
  have h0 := hu
  have hq : (m.kind != o.kind || m.frm != o.frm || m.inc != o.inc || m.to_ != o.to_) = false := by
    simp [hdS] at hu; simp [hu]
  repeat' (first | (refine is_pn ?_; first | (apply hd_par2m (T1 := [4]) (D1 := [5]) (T2 := [5]) (D2 := [6]) (postA _ _) (postA _ _) rfl rfl)) | (refine is_cx ?_ (by rfl); first | (refine hd_cA (s := by exact mesg_fields _) (k := ?_); rintro _ h1 hle1 ⟨pF, cF, rfl, hF⟩)) | refine wMgE12 ?_ | refine wMgE16 ?_ | (refine is_cd ?_; first | refine hd_condA (fun _ => ?_) (fun _ => ?_)) | refine wMgE15 ?_ | refine wkB (fun _ => ?_) | refine wkC (fun _ _ => ?_) | exact tsA | (refine ts_step rfl (fun HF h1 hle => ?_)) | (rintro _ _ _ _ _ _ _ ⟨_, rfl, rfl⟩ ⟨_, rfl, rfl⟩ _ _ _))
  rename_i b1 b2
  refine hd_loopS (ι := Nat) (fun i => i ≤ 7 ∧ saT m o i = true) (fun i => [(2, [], .pointer (some ⟨b1, 0, none⟩)), (3, [], .pointer (some ⟨b2, 0, none⟩)), (4, [], .bool false), (33, [], .slice pF 7 cF), (34, [], .int .i64 7), (35, [], .int .i64 i)]) (fun _ => [box b2 [.int .u8 o.kind, .int .u8 o.frm, .int .u16 o.inc, .int .u8 o.to_, .slice b.pl b.nl b.cl, .slice b.pt b.nt b.ct, .int .u8 o.ev.1.1, .int .u16 o.ev.1.2.1, .int .u32 o.ev.1.2.2, .slice b.pv b.nv b.cv, .slice b.pd b.nd b.cd, .int .u8 o.hops, .int .u8 o.origin.1, .int .u16 o.origin.2.1, .int .u32 o.origin.2.2, .slice b.pm b.nm b.cm, .slice b.pi b.ni b.ci] 36, box b1 [.int .u8 m.kind, .int .u8 m.frm, .int .u16 m.inc, .int .u8 m.to_, .slice a.pl a.nl a.cl, .slice a.pt a.nt a.ct, .int .u8 m.ev.1.1, .int .u16 m.ev.1.2.1, .int .u32 m.ev.1.2.2, .slice a.pv a.nv a.cv, .slice a.pd a.nd a.cd, .int .u8 m.hops, .int .u8 m.origin.1, .int .u16 m.origin.2.1, .int .u32 m.origin.2.2, .slice a.pm a.nm a.cm, .slice a.pi a.ni a.ci] 36]) (fun _ => h1) (fun i => 7 - i) 0 ⟨by omega, rfl⟩ (by exact aU) (fun w hw => inv_only (by exact aS) hw) (fun i hi => ?_)
  obtain ⟨hi7, hT⟩ := hi
  try dsimp only at hi7 hT ⊢
  have h7 : i = 0 ∨ i = 1 ∨ i = 2 ∨ i = 3 ∨ i = 4 ∨ i = 5 ∨ i = 6 ∨ i = 7 := by omega
  rcases h7 with rfl | rfl | rfl | rfl | rfl | rfl | rfl | rfl
  · have hpub := hF.at (i := 0) rfl
    have hptr := hF.ptr (by decide)
    refine hd_split (c := saF m o 0) (fun hu => ?_) (fun hu => ?_)
    · repeat' (first | (refine is_pn ?_; first | (apply hd_par2m (T1 := [4]) (D1 := [5]) (T2 := [5]) (D2 := [6]) (postA _ _) (postA _ _) rfl rfl)) | (refine is_cx ?_ (by rfl); first | (refine hd_cA (s := by exact mesg_fields _) (k := ?_); rintro _ h1 hle1 ⟨pF, cF, rfl, hF⟩)) | refine wMgE12 ?_ | refine wMgE16 ?_ | (refine is_cd ?_; first | refine hd_condA (fun _ => ?_) (fun _ => ?_)) | refine wMgE15 ?_ | refine wkB (fun _ => ?_) | refine wkC (fun _ _ => ?_) | exact tsA | (refine ts_step rfl (fun HF h1 hle => ?_)) | (rintro _ _ _ _ _ _ _ ⟨_, rfl, rfl⟩ ⟨_, rfl, rfl⟩ _ _ _))
      exact hd_again 1 ⟨by omega, by simp only [saT, hu, Bool.and_true] at hT ⊢ <;> exact hT⟩ (by omega) (by exact aU) (fun w hw => inv_only (by exact aS) hw)
    · repeat' (first | (refine is_pn ?_; first | (apply hd_par2m (T1 := [4]) (D1 := [5]) (T2 := [5]) (D2 := [6]) (postA _ _) (postA _ _) rfl rfl)) | (refine is_cx ?_ (by rfl); first | (refine hd_cA (s := by exact mesg_fields _) (k := ?_); rintro _ h1 hle1 ⟨pF, cF, rfl, hF⟩)) | refine wMgE12 ?_ | refine wMgE16 ?_ | (refine is_cd ?_; first | refine hd_condA (fun _ => ?_) (fun _ => ?_)) | refine wMgE15 ?_ | refine wkB (fun _ => ?_) | refine wkC (fun _ _ => ?_) | exact tsA | (refine ts_step rfl (fun HF h1 hle => ?_)) | (rintro _ _ _ _ _ _ _ ⟨_, rfl, rfl⟩ ⟨_, rfl, rfl⟩ _ _ _))
      ((repeat (refine hd_undefer (by first | exact .inl rfl | exact .inr rfl) (by exact aP) ?_)); apply hd_res0; (focus (first | exact .inl rfl | exact .inr rfl)); rfl; exact aR)
      exact ret_bool (same_no (i := 0) (by omega) hu).symm
  · have hpub := hF.at (i := 1) rfl
    have hptr := hF.ptr (by decide)
    refine hd_split (c := saF m o 1) (fun hu => ?_) (fun hu => ?_)
    · repeat' (first | (refine is_pn ?_; first | (apply hd_par2m (T1 := [4]) (D1 := [5]) (T2 := [5]) (D2 := [6]) (postA _ _) (postA _ _) rfl rfl)) | (refine is_cx ?_ (by rfl); first | (refine hd_cA (s := by exact mesg_fields _) (k := ?_); rintro _ h1 hle1 ⟨pF, cF, rfl, hF⟩)) | refine wMgE12 ?_ | refine wMgE16 ?_ | (refine is_cd ?_; first | refine hd_condA (fun _ => ?_) (fun _ => ?_)) | refine wMgE15 ?_ | refine wkB (fun _ => ?_) | refine wkC (fun _ _ => ?_) | exact tsA | (refine ts_step rfl (fun HF h1 hle => ?_)) | (rintro _ _ _ _ _ _ _ ⟨_, rfl, rfl⟩ ⟨_, rfl, rfl⟩ _ _ _))
      exact hd_again 2 ⟨by omega, by simp only [saT, hu, Bool.and_true] at hT ⊢ <;> exact hT⟩ (by omega) (by exact aU) (fun w hw => inv_only (by exact aS) hw)
    · repeat' (first | (refine is_pn ?_; first | (apply hd_par2m (T1 := [4]) (D1 := [5]) (T2 := [5]) (D2 := [6]) (postA _ _) (postA _ _) rfl rfl)) | (refine is_cx ?_ (by rfl); first | (refine hd_cA (s := by exact mesg_fields _) (k := ?_); rintro _ h1 hle1 ⟨pF, cF, rfl, hF⟩)) | refine wMgE12 ?_ | refine wMgE16 ?_ | (refine is_cd ?_; first | refine hd_condA (fun _ => ?_) (fun _ => ?_)) | refine wMgE15 ?_ | refine wkB (fun _ => ?_) | refine wkC (fun _ _ => ?_) | exact tsA | (refine ts_step rfl (fun HF h1 hle => ?_)) | (rintro _ _ _ _ _ _ _ ⟨_, rfl, rfl⟩ ⟨_, rfl, rfl⟩ _ _ _))
      ((repeat (refine hd_undefer (by first | exact .inl rfl | exact .inr rfl) (by exact aP) ?_)); apply hd_res0; (focus (first | exact .inl rfl | exact .inr rfl)); rfl; exact aR)
      exact ret_bool (same_no (i := 1) (by omega) hu).symm
  · have hpub := hF.at (i := 2) rfl
    have hptr := hF.ptr (by decide)
    refine hd_split (c := saF m o 2) (fun hu => ?_) (fun hu => ?_)
    · repeat' (first | (refine is_pn ?_; first | (apply hd_par2m (T1 := [4]) (D1 := [5]) (T2 := [5]) (D2 := [6]) (postA _ _) (postA _ _) rfl rfl)) | (refine is_cx ?_ (by rfl); first | (refine hd_cA (s := by exact mesg_fields _) (k := ?_); rintro _ h1 hle1 ⟨pF, cF, rfl, hF⟩)) | refine wMgE12 ?_ | refine wMgE16 ?_ | (refine is_cd ?_; first | refine hd_condA (fun _ => ?_) (fun _ => ?_)) | refine wMgE15 ?_ | refine wkB (fun _ => ?_) | refine wkC (fun _ _ => ?_) | exact tsA | (refine ts_step rfl (fun HF h1 hle => ?_)) | (rintro _ _ _ _ _ _ _ ⟨_, rfl, rfl⟩ ⟨_, rfl, rfl⟩ _ _ _))
      exact hd_again 3 ⟨by omega, by simp only [saT, hu, Bool.and_true] at hT ⊢ <;> exact hT⟩ (by omega) (by exact aU) (fun w hw => inv_only (by exact aS) hw)
    · repeat' (first | (refine is_pn ?_; first | (apply hd_par2m (T1 := [4]) (D1 := [5]) (T2 := [5]) (D2 := [6]) (postA _ _) (postA _ _) rfl rfl)) | (refine is_cx ?_ (by rfl); first | (refine hd_cA (s := by exact mesg_fields _) (k := ?_); rintro _ h1 hle1 ⟨pF, cF, rfl, hF⟩)) | refine wMgE12 ?_ | refine wMgE16 ?_ | (refine is_cd ?_; first | refine hd_condA (fun _ => ?_) (fun _ => ?_)) | refine wMgE15 ?_ | refine wkB (fun _ => ?_) | refine wkC (fun _ _ => ?_) | exact tsA | (refine ts_step rfl (fun HF h1 hle => ?_)) | (rintro _ _ _ _ _ _ _ ⟨_, rfl, rfl⟩ ⟨_, rfl, rfl⟩ _ _ _))
      ((repeat (refine hd_undefer (by first | exact .inl rfl | exact .inr rfl) (by exact aP) ?_)); apply hd_res0; (focus (first | exact .inl rfl | exact .inr rfl)); rfl; exact aR)
      exact ret_bool (same_no (i := 2) (by omega) hu).symm
  · have hpub := hF.at (i := 3) rfl
    have hptr := hF.ptr (by decide)
    refine hd_split (c := saF m o 3) (fun hu => ?_) (fun hu => ?_)
    · repeat' (first | (refine is_pn ?_; first | (apply hd_par2m (T1 := [4]) (D1 := [5]) (T2 := [5]) (D2 := [6]) (postA _ _) (postA _ _) rfl rfl)) | (refine is_cx ?_ (by rfl); first | (refine hd_cA (s := by exact mesg_fields _) (k := ?_); rintro _ h1 hle1 ⟨pF, cF, rfl, hF⟩)) | refine wMgE12 ?_ | refine wMgE16 ?_ | (refine is_cd ?_; first | refine hd_condA (fun _ => ?_) (fun _ => ?_)) | refine wMgE15 ?_ | refine wkB (fun _ => ?_) | refine wkC (fun _ _ => ?_) | exact tsA | (refine ts_step rfl (fun HF h1 hle => ?_)) | (rintro _ _ _ _ _ _ _ ⟨_, rfl, rfl⟩ ⟨_, rfl, rfl⟩ _ _ _))
      exact hd_again 4 ⟨by omega, by simp only [saT, hu, Bool.and_true] at hT ⊢ <;> exact hT⟩ (by omega) (by exact aU) (fun w hw => inv_only (by exact aS) hw)
    · repeat' (first | (refine is_pn ?_; first | (apply hd_par2m (T1 := [4]) (D1 := [5]) (T2 := [5]) (D2 := [6]) (postA _ _) (postA _ _) rfl rfl)) | (refine is_cx ?_ (by rfl); first | (refine hd_cA (s := by exact mesg_fields _) (k := ?_); rintro _ h1 hle1 ⟨pF, cF, rfl, hF⟩)) | refine wMgE12 ?_ | refine wMgE16 ?_ | (refine is_cd ?_; first | refine hd_condA (fun _ => ?_) (fun _ => ?_)) | refine wMgE15 ?_ | refine wkB (fun _ => ?_) | refine wkC (fun _ _ => ?_) | exact tsA | (refine ts_step rfl (fun HF h1 hle => ?_)) | (rintro _ _ _ _ _ _ _ ⟨_, rfl, rfl⟩ ⟨_, rfl, rfl⟩ _ _ _))
      ((repeat (refine hd_undefer (by first | exact .inl rfl | exact .inr rfl) (by exact aP) ?_)); apply hd_res0; (focus (first | exact .inl rfl | exact .inr rfl)); rfl; exact aR)
      exact ret_bool (same_no (i := 3) (by omega) hu).symm
  · have hpub := hF.at (i := 4) rfl
    have hptr := hF.ptr (by decide)
    refine hd_split (c := saF m o 4) (fun hu => ?_) (fun hu => ?_)
    · repeat' (first | (refine is_pn ?_; first | (apply hd_par2m (T1 := [4]) (D1 := [5]) (T2 := [5]) (D2 := [6]) (postA _ _) (postA _ _) rfl rfl)) | (refine is_cx ?_ (by rfl); first | (refine hd_cA (s := by exact mesg_fields _) (k := ?_); rintro _ h1 hle1 ⟨pF, cF, rfl, hF⟩)) | refine wMgE12 ?_ | refine wMgE16 ?_ | (refine is_cd ?_; first | refine hd_condA (fun _ => ?_) (fun _ => ?_)) | refine wMgE15 ?_ | refine wkB (fun _ => ?_) | refine wkC (fun _ _ => ?_) | exact tsA | (refine ts_step rfl (fun HF h1 hle => ?_)) | (rintro _ _ _ _ _ _ _ ⟨_, rfl, rfl⟩ ⟨_, rfl, rfl⟩ _ _ _))
      exact hd_again 5 ⟨by omega, by simp only [saT, hu, Bool.and_true] at hT ⊢ <;> exact hT⟩ (by omega) (by exact aU) (fun w hw => inv_only (by exact aS) hw)
    · repeat' (first | (refine is_pn ?_; first | (apply hd_par2m (T1 := [4]) (D1 := [5]) (T2 := [5]) (D2 := [6]) (postA _ _) (postA _ _) rfl rfl)) | (refine is_cx ?_ (by rfl); first | (refine hd_cA (s := by exact mesg_fields _) (k := ?_); rintro _ h1 hle1 ⟨pF, cF, rfl, hF⟩)) | refine wMgE12 ?_ | refine wMgE16 ?_ | (refine is_cd ?_; first | refine hd_condA (fun _ => ?_) (fun _ => ?_)) | refine wMgE15 ?_ | refine wkB (fun _ => ?_) | refine wkC (fun _ _ => ?_) | exact tsA | (refine ts_step rfl (fun HF h1 hle => ?_)) | (rintro _ _ _ _ _ _ _ ⟨_, rfl, rfl⟩ ⟨_, rfl, rfl⟩ _ _ _))
      ((repeat (refine hd_undefer (by first | exact .inl rfl | exact .inr rfl) (by exact aP) ?_)); apply hd_res0; (focus (first | exact .inl rfl | exact .inr rfl)); rfl; exact aR)
      exact ret_bool (same_no (i := 4) (by omega) hu).symm
  · have hpub := hF.at (i := 5) rfl
    have hptr := hF.ptr (by decide)
    refine hd_split (c := saF m o 5) (fun hu => ?_) (fun hu => ?_)
    · repeat' (first | (refine is_pn ?_; first | (apply hd_par2m (T1 := [4]) (D1 := [5]) (T2 := [5]) (D2 := [6]) (postA _ _) (postA _ _) rfl rfl)) | (refine is_cx ?_ (by rfl); first | (refine hd_cA (s := by exact mesg_fields _) (k := ?_); rintro _ h1 hle1 ⟨pF, cF, rfl, hF⟩)) | refine wMgE12 ?_ | refine wMgE16 ?_ | (refine is_cd ?_; first | refine hd_condA (fun _ => ?_) (fun _ => ?_)) | refine wMgE15 ?_ | refine wkB (fun _ => ?_) | refine wkC (fun _ _ => ?_) | exact tsA | (refine ts_step rfl (fun HF h1 hle => ?_)) | (rintro _ _ _ _ _ _ _ ⟨_, rfl, rfl⟩ ⟨_, rfl, rfl⟩ _ _ _))
      exact hd_again 6 ⟨by omega, by simp only [saT, hu, Bool.and_true] at hT ⊢ <;> exact hT⟩ (by omega) (by exact aU) (fun w hw => inv_only (by exact aS) hw)
    · repeat' (first | (refine is_pn ?_; first | (apply hd_par2m (T1 := [4]) (D1 := [5]) (T2 := [5]) (D2 := [6]) (postA _ _) (postA _ _) rfl rfl)) | (refine is_cx ?_ (by rfl); first | (refine hd_cA (s := by exact mesg_fields _) (k := ?_); rintro _ h1 hle1 ⟨pF, cF, rfl, hF⟩)) | refine wMgE12 ?_ | refine wMgE16 ?_ | (refine is_cd ?_; first | refine hd_condA (fun _ => ?_) (fun _ => ?_)) | refine wMgE15 ?_ | refine wkB (fun _ => ?_) | refine wkC (fun _ _ => ?_) | exact tsA | (refine ts_step rfl (fun HF h1 hle => ?_)) | (rintro _ _ _ _ _ _ _ ⟨_, rfl, rfl⟩ ⟨_, rfl, rfl⟩ _ _ _))
      ((repeat (refine hd_undefer (by first | exact .inl rfl | exact .inr rfl) (by exact aP) ?_)); apply hd_res0; (focus (first | exact .inl rfl | exact .inr rfl)); rfl; exact aR)
      exact ret_bool (same_no (i := 5) (by omega) hu).symm
  · have hpub := hF.at (i := 6) rfl
    have hptr := hF.ptr (by decide)
    refine hd_split (c := saF m o 6) (fun hu => ?_) (fun hu => ?_)
    · repeat' (first | (refine is_pn ?_; first | (apply hd_par2m (T1 := [4]) (D1 := [5]) (T2 := [5]) (D2 := [6]) (postA _ _) (postA _ _) rfl rfl)) | (refine is_cx ?_ (by rfl); first | (refine hd_cA (s := by exact mesg_fields _) (k := ?_); rintro _ h1 hle1 ⟨pF, cF, rfl, hF⟩)) | refine wMgE12 ?_ | refine wMgE16 ?_ | (refine is_cd ?_; first | refine hd_condA (fun _ => ?_) (fun _ => ?_)) | refine wMgE15 ?_ | refine wkB (fun _ => ?_) | refine wkC (fun _ _ => ?_) | exact tsA | (refine ts_step rfl (fun HF h1 hle => ?_)) | (rintro _ _ _ _ _ _ _ ⟨_, rfl, rfl⟩ ⟨_, rfl, rfl⟩ _ _ _))
      exact hd_again 7 ⟨by omega, by simp only [saT, hu, Bool.and_true] at hT ⊢ <;> exact hT⟩ (by omega) (by exact aU) (fun w hw => inv_only (by exact aS) hw)
    · repeat' (first | (refine is_pn ?_; first | (apply hd_par2m (T1 := [4]) (D1 := [5]) (T2 := [5]) (D2 := [6]) (postA _ _) (postA _ _) rfl rfl)) | (refine is_cx ?_ (by rfl); first | (refine hd_cA (s := by exact mesg_fields _) (k := ?_); rintro _ h1 hle1 ⟨pF, cF, rfl, hF⟩)) | refine wMgE12 ?_ | refine wMgE16 ?_ | (refine is_cd ?_; first | refine hd_condA (fun _ => ?_) (fun _ => ?_)) | refine wMgE15 ?_ | refine wkB (fun _ => ?_) | refine wkC (fun _ _ => ?_) | exact tsA | (refine ts_step rfl (fun HF h1 hle => ?_)) | (rintro _ _ _ _ _ _ _ ⟨_, rfl, rfl⟩ ⟨_, rfl, rfl⟩ _ _ _))
      ((repeat (refine hd_undefer (by first | exact .inl rfl | exact .inr rfl) (by exact aP) ?_)); apply hd_res0; (focus (first | exact .inl rfl | exact .inr rfl)); rfl; exact aR)
      exact ret_bool (same_no (i := 6) (by omega) hu).symm
  · repeat' (first | (refine is_pn ?_; first | (apply hd_par2m (T1 := [4]) (D1 := [5]) (T2 := [5]) (D2 := [6]) (postA _ _) (postA _ _) rfl rfl)) | (refine is_cx ?_ (by rfl); first | (refine hd_cA (s := by exact mesg_fields _) (k := ?_); rintro _ h1 hle1 ⟨pF, cF, rfl, hF⟩)) | refine wMgE12 ?_ | refine wMgE16 ?_ | (refine is_cd ?_; first | refine hd_condA (fun _ => ?_) (fun _ => ?_)) | refine wMgE15 ?_ | refine wkB (fun _ => ?_) | refine wkC (fun _ _ => ?_) | exact tsA | (refine ts_step rfl (fun HF h1 hle => ?_)) | (rintro _ _ _ _ _ _ _ ⟨_, rfl, rfl⟩ ⟨_, rfl, rfl⟩ _ _ _))
    ((repeat (refine hd_undefer (by first | exact .inl rfl | exact .inr rfl) (by exact aP) ?_)); apply hd_res0; (focus (first | exact .inl rfl | exact .inr rfl)); rfl; exact aR)
    exact ret_bool (same_yes h0 hT).symm
end Go.Proofs.YtmpfeaoofkkhjaaGreat
