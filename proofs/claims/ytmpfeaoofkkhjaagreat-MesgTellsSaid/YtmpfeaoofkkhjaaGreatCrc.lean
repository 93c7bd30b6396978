/- What package crc yields, and the document's answer: sums. -/
import Derived.Test.YtmpfeaoofkkhjaaGreatFWR
import Derived.Test.YtmpfeaoofkkhjaaGreatCrcP
namespace Go.Proofs.YtmpfeaoofkkhjaaGreat
open Go Go.GV
attribute [local irreducible] cw Go.GV.SpecM Go.GV.wpList Exit.then Exit.inBlock Go.GV.bodyPost wpPl wpPm wpPn TS rnd rPost YieldsB wpPT ptK
set_option maxRecDepth 10000
set_option maxHeartbeats 4000000
set_option linter.unusedVariables false
set_option linter.unusedSimpArgs false
theorem ret_u32 {x y : W32} (h : x = y) : ofVs [.int .u32 (x.toNat : Int)] = Value.int .u32 (y.toNat : Int) := by rw [h]; rfl
def tblN (i : Nat) : List Value := (List.range 16).map fun j => if j < i then .int .u32 ((st4 (BitVec.ofNat 32 j)).toNat : Int) else .int .u32 0
theorem tblN_len (i : Nat) : (tblN i).length = 16 := by simp [tblN]
theorem tblN_16 : tblN 16 = tblV := by
  unfold tblN tblV
  apply List.map_congr_left
  intro j hj
  rw [if_pos (List.mem_range.1 hj)]
theorem tblN_set {i : Nat} (hi : i < 16) : spl (tblN i) (0 + i * 1) [.int .u32 ((st4 (BitVec.ofNat 32 i)).toNat : Int)] = tblN (i + 1) := by
  have e : spl (tblN i) (0 + i * 1) [.int .u32 ((st4 (BitVec.ofNat 32 i)).toNat : Int)] = (tblN i).set i (.int .u32 ((st4 (BitVec.ofNat 32 i)).toNat : Int)) := by
    have hl := tblN_len i
    simp only [spl, Nat.zero_add, Nat.mul_one, List.length_singleton]
    rw [List.set_eq_take_append_cons_drop, if_pos (by omega)]
    rfl
  rw [e]
  apply List.ext_getElem?
  intro j
  rw [List.getElem?_set]
  simp only [tblN_len]
  by_cases h : i = j
  · subst h
    simp [tblN, hi]
  · rw [if_neg h]
    simp only [tblN, List.getElem?_map]
    rcases Nat.lt_or_ge j 16 with h1 | h1
    · rw [List.getElem?_range h1]
      simp only [Option.map_some, Option.some.injEq]
      by_cases h2 : j < i
      · rw [if_pos h2, if_pos (by omega)]
      · rw [if_neg h2, if_neg (by omega)]
    · rw [List.getElem?_eq_none (by simp; omega)]; rfl
theorem lsb_and (r : W32) : ((r &&& 1#32).toNat : Int) = if r.getLsbD 0 then 1 else 0 := by
  have h := lsb_mod r
  have e : (r &&& 1#32).toNat = r.toNat % 2 := by
    rw [BitVec.toNat_and, show (1#32).toNat = 2 ^ 1 - 1 from rfl, Nat.and_two_pow_sub_one_eq_mod]
  rw [e]
  unfold lsb at h
  rw [← h]; omega
theorem st_odd {r : W32} (h : r.getLsbD 0 = true) : st r = r >>> 1 ^^^ 2197175160#32 := by unfold st; rw [h]; rfl
theorem zCrc2 {A : Prop} (h : A := by ((first | (apply OK.plain; rfl) | (apply OK.guarded; rfl; rfl; (intro hg; (try have hk := hg.2); (try have hl := hg.2.2); (try have hm := hg.2.2.2)))); (first | (apply od_call; exact aX; infer_instance; exact aE; exact aN; (focus (first | fail))) ))) : A := h
theorem zCrc4 {A : Prop} (h : A := by (first | rfl | assumption | exact bvl _ (by decide))) : A := h
theorem zCrc5 {A : Prop} (h : A := by (first | (with_reducible exact natC _) | (with_reducible exact natLit _) | exact rfl | exact (Int.toNat_of_nonneg (by (first | omega | grind [Sat]))).symm)) : A := h
theorem zCrc1 {A : Prop} (h : A := by ((first | (apply OK.plain; rfl; apply OD.of) | (apply OKp.plain; rfl)); (first | (apply od_xor32; exact aX; exact aX; (focus exact zCrc4); (focus exact zCrc4)) | (apply od_and32; exact aX; exact aX; (focus exact zCrc4); (focus exact zCrc4)) | (apply od_or32; exact aX; exact aX; (focus exact zCrc4); (focus exact zCrc4)) | (apply od_shr32; exact aX; exact aX; (focus exact zCrc4); (focus exact zCrc5); (focus decide)) | (apply od_shl32; exact aX; exact aX; (focus exact zCrc4); (focus exact zCrc5); (focus decide)) | (apply od_not32; exact aX; (focus exact zCrc4)) | (apply od_indexA; exact aX; exact aX; (focus exact zCrc5); (focus (first | omega | exact and15_lt _))) | (apply od_load_one; exact aX; exact aG; (focus (first | exact tbl_at _ | assumption)))))) : A := h
theorem wCrc1 {A B : Prop} (k : B) (h : Kx B → A := by intro k; (first | (refine is_pu ?_ (by rfl); first | ((first | apply hd_ok | apply ch_ok | (apply hd_pn_run; rfl; exact aM)); (focus exact zCrc1); rfl; rfl) | refine hd_opAB ?_) | (refine is_pn ?_; first | refine hd_pn_nil ?_ | ((first | apply hd_ok | apply ch_ok | (apply hd_pn_run; rfl; exact aM)); (focus exact zCrc1); rfl; rfl) | refine hd_pnAB ?_ | (refine hd_pn_op rfl ?_)) | (refine is_co ?_; first | ((first | apply hd_ok | apply ch_ok); (focus exact zCrc2); rfl; rfl) | refine hd_storeA ?_ | refine hd_copyA ?_ | refine hd_storeRA ?_) | (refine is_ni ?_; first | (refine is_on ?_; first | refine pn_barA ?_ | refine pn_goA ?_ | refine pt_goA ?_ | refine ts_onA ?_) | refine hd_nil ?_) | refine wkA ?_ | (refine is_ch ?_; refine ch_opAB ?_) | ((first | apply hd_ok | apply ch_ok); (focus exact zCrc2); rfl; rfl)); exact k.go) : A := h ⟨k⟩
theorem wCrc2 {A B : Prop} (k : B) (h : Kx B → A := by intro k; ((refine is_cw ?_; refine is_rg ?_; first | refine hd_draw follows_any (by decide +kernel) ?_)); exact k.go) : A := h ⟨k⟩
theorem wCrc3 {A B : Prop} (k : B) (h : Kx B → A := by intro k; ((refine is_cw ?_; refine is_cd ?_; first | (refine hd_condT (by exact aX) (by (first | rfl | (rw [hls]; rfl) | (simp only [decide_eq_true_eq, decide_eq_false_iff_not]; omega) | fail)) ?_) | (refine hd_condF (by exact aX) (by (first | rfl | (rw [hls]; rfl) | (simp only [decide_eq_true_eq, decide_eq_false_iff_not]; omega) | fail)) ?_))); exact k.go) : A := h ⟨k⟩
theorem wCrc4 {A B : Prop} (k : B) (h : Kx B → A := by intro k; (first | (refine is_pu ?_ (by rfl); first | ((first | apply hd_ok | apply ch_ok | (apply hd_pn_run; rfl; exact aM)); (focus exact zCrc1); rfl; rfl) | refine hd_opAB ?_) | (refine is_pn ?_; first | refine hd_pn_nil ?_ | ((first | apply hd_ok | apply ch_ok | (apply hd_pn_run; rfl; exact aM)); (focus exact zCrc1); rfl; rfl) | refine hd_pnAB ?_ | (refine hd_pn_op rfl ?_)) | (refine is_co ?_; first | (apply hd_storeX (cs' := tblN (i + 1)); exact aX; exact aX; rfl; exact aW; rfl; (focus (simp only [tblN_len, List.length_singleton]; omega)); rfl; exact hset) | ((first | apply hd_ok | apply ch_ok); (focus exact zCrc2); rfl; rfl) | refine hd_storeA ?_ | refine hd_copyA ?_ | refine hd_storeRA ?_) | (refine is_ni ?_; first | (refine is_on ?_; first | refine pn_barA ?_ | refine pn_goA ?_ | refine pt_goA ?_ | refine ts_onA ?_) | refine hd_nil ?_) | refine wkA ?_ | (refine is_ch ?_; refine ch_opAB ?_) | ((first | apply hd_ok | apply ch_ok); (focus exact zCrc2); rfl; rfl)); exact k.go) : A := h ⟨k⟩
theorem wCrc5 {A B : Prop} (k : B) (h : Kx B → A := by intro k; (first | (refine is_pu ?_ (by rfl); first | ((first | apply hd_ok | apply ch_ok | (apply hd_pn_run; rfl; exact aM)); (focus exact zCrc1); rfl; rfl) | refine hd_opAB ?_) | (refine is_pn ?_; first | refine hd_pn_nil ?_ | ((first | apply hd_ok | apply ch_ok | (apply hd_pn_run; rfl; exact aM)); (focus exact zCrc1); rfl; rfl) | refine hd_pnAB ?_ | (refine hd_pn_op rfl ?_)) | (refine is_co ?_; first | (apply hd_storeX (cs' := tblV); exact aX; exact aX; rfl; exact aW; rfl; (focus (simp only [tblN_len, tblV_len]; omega)); rfl; rfl) | ((first | apply hd_ok | apply ch_ok); (focus exact zCrc2); rfl; rfl) | refine hd_storeA ?_ | refine hd_copyA ?_ | refine hd_storeRA ?_) | (refine is_ni ?_; first | (refine is_on ?_; first | refine pn_barA ?_ | refine pn_goA ?_ | refine pt_goA ?_ | refine ts_onA ?_) | refine hd_nil ?_) | refine wkA ?_ | (refine is_ch ?_; refine ch_opAB ?_) | ((first | apply hd_ok | apply ch_ok); (focus exact zCrc2); rfl; rfl)); exact k.go) : A := h ⟨k⟩
theorem crc_halves (h : PH) : Det Tryz.prog 135 #[] h (.agg tblV.toArray) := by
  refine spec_enter (args := []) Tryz.func135 rfl Tryz.ntmps135 rfl (fun w l => ?_)
  repeat' (first | refine wCrc2 ?_ | refine wCrc3 ?_ | (refine is_cd ?_; first | refine hd_condA (fun _ => ?_) (fun _ => ?_)) | refine wCrc1 ?_ | refine wkB (fun _ => ?_) | refine wkC (fun _ _ => ?_) | exact tsA | (refine ts_step rfl (fun HF h1 hle => ?_)))
  rename_i b0 b1
  refine hd_loopS (ι := Nat) (fun i => i ≤ 16) (fun i => [(0, [], .pointer (some ⟨b0, 0, none⟩)), (1, [], .pointer (some ⟨b1, 0, none⟩)), (5, [], .int .i64 i)]) (fun i => [box b1 (tblN i) 149, box b0 (tblN 0) 149]) (fun _ => h) (fun i => 16 - i) 0 (by omega) (by exact aU) (fun _ hw => hw) (fun i hi => ?_)
  refine hd_split (c := decide (i < 16)) (fun hlt => ?_) (fun hlt => ?_)
  · simp only [decide_eq_true_eq] at hlt
    repeat' (first | refine wCrc2 ?_ | refine wCrc3 ?_ | (refine is_cd ?_; first | refine hd_condA (fun _ => ?_) (fun _ => ?_)) | refine wCrc1 ?_ | refine wkB (fun _ => ?_) | refine wkC (fun _ _ => ?_) | exact tsA | (refine ts_step rfl (fun HF h1 hle => ?_)))
    refine hd_loopS (ι := Nat) (fun k => k ≤ 4) (fun k => [(0, [], .pointer (some ⟨b0, 0, none⟩)), (1, [], .pointer (some ⟨b1, 0, none⟩)), (2, [], .int .i64 i), (3, [], .int .u32 ((stN k (BitVec.ofNat 32 i)).toNat : Int)), (5, [], .int .i64 i), (10, [], .int .i64 k)]) (fun _ => [box b1 (tblN i) 149, box b0 (tblN 0) 149]) (fun _ => h) (fun k => 4 - k) 0 (by omega) (by (repeat (first | exact Sub.nil | (apply Sub.cons; rfl; (focus (first | rfl | (congr 1; simp [stN]; omega) | (congr 1; omega)))))); done) (fun _ hw => hw) (fun k hk => ?_)
    refine hd_split (c := decide (k < 4)) (fun hlk => ?_) (fun hlk => ?_)
    · simp only [decide_eq_true_eq] at hlk
      have hls := lsb_and (stN k (BitVec.ofNat 32 i))
      have hsn := stN_succ k (BitVec.ofNat 32 i)
      generalize stN k (BitVec.ofNat 32 i) = r at *
      refine hd_split (c := r.getLsbD 0) (fun hb => ?_) (fun hb => ?_)
      · rw [hb] at hls
        have hso := st_odd hb
        repeat' (first | refine wCrc2 ?_ | refine wCrc3 ?_ | (refine is_cd ?_; first | refine hd_condA (fun _ => ?_) (fun _ => ?_)) | refine wCrc1 ?_ | refine wkB (fun _ => ?_) | refine wkC (fun _ _ => ?_) | exact tsA | (refine ts_step rfl (fun HF h1 hle => ?_)))
        refine hd_again (k + 1) (by omega) (by omega) (by rw [hsn, hso]; exact aU) (fun w hw => hw)
      · rw [hb] at hls
        have hso := st_even hb
        repeat' (first | refine wCrc2 ?_ | refine wCrc3 ?_ | (refine is_cd ?_; first | refine hd_condA (fun _ => ?_) (fun _ => ?_)) | refine wCrc1 ?_ | refine wkB (fun _ => ?_) | refine wkC (fun _ _ => ?_) | exact tsA | (refine ts_step rfl (fun HF h1 hle => ?_)))
        refine hd_again (k + 1) (by omega) (by omega) (by rw [hsn, hso]; exact aU) (fun w hw => hw)
    · simp only [decide_eq_false_iff_not] at hlk
      have hk4 : k = 4 := by omega
      subst hk4
      have hl := tblN_len i
      have hset := tblN_set hlt
      have hst : stN 4 (BitVec.ofNat 32 i) = st4 (BitVec.ofNat 32 i) := rfl
      rw [hst]
      repeat' (first | refine wCrc2 ?_ | refine wCrc3 ?_ | (refine is_cd ?_; first | refine hd_condA (fun _ => ?_) (fun _ => ?_)) | refine wCrc4 ?_ | refine wkB (fun _ => ?_) | refine wkC (fun _ _ => ?_) | exact tsA | (refine ts_step rfl (fun HF h1 hle => ?_)))
      refine hd_again (i + 1) (by omega) (by omega) (by exact aU) (fun w hw => hw)
  · simp only [decide_eq_false_iff_not] at hlt
    have hi6 : i = 16 := by omega
    subst hi6
    rw [tblN_16]
    repeat' (first | refine wCrc2 ?_ | refine wCrc3 ?_ | (refine is_cd ?_; first | refine hd_condA (fun _ => ?_) (fun _ => ?_)) | refine wCrc5 ?_ | refine wkB (fun _ => ?_) | refine wkC (fun _ _ => ?_) | exact tsA | (refine ts_step rfl (fun HF h1 hle => ?_)))
    ((repeat (refine hd_undefer (by first | exact .inl rfl | exact .inr rfl) (by exact aP) ?_)); apply hd_res0; (focus (first | exact .inl rfl | exact .inr rfl)); rfl; exact aR)
    rfl
theorem zCrc3 {A : Prop} (h : A := by ((first | (apply OK.plain; rfl) | (apply OK.guarded; rfl; rfl; (intro hg; (try have hk := hg.2); (try have hl := hg.2.2); (try have hm := hg.2.2.2)))); (first | (apply od_call; exact aX; infer_instance; exact aE; exact aN; (focus (first | exact crc_halves _))) ))) : A := h
theorem wCrc6 {A B : Prop} (k : B) (h : Kx B → A := by intro k; (first | (refine is_pu ?_ (by rfl); first | ((first | apply hd_ok | apply ch_ok | (apply hd_pn_run; rfl; exact aM)); (focus exact zCrc1); rfl; rfl) | refine hd_opAB ?_) | (refine is_pn ?_; first | refine hd_pn_nil ?_ | ((first | apply hd_ok | apply ch_ok | (apply hd_pn_run; rfl; exact aM)); (focus exact zCrc1); rfl; rfl) | refine hd_pnAB ?_ | (refine hd_pn_op rfl ?_)) | (refine is_co ?_; first | (apply hd_storeX (cs' := tblV); exact aX; exact aX; rfl; exact aW; rfl; (focus (simp only [tblV_len]; decide)); rfl; rfl) | ((first | apply hd_ok | apply ch_ok); (focus exact zCrc3); rfl; rfl) | refine hd_storeA ?_ | refine hd_copyA ?_ | refine hd_storeRA ?_) | (refine is_ni ?_; first | (refine is_on ?_; first | refine pn_barA ?_ | refine pn_goA ?_ | refine pt_goA ?_ | refine ts_onA ?_) | refine hd_nil ?_) | refine wkA ?_ | (refine is_ch ?_; refine ch_opAB ?_) | ((first | apply hd_ok | apply ch_ok); (focus exact zCrc3); rfl; rfl)); exact k.go) : A := h ⟨k⟩
theorem wCrc7 {A B : Prop} (k : B) (h : Kx B → A := by intro k; ((refine is_cw ?_; refine is_cd ?_; first | (refine hd_condT (by exact aX) (by (first | rfl | (simp only [decide_eq_true_eq, decide_eq_false_iff_not]; omega) | fail)) ?_) | (refine hd_condF (by exact aX) (by (first | rfl | (simp only [decide_eq_true_eq, decide_eq_false_iff_not]; omega) | fail)) ?_))); exact k.go) : A := h ⟨k⟩
theorem wCrc8 {A B : Prop} (k : B) (h : Kx B → A := by intro k; (first | (refine is_pu ?_ (by rfl); first | ((first | apply hd_ok | apply ch_ok | (apply hd_pn_run; rfl; exact aM)); (focus exact zCrc1); rfl; rfl) | refine hd_opAB ?_) | (refine is_pn ?_; first | refine hd_pn_nil ?_ | ((first | apply hd_ok | apply ch_ok | (apply hd_pn_run; rfl; exact aM)); (focus exact zCrc1); rfl; rfl) | refine hd_pnAB ?_ | (refine hd_pn_op rfl ?_)) | (refine is_co ?_; first | ((first | apply hd_ok | apply ch_ok); (focus exact zCrc3); rfl; rfl) | refine hd_storeA ?_ | refine hd_copyA ?_ | refine hd_storeRA ?_) | (refine is_ni ?_; first | (refine is_on ?_; first | refine pn_barA ?_ | refine pn_goA ?_ | refine pt_goA ?_ | refine ts_onA ?_) | refine hd_nil ?_) | refine wkA ?_ | (refine is_ch ?_; refine ch_opAB ?_) | ((first | apply hd_ok | apply ch_ok); (focus exact zCrc3); rfl; rfl)); exact k.go) : A := h ⟨k⟩
theorem crc_More {p : Option Addr} {n c : Nat} {bs : List Int} {r : W32} (h : PH) (hs : Bs h p n c bs) : Det Tryz.prog 62 #[.int .u32 (r.toNat : Int), .slice p n c] h (.int .u32 ((moreB r bs).toNat : Int)) := by
  have hl := hs.len
  have ht := hs.top
  refine spec_enter (args := [_, _]) Tryz.func62 rfl Tryz.ntmps62 rfl (fun w l => ?_)
  repeat' (first | refine wCrc2 ?_ | refine wCrc7 ?_ | (refine is_cd ?_; first | refine hd_condA (fun _ => ?_) (fun _ => ?_)) | refine wCrc6 ?_ | refine wkB (fun _ => ?_) | refine wkC (fun _ _ => ?_) | exact tsA | (refine ts_step rfl (fun HF h1 hle => ?_)))
  rename_i b5
  refine hd_loopS (ι := Nat) (fun i => i ≤ n) (fun i => [(5, [], .pointer (some ⟨b5, 0, none⟩)), (6, [], .int .u32 (((bs.take i).foldl stepB (~~~ r)).toNat : Int)), (12, [], .slice p n c), (13, [], .int .i64 n), (14, [], .int .i64 i)]) (fun _ => [box b5 tblV 149]) (fun _ => h) (fun i => n - i) 0 (by omega) (by exact aU) (fun _ hw => hw) (fun i hi => ?_)
  refine hd_split (c := decide (i < n)) (fun hlt => ?_) (fun hlt => ?_)
  · simp only [decide_eq_true_eq] at hlt
    obtain ⟨y, hy⟩ := get_of hl hlt
    obtain ⟨hpub, hy0, hy1, hptr⟩ := el8_at hs hy
    have hyb := bv_of (n := y) (inR_u32 (by omega) (by omega))
    have hstep : (bs.take (i + 1)).foldl stepB (~~~ r) = stepB ((bs.take i).foldl stepB (~~~ r)) y := by rw [take_step hy, List.foldl_append]; rfl
    rw [step_eq] at hstep
    generalize (bs.take i).foldl stepB (~~~ r) = R at *
    repeat' (first | refine wCrc2 ?_ | refine wCrc7 ?_ | (refine is_cd ?_; first | refine hd_condA (fun _ => ?_) (fun _ => ?_)) | refine wCrc8 ?_ | refine wkB (fun _ => ?_) | refine wkC (fun _ _ => ?_) | exact tsA | (refine ts_step rfl (fun HF h1 hle => ?_)))
    refine hd_again (i + 1) (by omega) (by omega) (by rw [hstep]; exact aU) (fun w hw => hw)
  · simp only [decide_eq_false_iff_not] at hlt
    rw [List.take_of_length_le (by omega)]
    repeat' (first | refine wCrc2 ?_ | refine wCrc7 ?_ | (refine is_cd ?_; first | refine hd_condA (fun _ => ?_) (fun _ => ?_)) | refine wCrc8 ?_ | refine wkB (fun _ => ?_) | refine wkC (fun _ _ => ?_) | exact tsA | (refine ts_step rfl (fun HF h1 hle => ?_)))
    ((repeat (refine hd_undefer (by first | exact .inl rfl | exact .inr rfl) (by exact aP) ?_)); apply hd_res0; (focus (first | exact .inl rfl | exact .inr rfl)); rfl; exact aR)
    exact ret_u32 rfl
theorem zCrc7 {A : Prop} (h : A := by ((first | (apply OK.plain; rfl) | (apply OK.guarded; rfl; rfl; (intro hg; (try have hk := hg.2); (try have hl := hg.2.2); (try have hm := hg.2.2.2)))); (first | (apply od_call; exact aX; infer_instance; exact aE; exact aN; (focus (first | exact crc_More (r := 0#32) _ (by assumption)))) ))) : A := h
theorem wCrc9 {A B : Prop} (k : B) (h : Kx B → A := by intro k; (first | (refine is_pu ?_ (by rfl); first | ((first | apply hd_ok | apply ch_ok | (apply hd_pn_run; rfl; exact aM)); (focus exact zCrc1); rfl; rfl) | refine hd_opAB ?_) | (refine is_pn ?_; first | refine hd_pn_nil ?_ | ((first | apply hd_ok | apply ch_ok | (apply hd_pn_run; rfl; exact aM)); (focus exact zCrc1); rfl; rfl) | refine hd_pnAB ?_ | (refine hd_pn_op rfl ?_)) | (refine is_co ?_; first | ((first | apply hd_ok | apply ch_ok); (focus exact zCrc7); rfl; rfl) | refine hd_storeA ?_ | refine hd_copyA ?_ | refine hd_storeRA ?_) | (refine is_ni ?_; first | (refine is_on ?_; first | refine pn_barA ?_ | refine pn_goA ?_ | refine pt_goA ?_ | refine ts_onA ?_) | refine hd_nil ?_) | refine wkA ?_ | (refine is_ch ?_; refine ch_opAB ?_) | ((first | apply hd_ok | apply ch_ok); (focus exact zCrc7); rfl; rfl)); exact k.go) : A := h ⟨k⟩
theorem crc_Sum {p : Option Addr} {n c : Nat} {bs : List Int} (h : PH) (hs : Bs h p n c bs) : Det Tryz.prog 42 #[.slice p n c] h (.int .u32 ((sumB bs).toNat : Int)) := by
  refine spec_enter (args := [_]) Tryz.func42 rfl Tryz.ntmps42 rfl (fun w l => ?_)
  repeat' (first | refine wCrc2 ?_ | refine wCrc7 ?_ | (refine is_cd ?_; first | refine hd_condA (fun _ => ?_) (fun _ => ?_)) | refine wCrc9 ?_ | refine wkB (fun _ => ?_) | refine wkC (fun _ _ => ?_) | exact tsA | (refine ts_step rfl (fun HF h1 hle => ?_)))
  ((repeat (refine hd_undefer (by first | exact .inl rfl | exact .inr rfl) (by exact aP) ?_)); apply hd_res0; (focus (first | exact .inl rfl | exact .inr rfl)); rfl; exact aR)
  rfl
theorem bits_rev (r : W32) (h : PH) : Det Tryz.prog 41 #[.int .u32 (r.toNat : Int)] h (.int .u32 ((rev32 r).toNat : Int)) := by
  refine spec_enter (args := [_]) Tryz.func41 rfl Tryz.ntmps41 rfl (fun w l => ?_)
  repeat' (first | refine wCrc2 ?_ | refine wCrc7 ?_ | (refine is_cd ?_; first | refine hd_condA (fun _ => ?_) (fun _ => ?_)) | refine wCrc1 ?_ | refine wkB (fun _ => ?_) | refine wkC (fun _ _ => ?_) | exact tsA | (refine ts_step rfl (fun HF h1 hle => ?_)))
  ((repeat (refine hd_undefer (by first | exact .inl rfl | exact .inr rfl) (by exact aP) ?_)); apply hd_res0; (focus (first | exact .inl rfl | exact .inr rfl)); rfl; exact aR)
  exact ret_u32 rfl
theorem wCrc10 {A B : Prop} (k : B) (h : Kx B → A := by intro k; ((refine is_cw ?_; refine is_cd ?_; first | (refine hd_condT (by exact aX) (by (first | rfl | (rw [hout]; rfl) | (simp only [decide_eq_true_eq, decide_eq_false_iff_not]; omega) | fail)) ?_) | (refine hd_condF (by exact aX) (by (first | rfl | (rw [hout]; rfl) | (simp only [decide_eq_true_eq, decide_eq_false_iff_not]; omega) | fail)) ?_))); exact k.go) : A := h ⟨k⟩
/-! ### The document's -/
theorem ref2_More {p : Option Addr} {n c : Nat} {bs : List Int} {r : W32} (h : PH) (hs : Bs h p n c bs) : Det Tryz.prog 52 #[.int .u32 (r.toNat : Int), .slice p n c] h (.int .u32 ((moreB r bs).toNat : Int)) := by
  have hl := hs.len
  have ht := hs.top
  have hrl := r.isLt
  have hnot : (4294967295 : Int) - (r.toNat : Int) = ((~~~ r).toNat : Int) := by rw [BitVec.toNat_not]; omega
  refine spec_enter (args := [_, _]) Tryz.func52 rfl Tryz.ntmps52 rfl (fun w l => ?_)
  repeat' (first | refine wCrc2 ?_ | refine wCrc10 ?_ | (refine is_cd ?_; first | refine hd_condA (fun _ => ?_) (fun _ => ?_)) | refine wCrc1 ?_ | refine wkB (fun _ => ?_) | refine wkC (fun _ _ => ?_) | exact tsA | (refine ts_step rfl (fun HF h1 hle => ?_)))
  refine hd_loopS (ι := Nat) (fun i => i ≤ n) (fun i => [(1, [], .slice p n c), (5, [], .int .u32 (((bs.take i).foldl stepB (~~~ r)).toNat : Int)), (6, [], .int .i64 i)]) (fun _ => []) (fun _ => h) (fun i => n - i) 0 (by omega) (by rw [List.take_zero, List.foldl_nil, ← hnot]; exact aU) (fun _ hw => hw) (fun i hi => ?_)
  have hkeep : moreB r bs = ~~~ (bs.foldl stepB (~~~ r)) := rfl
  refine hd_split (c := decide (i < n)) (fun hlt => ?_) (fun hlt => ?_)
  · simp only [decide_eq_true_eq] at hlt
    obtain ⟨y, hy⟩ := get_of hl hlt
    obtain ⟨hpub, hy0, hy1, hptr⟩ := el8_at hs hy
    have hyb := bv_of (n := y) (inR_u32 (by omega) (by omega))
    have hstep : (bs.take (i + 1)).foldl stepB (~~~ r) = stepB ((bs.take i).foldl stepB (~~~ r)) y := by rw [take_step hy, List.foldl_append]; rfl
    have hsh := shr8 (c := y) ⟨hy0, hy1⟩
    generalize (bs.take i).foldl stepB (~~~ r) = R at *
    repeat' (first | refine wCrc2 ?_ | refine wCrc10 ?_ | (refine is_cd ?_; first | refine hd_condA (fun _ => ?_) (fun _ => ?_)) | refine wCrc1 ?_ | refine wkB (fun _ => ?_) | refine wkC (fun _ _ => ?_) | exact tsA | (refine ts_step rfl (fun HF h1 hle => ?_)))
    refine hd_loopS (ι := Nat × W32) (fun k => k.1 ≤ 8 ∧ k.2 ^^^ (BitVec.ofInt 32 y >>> k.1) = stN k.1 (R ^^^ BitVec.ofInt 32 y)) (fun k => [(1, [], .slice p n c), (5, [], .int .u32 (k.2.toNat : Int)), (6, [], .int .i64 i), (7, [], .int .u32 ((BitVec.ofInt 32 y >>> k.1).toNat : Int)), (8, [], .int .i64 k.1)]) (fun _ => []) (fun _ => h) (fun k => 8 - k.1) (0, R) ⟨by simp, by simp [stN]⟩ (by (repeat (first | exact Sub.nil | (apply Sub.cons; rfl; (focus (first | rfl | (rw [BitVec.ushiftRight_zero, ← hyb]) | (congr 1; omega)))))); done) (fun _ hw => inv_only .nil hw) (fun k hk => ?_)
    obtain ⟨k, q⟩ := k
    obtain ⟨hk1, hk2⟩ := hk
    simp only at hk1 hk2
    simp only
    refine hd_split (c := decide (k < 8)) (fun hlk => ?_) (fun hlk => ?_)
    · simp only [decide_eq_true_eq] at hlk
      have hsn := stN_succ k (R ^^^ BitVec.ofInt 32 y)
      have hsc : (BitVec.ofInt 32 y >>> k) >>> 1 = BitVec.ofInt 32 y >>> (k + 1) := by rw [BitVec.shiftRight_add]
      generalize BitVec.ofInt 32 y >>> k = cc at *
      have hout := out_eq q cc
      have hw0 : 0 ≤ IntKind.u32.wrap ((q.toNat : Int) + (cc.toNat : Int)) := by simp [IntKind.wrap, IntKind.bits, IntKind.signed]; omega
      have hh1 := half_eq q
      have hh2 := half_eq cc
      have hst2 := st_two q cc
      rw [hsc] at hst2
      rw [hsc] at hh2
      have hq1 := (q >>> 1).isLt
      have hqq := q.isLt
      have hcq := cc.isLt
      refine hd_split (c := lsb (q ^^^ cc)) (fun hb => ?_) (fun hb => ?_)
      · rw [hb] at hout hst2
        repeat' (first | refine wCrc2 ?_ | refine wCrc10 ?_ | (refine is_cd ?_; first | refine hd_condA (fun _ => ?_) (fun _ => ?_)) | refine wCrc1 ?_ | refine wkB (fun _ => ?_) | refine wkC (fun _ _ => ?_) | exact tsA | (refine ts_step rfl (fun HF h1 hle => ?_)))
        refine hd_again (k + 1, (q >>> 1) ^^^ 2197175160#32) ⟨by simp only; omega, by simp only; rw [hsn, ← hk2, hst2]; rfl⟩ (by simp only; omega) (by simp only; rw [← hh2]; exact aU) (fun w hw => inv_only .nil hw)
      · rw [hb] at hout hst2
        repeat' (first | refine wCrc2 ?_ | refine wCrc10 ?_ | (refine is_cd ?_; first | refine hd_condA (fun _ => ?_) (fun _ => ?_)) | refine wCrc1 ?_ | refine wkB (fun _ => ?_) | refine wkC (fun _ _ => ?_) | exact tsA | (refine ts_step rfl (fun HF h1 hle => ?_)))
        refine hd_again (k + 1, q >>> 1) ⟨by simp only; omega, by simp only; rw [hsn, ← hk2, hst2]; simp⟩ (by simp only; omega) (by simp only; rw [← hh2, ← hh1]; exact aU) (fun w hw => inv_only .nil hw)
    · simp only [decide_eq_false_iff_not] at hlk
      have hk8 : k = 8 := by omega
      subst hk8
      rw [hsh, BitVec.xor_zero, stN8] at hk2
      repeat' (first | refine wCrc2 ?_ | refine wCrc10 ?_ | (refine is_cd ?_; first | refine hd_condA (fun _ => ?_) (fun _ => ?_)) | refine wCrc1 ?_ | refine wkB (fun _ => ?_) | refine wkC (fun _ _ => ?_) | exact tsA | (refine ts_step rfl (fun HF h1 hle => ?_)))
      refine hd_again (i + 1) (by omega) (by omega) (by rw [hstep, stepB, ← hk2]; exact aU) (fun w hw => inv_only .nil hw)
  · simp only [decide_eq_false_iff_not] at hlt
    rw [List.take_of_length_le (by omega)]
    have hRl := (bs.foldl stepB (~~~ r)).isLt
    have hRn : (4294967295 : Int) - ((bs.foldl stepB (~~~ r)).toNat : Int) = ((~~~ (bs.foldl stepB (~~~ r))).toNat : Int) := by rw [BitVec.toNat_not]; omega
    repeat' (first | refine wCrc2 ?_ | refine wCrc10 ?_ | (refine is_cd ?_; first | refine hd_condA (fun _ => ?_) (fun _ => ?_)) | refine wCrc1 ?_ | refine wkB (fun _ => ?_) | refine wkC (fun _ _ => ?_) | exact tsA | (refine ts_step rfl (fun HF h1 hle => ?_)))
    ((repeat (refine hd_undefer (by first | exact .inl rfl | exact .inr rfl) (by exact aP) ?_)); apply hd_res0; (focus (first | exact .inl rfl | exact .inr rfl)); rfl; exact aR)
    rw [hRn]
    exact ret_u32 rfl
theorem zCrc6 {A : Prop} (h : A := by ((first | (apply OK.plain; rfl) | (apply OK.guarded; rfl; rfl; (intro hg; (try have hk := hg.2); (try have hl := hg.2.2); (try have hm := hg.2.2.2)))); (first | (apply od_call; exact aX; infer_instance; exact aE; exact aN; (focus (first | exact ref2_More (r := 0#32) _ (by assumption)))) ))) : A := h
theorem wCrc11 {A B : Prop} (k : B) (h : Kx B → A := by intro k; (first | (refine is_pu ?_ (by rfl); first | ((first | apply hd_ok | apply ch_ok | (apply hd_pn_run; rfl; exact aM)); (focus exact zCrc1); rfl; rfl) | refine hd_opAB ?_) | (refine is_pn ?_; first | refine hd_pn_nil ?_ | ((first | apply hd_ok | apply ch_ok | (apply hd_pn_run; rfl; exact aM)); (focus exact zCrc1); rfl; rfl) | refine hd_pnAB ?_ | (refine hd_pn_op rfl ?_)) | (refine is_co ?_; first | ((first | apply hd_ok | apply ch_ok); (focus exact zCrc6); rfl; rfl) | refine hd_storeA ?_ | refine hd_copyA ?_ | refine hd_storeRA ?_) | (refine is_ni ?_; first | (refine is_on ?_; first | refine pn_barA ?_ | refine pn_goA ?_ | refine pt_goA ?_ | refine ts_onA ?_) | refine hd_nil ?_) | refine wkA ?_ | (refine is_ch ?_; refine ch_opAB ?_) | ((first | apply hd_ok | apply ch_ok); (focus exact zCrc6); rfl; rfl)); exact k.go) : A := h ⟨k⟩
theorem ref2_Sum {p : Option Addr} {n c : Nat} {bs : List Int} (h : PH) (hs : Bs h p n c bs) : Det Tryz.prog 34 #[.slice p n c] h (.int .u32 ((sumB bs).toNat : Int)) := by
  refine spec_enter (args := [_]) Tryz.func34 rfl Tryz.ntmps34 rfl (fun w l => ?_)
  repeat' (first | refine wCrc2 ?_ | refine wCrc10 ?_ | (refine is_cd ?_; first | refine hd_condA (fun _ => ?_) (fun _ => ?_)) | refine wCrc11 ?_ | refine wkB (fun _ => ?_) | refine wkC (fun _ _ => ?_) | exact tsA | (refine ts_step rfl (fun HF h1 hle => ?_)))
  ((repeat (refine hd_undefer (by first | exact .inl rfl | exact .inr rfl) (by exact aP) ?_)); apply hd_res0; (focus (first | exact .inl rfl | exact .inr rfl)); rfl; exact aR)
  rfl
end Go.Proofs.YtmpfeaoofkkhjaaGreat
