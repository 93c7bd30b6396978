/- The laws' own helpers on rings; the chapter's examples hold; readable arguments. -/
import Derived.Test.YtddhljoglhfhdaaRngC
import Derived.Test.YtddhljoglhfhdaaFSch
namespace Go.Proofs.Ytddhljoglhfhdaa
open Go Go.GV
attribute [local irreducible] cw Go.GV.SpecM Go.GV.wpList Exit.then Exit.inBlock Go.GV.bodyPost wpPl wpPm wpPn TS rnd rPost YieldsB wpPT ptK
set_option maxRecDepth 10000
set_option maxHeartbeats 8000000
set_option linter.unusedVariables false
set_option linter.unusedSimpArgs false

theorem law13_Same {u v : Value} {r t : RD} (h : PH) (hu : VRg h u r) (hv : VRg h v t) : Det Try.prog 14 #[u, v] h (.bool (decide (r = t))) := by
  obtain ⟨p, n, c, q, m, d, rfl, h1, h2, h3, h4⟩ := hu
  obtain ⟨p', n', c', q', m', d', rfl, h1', h2', h3', h4'⟩ := hv
  refine spec_enter (args := [_, _]) Try.func14 rfl Try.ntmps14 rfl (fun w l => ?_)
  repeat' (first | (refine is_pu ?_ (by rfl); first  | fail | refine hd_opAB ?_ | fail) | (refine is_pn ?_; first | refine hd_pn_nil ?_ | fail  | fail | refine hd_pnAB ?_ | fail | (refine hd_pn_op rfl ?_)) | (refine is_co ?_; first | fail  | ((first | apply hd_ok | apply ch_ok); (focus ((first | (apply OK.plain; rfl) | (apply OK.guarded; rfl; rfl; (intro hg; (try have hk := hg.2); (try have hl := hg.2.2); (try have hm := hg.2.2.2)))); (first | (apply od_call; exact aX; infer_instance; exact aE; exact aN; (focus (first | exact low_Desc _ (VDs.of h1 h2) (VDs.of h1' h2') | exact low_Desc _ (VDs.of h3 h4) (VDs.of h3' h4')))) ))); rfl; rfl) | refine hd_storeA ?_ | refine hd_boxA (fun _ => ?_) | refine hd_alloc rfl (fun _ => ?_) | refine hd_makeA (fun _ => ?_) | refine hd_copyA ?_ | refine hd_litA (fun _ => ?_) | refine hd_appendA (fun _ _ => ?_) | refine hd_storeRA ?_) | (refine is_ni ?_; first | (refine is_on ?_; first | refine pn_barA ?_ | refine pn_goA ?_ | refine pt_goA ?_  | refine ts_onA ?_) | refine hd_nil ?_) | (refine is_cw ?_; first | (refine is_rg ?_; first | fail | fail | refine hd_draw follows_any (by decide +kernel) ?_) | (refine is_cd ?_; first | (refine hd_cond (by exact aX) (fun _ => ?_) (fun _ => ?_))) | fail | refine wkA ?_) | refine wkA ?_ | (refine is_ch ?_; refine ch_opAB ?_) | ((first | apply hd_ok | apply ch_ok); (focus ((first | (apply OK.plain; rfl) | (apply OK.guarded; rfl; rfl; (intro hg; (try have hk := hg.2); (try have hl := hg.2.2); (try have hm := hg.2.2.2)))); (first | (apply od_call; exact aX; infer_instance; exact aE; exact aN; (focus (first | exact low_Desc _ (VDs.of h1 h2) (VDs.of h1' h2') | exact low_Desc _ (VDs.of h3 h4) (VDs.of h3' h4')))) ))); rfl; rfl) | fail | fail | exact tsA | fail | (refine ts_step rfl (fun HF h1 hle => ?_)) | fail | fail)
  all_goals ((repeat (refine hd_undefer (by first | exact .inl rfl | exact .inr rfl) (by exact aP) ?_)); apply hd_res0; (focus (first | exact .inl rfl | exact .inr rfl)); rfl; exact aR)
  refine ret_bool ?_
  obtain ⟨a0, a1, a2, a3⟩ := r
  obtain ⟨b0, b1, b2, b3⟩ := t
  rw [Bool.eq_iff_iff]
  simp
  constructor
  · rintro ⟨⟨⟨e1, e2⟩, e3⟩, e4⟩; exact ⟨e1, e2, e3, e4⟩
  · rintro ⟨e1, e2, e3, e4⟩; exact ⟨⟨⟨e1, e2⟩, e3⟩, e4⟩
def may (s : List Sp) (xs : List DD) : Bool := xs.all (fun d => rightF s d.filter) && right s
theorem law13_May {ps p : Option Addr} {ns cs n c : Nat} {s : List Sp} {xs : List DD} (h : PH) (hs : SlS h ps ns cs s) (hx : SlD h p n c xs) : Det Try.prog 9 #[.slice ps ns cs, .slice p n c] h (.bool (may s xs)) := by
  have hl := hx.len
  have ht := hx.top
  refine spec_enter (args := [_, _]) Try.func9 rfl Try.ntmps9 rfl (fun w l => ?_)
  repeat' (first | (refine is_pu ?_ (by rfl); first  | fail | refine hd_opAB ?_ | fail) | (refine is_pn ?_; first | refine hd_pn_nil ?_ | fail  | fail | refine hd_pnAB ?_ | fail | (refine hd_pn_op rfl ?_)) | (refine is_co ?_; first | fail  | ((first | apply hd_ok | apply ch_ok); (focus ((first | (apply OK.plain; rfl) | (apply OK.guarded; rfl; rfl; (intro hg; (try have hk := hg.2); (try have hl := hg.2.2); (try have hm := hg.2.2.2)))); (first | (apply od_call; exact aX; infer_instance; exact aE; exact aN; (focus (first | exact ref5_Right _ hs g1 | exact ref3_Right _ hs))) ))); rfl; rfl) | refine hd_storeA ?_ | refine hd_boxA (fun _ => ?_) | refine hd_alloc rfl (fun _ => ?_) | refine hd_makeA (fun _ => ?_) | refine hd_copyA ?_ | refine hd_litA (fun _ => ?_) | refine hd_appendA (fun _ _ => ?_) | refine hd_storeRA ?_) | (refine is_ni ?_; first | (refine is_on ?_; first | refine pn_barA ?_ | refine pn_goA ?_ | refine pt_goA ?_  | refine ts_onA ?_) | refine hd_nil ?_) | (refine is_cw ?_; first | (refine is_rg ?_; first | fail | fail | refine hd_draw follows_any (by decide +kernel) ?_) | (refine is_cd ?_; first | (refine hd_cond (by exact aX) (fun _ => ?_) (fun _ => ?_))) | fail | refine wkA ?_) | refine wkA ?_ | (refine is_ch ?_; refine ch_opAB ?_) | ((first | apply hd_ok | apply ch_ok); (focus ((first | (apply OK.plain; rfl) | (apply OK.guarded; rfl; rfl; (intro hg; (try have hk := hg.2); (try have hl := hg.2.2); (try have hm := hg.2.2.2)))); (first | (apply od_call; exact aX; infer_instance; exact aE; exact aN; (focus (first | exact ref5_Right _ hs g1 | exact ref3_Right _ hs))) ))); rfl; rfl) | fail | fail | exact tsA | fail | (refine ts_step rfl (fun HF h1 hle => ?_)) | fail | fail)
  refine hd_loopS (ι := Nat) (fun i => i ≤ n ∧ (xs.take i).all (fun d => rightF s d.filter) = true) (fun i => [(0, [], .slice ps ns cs), (7, [], .slice p n c), (8, [], .int .i64 n), (9, [], .int .i64 i)]) (fun _ => []) (fun _ => h) (fun i => n - i) 0 (by simp) (by exact aU) (fun _ hw => hw) (fun i hi => ?_)
  refine hd_split (c := decide (i < n)) (fun hlt => ?_) (fun hlt => ?_)
  · simp only [decide_eq_true_eq] at hlt
    obtain ⟨y1, hy1⟩ := get_of hl hlt
    obtain ⟨p1, n1, c1, hpub, hr1, g1, hptr⟩ := SlD_at hx hy1
    repeat' (first | (refine is_pu ?_ (by rfl); first  | fail | refine hd_opAB ?_ | fail) | (refine is_pn ?_; first | refine hd_pn_nil ?_ | fail  | fail | refine hd_pnAB ?_ | fail | (refine hd_pn_op rfl ?_)) | (refine is_co ?_; first | fail  | ((first | apply hd_ok | apply ch_ok); (focus ((first | (apply OK.plain; rfl) | (apply OK.guarded; rfl; rfl; (intro hg; (try have hk := hg.2); (try have hl := hg.2.2); (try have hm := hg.2.2.2)))); (first | (apply od_call; exact aX; infer_instance; exact aE; exact aN; (focus (first | exact ref5_Right _ hs g1 | exact ref3_Right _ hs))) ))); rfl; rfl) | refine hd_storeA ?_ | refine hd_boxA (fun _ => ?_) | refine hd_alloc rfl (fun _ => ?_) | refine hd_makeA (fun _ => ?_) | refine hd_copyA ?_ | refine hd_litA (fun _ => ?_) | refine hd_appendA (fun _ _ => ?_) | refine hd_storeRA ?_) | (refine is_ni ?_; first | (refine is_on ?_; first | refine pn_barA ?_ | refine pn_goA ?_ | refine pt_goA ?_  | refine ts_onA ?_) | refine hd_nil ?_) | (refine is_cw ?_; first | (refine is_rg ?_; first | fail | fail | refine hd_draw follows_any (by decide +kernel) ?_) | (refine is_cd ?_; first | (refine hd_condT (by exact aX) (by (first | rfl | assumption | (simp only [decide_eq_true_eq, decide_eq_false_iff_not]; omega) | fail)) ?_) | (refine hd_condF (by exact aX) (by (first | rfl | assumption | (simp only [decide_eq_true_eq, decide_eq_false_iff_not]; omega) | fail)) ?_) | (refine hd_cond (by exact aX) (fun _ => ?_) (fun _ => ?_))) | fail | refine wkA ?_) | refine wkA ?_ | (refine is_ch ?_; refine ch_opAB ?_) | ((first | apply hd_ok | apply ch_ok); (focus ((first | (apply OK.plain; rfl) | (apply OK.guarded; rfl; rfl; (intro hg; (try have hk := hg.2); (try have hl := hg.2.2); (try have hm := hg.2.2.2)))); (first | (apply od_call; exact aX; infer_instance; exact aE; exact aN; (focus (first | exact ref5_Right _ hs g1 | exact ref3_Right _ hs))) ))); rfl; rfl) | fail | fail | exact tsA | fail | (refine ts_step rfl (fun HF h1 hle => ?_)) | fail | fail)
    · rename_i hd
      ((repeat (refine hd_undefer (by first | exact .inl rfl | exact .inr rfl) (by exact aP) ?_)); apply hd_res0; (focus (first | exact .inl rfl | exact .inr rfl)); rfl; exact aR)
      refine ret_bool ?_
      rw [Bool.not_eq_true'] at hd
      unfold may
      rw [all_not hy1 hd]; rfl
    · rename_i hd
      rw [Bool.not_eq_false'] at hd
      refine hd_again (i + 1) ⟨by omega, all_step hy1 hi.2 hd⟩ (by omega) (by exact aU) (fun w hw => inv_only .nil hw)
  · simp only [decide_eq_false_iff_not] at hlt
    repeat' (first | (refine is_pu ?_ (by rfl); first  | fail | refine hd_opAB ?_ | fail) | (refine is_pn ?_; first | refine hd_pn_nil ?_ | fail  | fail | refine hd_pnAB ?_ | fail | (refine hd_pn_op rfl ?_)) | (refine is_co ?_; first | fail  | ((first | apply hd_ok | apply ch_ok); (focus ((first | (apply OK.plain; rfl) | (apply OK.guarded; rfl; rfl; (intro hg; (try have hk := hg.2); (try have hl := hg.2.2); (try have hm := hg.2.2.2)))); (first | (apply od_call; exact aX; infer_instance; exact aE; exact aN; (focus (first | exact ref5_Right _ hs g1 | exact ref3_Right _ hs))) ))); rfl; rfl) | refine hd_storeA ?_ | refine hd_boxA (fun _ => ?_) | refine hd_alloc rfl (fun _ => ?_) | refine hd_makeA (fun _ => ?_) | refine hd_copyA ?_ | refine hd_litA (fun _ => ?_) | refine hd_appendA (fun _ _ => ?_) | refine hd_storeRA ?_) | (refine is_ni ?_; first | (refine is_on ?_; first | refine pn_barA ?_ | refine pn_goA ?_ | refine pt_goA ?_  | refine ts_onA ?_) | refine hd_nil ?_) | (refine is_cw ?_; first | (refine is_rg ?_; first | fail | fail | refine hd_draw follows_any (by decide +kernel) ?_) | (refine is_cd ?_; first | (refine hd_condT (by exact aX) (by (first | rfl | assumption | (simp only [decide_eq_true_eq, decide_eq_false_iff_not]; omega) | fail)) ?_) | (refine hd_condF (by exact aX) (by (first | rfl | assumption | (simp only [decide_eq_true_eq, decide_eq_false_iff_not]; omega) | fail)) ?_) | (refine hd_cond (by exact aX) (fun _ => ?_) (fun _ => ?_))) | fail | refine wkA ?_) | refine wkA ?_ | (refine is_ch ?_; refine ch_opAB ?_) | ((first | apply hd_ok | apply ch_ok); (focus ((first | (apply OK.plain; rfl) | (apply OK.guarded; rfl; rfl; (intro hg; (try have hk := hg.2); (try have hl := hg.2.2); (try have hm := hg.2.2.2)))); (first | (apply od_call; exact aX; infer_instance; exact aE; exact aN; (focus (first | exact ref5_Right _ hs g1 | exact ref3_Right _ hs))) ))); rfl; rfl) | fail | fail | exact tsA | fail | (refine ts_step rfl (fun HF h1 hle => ?_)) | fail | fail)
    ((repeat (refine hd_undefer (by first | exact .inl rfl | exact .inr rfl) (by exact aP) ?_)); apply hd_res0; (focus (first | exact .inl rfl | exact .inr rfl)); rfl; exact aR)
    refine ret_bool ?_
    unfold may
    rw [all_end (by omega) hi.2]; rfl
theorem law13_one (k v : Int) (h : PH) (hv : inR .i32 v) : GV.Spec Try.prog 30 #[.int .u8 k, .int .i32 v] h fun u h' => ∃ p n c, u = .agg #[.int .u8 k, .int .u16 1, .int .u8 0, .slice p n c] ∧ SlS h' p n c [(v, v)] := by
  refine spec_enter (args := [_, _]) Try.func30 rfl Try.ntmps30 rfl (fun w l => ?_)
  repeat' (first | (refine is_pu ?_ (by rfl); first  | fail | refine hd_opAB ?_ | fail) | (refine is_pn ?_; first | refine hd_pn_nil ?_ | fail  | fail | refine hd_pnAB ?_ | fail | (refine hd_pn_op rfl ?_)) | (refine is_co ?_; first | fail  | ((first | apply hd_ok | apply ch_ok); (focus ((first | (apply OK.plain; rfl) | (apply OK.guarded; rfl; rfl; (intro hg; (try have hk := hg.2); (try have hl := hg.2.2); (try have hm := hg.2.2.2)))); (first | (apply od_call; exact aX; infer_instance; exact aE; exact aN; (focus (first | fail))) ))); rfl; rfl) | refine hd_storeA ?_ | refine hd_boxA (fun _ => ?_) | refine hd_alloc rfl (fun _ => ?_) | refine hd_makeA (fun _ => ?_) | refine hd_copyA ?_ | refine hd_litA (fun _ => ?_) | refine hd_appendA (fun _ _ => ?_)) | (refine is_ni ?_; first | (refine is_on ?_; first | refine pn_barA ?_ | refine pn_goA ?_ | refine pt_goA ?_  | refine ts_onA ?_) | refine hd_nil ?_) | (refine is_cw ?_; first | (refine is_rg ?_; first | fail | fail | refine hd_draw follows_any (by decide +kernel) ?_) | (refine is_cd ?_; first | (refine hd_condT (by exact aX) (by (first | rfl | assumption | (simp only [decide_eq_true_eq, decide_eq_false_iff_not]; omega) | fail)) ?_) | (refine hd_condF (by exact aX) (by (first | rfl | assumption | (simp only [decide_eq_true_eq, decide_eq_false_iff_not]; omega) | fail)) ?_) | (refine hd_cond (by exact aX) (fun _ => ?_) (fun _ => ?_))) | fail | refine wkA ?_) | refine wkA ?_ | (refine is_ch ?_; refine ch_opAB ?_) | ((first | apply hd_ok | apply ch_ok); (focus ((first | (apply OK.plain; rfl) | (apply OK.guarded; rfl; rfl; (intro hg; (try have hk := hg.2); (try have hl := hg.2.2); (try have hm := hg.2.2.2)))); (first | (apply od_call; exact aX; infer_instance; exact aE; exact aN; (focus (first | fail))) ))); rfl; rfl) | fail | fail | exact tsA | fail | (refine ts_step rfl (fun HF h1 hle => ?_)) | fail | fail)
  refine hd_pubS (xs := [(v, v)]) (by exact aP) (by exact aC2) (by simp only [List.forall_mem_cons]; exact ⟨⟨hv, hv⟩, by simp⟩) rfl (by simp) (fun h1 hle1 hsl => ?_)
  all_goals ((repeat (refine hd_undefer (by first | exact .inl rfl | exact .inr rfl) (by exact aP) ?_)); apply hd_res0; (focus (first | exact .inl rfl | exact .inr rfl)); rfl; exact aR)
  exact ⟨_, _, _, rfl, hsl⟩
theorem law13_ten (h : PH) : GV.Spec Try.prog 31 #[] h fun u h' => ∃ p n c, u = .slice p n c ∧ SlS h' p n c [(0, 9)] := by
  refine spec_enter (args := []) Try.func31 rfl Try.ntmps31 rfl (fun w l => ?_)
  repeat' (first | (refine is_pu ?_ (by rfl); first  | fail | refine hd_opAB ?_ | fail) | (refine is_pn ?_; first | refine hd_pn_nil ?_ | fail  | fail | refine hd_pnAB ?_ | fail | (refine hd_pn_op rfl ?_)) | (refine is_co ?_; first | fail  | ((first | apply hd_ok | apply ch_ok); (focus ((first | (apply OK.plain; rfl) | (apply OK.guarded; rfl; rfl; (intro hg; (try have hk := hg.2); (try have hl := hg.2.2); (try have hm := hg.2.2.2)))); (first | (apply od_call; exact aX; infer_instance; exact aE; exact aN; (focus (first | fail))) ))); rfl; rfl) | refine hd_storeA ?_ | refine hd_boxA (fun _ => ?_) | refine hd_alloc rfl (fun _ => ?_) | refine hd_makeA (fun _ => ?_) | refine hd_copyA ?_ | refine hd_litA (fun _ => ?_) | refine hd_appendA (fun _ _ => ?_)) | (refine is_ni ?_; first | (refine is_on ?_; first | refine pn_barA ?_ | refine pn_goA ?_ | refine pt_goA ?_  | refine ts_onA ?_) | refine hd_nil ?_) | (refine is_cw ?_; first | (refine is_rg ?_; first | fail | fail | refine hd_draw follows_any (by decide +kernel) ?_) | (refine is_cd ?_; first | (refine hd_condT (by exact aX) (by (first | rfl | assumption | (simp only [decide_eq_true_eq, decide_eq_false_iff_not]; omega) | fail)) ?_) | (refine hd_condF (by exact aX) (by (first | rfl | assumption | (simp only [decide_eq_true_eq, decide_eq_false_iff_not]; omega) | fail)) ?_) | (refine hd_cond (by exact aX) (fun _ => ?_) (fun _ => ?_))) | fail | refine wkA ?_) | refine wkA ?_ | (refine is_ch ?_; refine ch_opAB ?_) | ((first | apply hd_ok | apply ch_ok); (focus ((first | (apply OK.plain; rfl) | (apply OK.guarded; rfl; rfl; (intro hg; (try have hk := hg.2); (try have hl := hg.2.2); (try have hm := hg.2.2.2)))); (first | (apply od_call; exact aX; infer_instance; exact aE; exact aN; (focus (first | fail))) ))); rfl; rfl) | fail | fail | exact tsA | fail | (refine ts_step rfl (fun HF h1 hle => ?_)) | fail | fail)
  refine hd_pubS (xs := [(0, 9)]) (by exact aP) (by exact aC2) (by (simp only [List.forall_mem_cons]; simp [inR]; first | done | fail)) rfl (by decide) (fun h1 hle1 hsl => ?_)
  all_goals ((repeat (refine hd_undefer (by first | exact .inl rfl | exact .inr rfl) (by exact aP) ?_)); apply hd_res0; (focus (first | exact .inl rfl | exact .inr rfl)); rfl; exact aR)
  exact ⟨_, _, _, rfl, hsl⟩
/-! ### The chapter's examples -/
def DA : DD := ⟨2, 1, 0, [(0, 0)]⟩
def DB : DD := ⟨1, 1, 0, [(9, 9)]⟩
def DC : DD := ⟨5, 1, 0, [(0, 0)]⟩
def SA : List Sp := [(0, 9)]
theorem DA_R : DdR DA := by refine ⟨?_, ?_, ?_, ?_⟩ <;> simp [DA, inR]
theorem DB_R : DdR DB := by refine ⟨?_, ?_, ?_, ?_⟩ <;> simp [DB, inR]
theorem DC_R : DdR DC := by refine ⟨?_, ?_, ?_, ?_⟩ <;> simp [DC, inR]
def RA : RD := ⟨true, true, DB, DA⟩
theorem aw_choose : choose SA DC ([[DA, DB]] : List (List DD)).flatten = RA := by decide +kernel
theorem aw_choose0 : choose SA DC ([] : List (List DD)).flatten = RD.zero := by decide +kernel
theorem aw_pa : place SA DA = 2 := by decide +kernel
theorem aw_pb : place SA DB = 769 := by decide +kernel
theorem aw_far : far 769 2 = 64769 := by decide +kernel
theorem aw_r : right SA = true := by decide +kernel
theorem aw_fa : rightF SA DA.filter = true := by decide +kernel
theorem aw_fb : rightF SA DB.filter = true := by decide +kernel
theorem aw_fc : rightF SA DC.filter = true := by decide +kernel
theorem aw_list : listR RA = [DB, DA] := by decide +kernel
theorem aw_drop : dropR RA 1 = ⟨false, true, DD.zero, DA⟩ := by decide +kernel
theorem aw_mem {P : DD → Prop} (ha : P DA) (hb : P DB) : ∀ d ∈ ([[DA, DB]] : List (List DD)).flatten, P d := by
  intro d hd
  simp at hd
  rcases hd with rfl | rfl
  · exact ha
  · exact hb
theorem law13_oneA (h : PH) : GV.Spec Try.prog 30 #[.int .u8 2, .int .i32 0] h fun u h' => ∃ p n c, u = .agg #[.int .u8 DA.node, .int .u16 DA.inc, .int .u8 DA.age, .slice p n c] ∧ SlS h' p n c DA.filter := law13_one 2 0 h (inR_i32 (by decide) (by decide))
theorem law13_oneB (h : PH) : GV.Spec Try.prog 30 #[.int .u8 1, .int .i32 9] h fun u h' => ∃ p n c, u = .agg #[.int .u8 DB.node, .int .u16 DB.inc, .int .u8 DB.age, .slice p n c] ∧ SlS h' p n c DB.filter := law13_one 1 9 h (inR_i32 (by decide) (by decide))
theorem law13_oneC (h : PH) : GV.Spec Try.prog 30 #[.int .u8 5, .int .i32 0] h fun u h' => ∃ p n c, u = .agg #[.int .u8 DC.node, .int .u16 DC.inc, .int .u8 DC.age, .slice p n c] ∧ SlS h' p n c DC.filter := law13_one 5 0 h (inR_i32 (by decide) (by decide))
theorem chooseA {ps p : Option Addr} {ns cs n c : Nat} {v : Value} (h : PH) (hs : SlS h ps ns cs SA) (hv : VDs h v DC) (hd : SlDs h p n c [[DA, DB]]) (hn : n ≤ 1000) :
    GV.Spec Try.prog 12 #[.slice ps ns cs, v, .slice p n c] h fun v h' => VRg h' v RA := by
  have := ring_Choose h hs hv hd hn (by simp) (aw_mem (P := fun x => x.filter.length ≤ 1000000) (by simp [DA]) (by simp [DB])) aw_r aw_fc (aw_mem aw_fa aw_fb)
  rwa [aw_choose] at this
theorem choose0 {ps : Option Addr} {ns cs : Nat} {v : Value} (h : PH) (hs : SlS h ps ns cs SA) (hv : VDs h v DC) :
    GV.Spec Try.prog 12 #[.slice ps ns cs, v, .slice none 0 0] h fun v h' => VRg h' v RD.zero := by
  have := ring_Choose (dss := []) h hs hv (SlR.nil _ _) (by decide) (by simp) (by simp) aw_r aw_fc (by simp)
  rwa [aw_choose0] at this
theorem placeA {p : Option Addr} {n c : Nat} {v : Value} (h : PH) (hs : SlS h p n c SA) (hv : VDs h v DA) : Det Try.prog 15 #[.slice p n c, v] h (.int .u16 2) := by have := ring_Place h hs hv aw_r aw_fa; rwa [aw_pa] at this
theorem placeB {p : Option Addr} {n c : Nat} {v : Value} (h : PH) (hs : SlS h p n c SA) (hv : VDs h v DB) : Det Try.prog 15 #[.slice p n c, v] h (.int .u16 769) := by have := ring_Place h hs hv aw_r aw_fb; rwa [aw_pb] at this
theorem farA (h : PH) : Det Try.prog 16 #[.int .u16 769, .int .u16 2] h (.int .u16 64769) := by have := ring_Far 769 2 h (inR_u16 (by decide) (by decide)) (inR_u16 (by decide) (by decide)); rwa [aw_far] at this
theorem listA {v : Value} (h : PH) (hv : VRg h v RA) : GV.Spec Try.prog 22 #[v] h fun v' h' => ∃ p n c, v' = .slice p n c ∧ n = 2 := by
  have := ring_List h hv (by decide) (by decide)
  rw [aw_list] at this
  refine SpecM.mono this ?_
  rintro v' h' Ho ⟨⟨p, n, c, rfl, hs⟩, e⟩
  exact ⟨⟨p, n, c, rfl, hs.len.symm⟩, e⟩
theorem dropA {v : Value} (h : PH) (hv : VRg h v RA) : GV.Spec Try.prog 24 #[v, .int .u8 1] h fun v' h' => VRg h' v' ⟨false, true, DD.zero, DA⟩ := by
  have := ring_Drop 1 h hv (by decide) (by decide)
  rwa [aw_drop] at this
end Go.Proofs.Ytddhljoglhfhdaa
