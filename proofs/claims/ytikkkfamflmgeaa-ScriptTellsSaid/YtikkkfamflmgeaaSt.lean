/- What package script and grapevineref27 say of one step: right, the same. -/
import Derived.Test.YtikkkfamflmgeaaStP
import Derived.Test.YtikkkfamflmgeaaFArg
namespace Go.Proofs.Ytikkkfamflmgeaa
open Go Go.GV
attribute [local irreducible] cw Go.GV.SpecM Go.GV.wpList Exit.then Exit.inBlock Go.GV.bodyPost wpPl wpPm wpPn TS rnd rPost YieldsB wpPT ptK
set_option maxRecDepth 10000
set_option maxHeartbeats 4000000
set_option linter.unusedVariables false
set_option linter.unusedSimpArgs false
/-- A step's cells. -/
def rStepP := rPair (rInt .u8) (rPair (rInt .u8) (rPair (rInt .u8) (rPair (rInt .i64) (rPair (rInt .i64) (rPair (rInt .i64) (rPair (rInt .u32) (rPair (rSl rSpan) (rPair (rSl (rInt .i32)) (rSl (rInt .u8))))))))))
def rStep : Rp SD := rMap rStepP fun x => (x.kind, x.node, x.other, x.at_, x.to_, x.from_, x.turns, x.filter, x.vals, x.data)
theorem rStep_sz : rStep.sz = 10 := rfl
theorem SlV_in {h : PH} {p : Option Addr} {n c : Nat} {xs : List Int} {k : IntKind} (hs : SlR (rInt k) h p n c xs) : ∀ x ∈ xs, inR k x := SlR.inR hs
theorem rStep_ok {h : PH} {cs : List Value} {x : SD} (hh : rStep.ok h cs x) : ∃ p n c q m d r k e, cs = [.int .u8 x.kind, .int .u8 x.node, .int .u8 x.other, .int .i64 x.at_, .int .i64 x.to_, .int .i64 x.from_, .int .u32 x.turns, .slice p n c, .slice q m d, .slice r k e] ∧
    SdR x ∧ SlS h p n c x.filter ∧ SlV h q m d x.vals ∧ SlB h r k e x.data := by
  obtain ⟨_, _, rfl, ⟨rfl, h0⟩, _, _, rfl, ⟨rfl, h1⟩, _, _, rfl, ⟨rfl, h2⟩, _, _, rfl, ⟨rfl, h3⟩, _, _, rfl, ⟨rfl, h4⟩, _, _, rfl, ⟨rfl, h5⟩, _, _, rfl, ⟨rfl, h6⟩, _, _, rfl, ⟨p, n, c, rfl, h7⟩, _, _, rfl, ⟨q, m, d, rfl, h8⟩, r, k, e, rfl, h9⟩ := hh
  exact ⟨p, n, c, q, m, d, r, k, e, rfl, ⟨h0, h1, h2, h3, h4, h5, h6, SlS_in h7, SlV_in h8, SlV_in h9⟩, h7, h8, h9⟩
theorem rStep_mk {h : PH} {x : SD} {p q r : Option Addr} {n c m d k e : Nat} (hx : SdR x) (h7 : SlS h p n c x.filter) (h8 : SlV h q m d x.vals) (h9 : SlB h r k e x.data) :
    rStep.ok h [.int .u8 x.kind, .int .u8 x.node, .int .u8 x.other, .int .i64 x.at_, .int .i64 x.to_, .int .i64 x.from_, .int .u32 x.turns, .slice p n c, .slice q m d, .slice r k e] x :=
  ⟨[_], _, rfl, ⟨rfl, hx.kind⟩, [_], _, rfl, ⟨rfl, hx.node⟩, [_], _, rfl, ⟨rfl, hx.other⟩, [_], _, rfl, ⟨rfl, hx.at_⟩, [_], _, rfl, ⟨rfl, hx.to_⟩, [_], _, rfl, ⟨rfl, hx.from_⟩, [_], _, rfl, ⟨rfl, hx.turns⟩, [_], _, rfl, ⟨p, n, c, rfl, h7⟩, [_], _, rfl, ⟨q, m, d, rfl, h8⟩, r, k, e, rfl, h9⟩
/-- A value that is a step. -/
def VSt (h : PH) (v : Value) (x : SD) : Prop := ∃ p n c q m d r k e, v = .agg #[.int .u8 x.kind, .int .u8 x.node, .int .u8 x.other, .int .i64 x.at_, .int .i64 x.to_, .int .i64 x.from_, .int .u32 x.turns, .slice p n c, .slice q m d, .slice r k e] ∧
    SdR x ∧ SlS h p n c x.filter ∧ SlV h q m d x.vals ∧ SlB h r k e x.data
theorem VSt.mono {h h' : PH} {v : Value} {x : SD} (hv : VSt h v x) (hl : h.le h') : VSt h' v x := by
  obtain ⟨p, n, c, q, m, d, r, k, e, rfl, a1, a2, a3, a4⟩ := hv
  exact ⟨p, n, c, q, m, d, r, k, e, rfl, a1, a2.mono hl, a3.mono hl, a4.mono hl⟩
abbrev SlT := SlR rStep
def VTs (h : PH) (v : Value) (xs : List SD) : Prop := ∃ p n c, v = .slice p n c ∧ SlT h p n c xs
theorem SlT_at {h : PH} {p : Option Addr} {n c : Nat} {xs : List SD} (hs : SlT h p n c xs) {i : Nat} {x : SD} (hx : xs[i]? = some x) : ∃ p1 n1 c1 q m d r k e, Pub h (pb p) (po p + i * 10) [.int .u8 x.kind, .int .u8 x.node, .int .u8 x.other, .int .i64 x.at_, .int .i64 x.to_, .int .i64 x.from_, .int .u32 x.turns, .slice p1 n1 c1, .slice q m d, .slice r k e] ∧
    SdR x ∧ SlS h p1 n1 c1 x.filter ∧ SlV h q m d x.vals ∧ SlB h r k e x.data ∧ p = some ⟨pb p, po p, none⟩ := by
  obtain ⟨cs, h1, h2, h3⟩ := hs.at hx
  obtain ⟨p1, n1, c1, q, m, d, r, k, e, rfl, h4, h5, h6, h7⟩ := rStep_ok h2
  exact ⟨p1, n1, c1, q, m, d, r, k, e, h1, h4, h5, h6, h7, h3⟩
theorem SlT_in {h : PH} {p : Option Addr} {n c : Nat} {xs : List SD} (hs : SlT h p n c xs) : ∀ x ∈ xs, SdR x := fun x hx => by
  obtain ⟨css, _, h2⟩ := hs
  obtain ⟨a, ha⟩ := h2.mem x hx
  obtain ⟨_, _, _, _, _, _, _, _, _, _, h, _⟩ := rStep_ok ha
  exact h
/-! ### Right -/
theorem fields_det (k : Int) (h : PH) : Det Try.prog 21 #[.int .u8 k] h (.tuple #[.agg #[.bool (hNode k), .bool (hOther k), .bool (hAt k), .bool (hTo k), .bool (hFrom k), .bool (hFrom k), .bool (hFil k), .bool (hVal k), .bool (hVal k)], .bool (known k)]) := by
  refine spec_enter (args := [_]) Try.func21 rfl Try.ntmps21 rfl (fun w l => ?_)
  have hc : (k = 1 ∨ k = 2 ∨ k = 3 ∨ k = 4 ∨ k = 5 ∨ k = 6 ∨ k = 7) ∨ (k = 8 ∨ k = 9 ∨ k = 10 ∨ k = 11 ∨ k = 12 ∨ k = 13) ∨ (k < 1 ∨ 13 < k) := by omega
  rcases hc with hc | hc | hc
  · rcases hc with rfl | rfl | rfl | rfl | rfl | rfl | rfl
    all_goals repeat' (first | (refine is_pu ?_ (by rfl); first  | fail | refine hd_opAB ?_) | (refine is_pn ?_; first | refine hd_pn_nil ?_ | fail  | fail | refine hd_pnAB ?_ | (refine hd_pn_op rfl ?_)) | (refine is_co ?_; first | fail  | refine hd_storeA ?_ | refine hd_boxA (fun _ => ?_) | refine hd_alloc rfl (fun _ => ?_) | refine hd_makeA (fun _ => ?_) | refine hd_copyA ?_ | refine hd_litA (fun _ => ?_) | refine hd_appendA (fun _ _ => ?_) | refine hd_storeRA ?_) | (refine is_ni ?_; first | (refine is_on ?_; first | refine pn_barA ?_ | refine pn_goA ?_ | refine pt_goA ?_  | refine ts_onA ?_) | refine hd_nil ?_) | (refine is_cw ?_; first | (refine is_rg ?_; first | fail | fail | refine hd_draw follows_any (by decide +kernel) ?_) | (refine is_cd ?_; first | (refine hd_condT (by exact aX) (by (first | rfl | (simp only [beq_eq_false_iff_ne]; omega) | fail)) ?_) | (refine hd_condF (by exact aX) (by (first | rfl | (simp only [beq_eq_false_iff_ne]; omega) | fail)) ?_) | (refine hd_cond (by exact aX) (fun _ => ?_) (fun _ => ?_))) | fail | refine wkA ?_) | refine wkA ?_ | (refine is_ch ?_; refine ch_opAB ?_) | ((first | apply hd_ok | apply ch_ok); (focus ((first | (apply OK.plain; rfl) | (apply OK.guarded; rfl; rfl; (intro hg; (try have hk := hg.2); (try have hl := hg.2.2); (try have hm := hg.2.2.2)))); (first | (apply od_call; exact aX; infer_instance; exact aE; exact aN; (focus (first | fail))) ))); rfl; rfl) | fail | fail | exact tsA | fail | (refine ts_step rfl (fun HF h1 hle => ?_)) | fail | fail)
    all_goals ((repeat (refine hd_undefer (by first | exact .inl rfl | exact .inr rfl) (by exact aP) ?_)); apply hd_res0; (focus (first | exact .inl rfl | exact .inr rfl)); rfl; exact aR)
    all_goals rfl
  · rcases hc with rfl | rfl | rfl | rfl | rfl | rfl
    all_goals repeat' (first | (refine is_pu ?_ (by rfl); first  | fail | refine hd_opAB ?_) | (refine is_pn ?_; first | refine hd_pn_nil ?_ | fail  | fail | refine hd_pnAB ?_ | (refine hd_pn_op rfl ?_)) | (refine is_co ?_; first | fail  | refine hd_storeA ?_ | refine hd_boxA (fun _ => ?_) | refine hd_alloc rfl (fun _ => ?_) | refine hd_makeA (fun _ => ?_) | refine hd_copyA ?_ | refine hd_litA (fun _ => ?_) | refine hd_appendA (fun _ _ => ?_) | refine hd_storeRA ?_) | (refine is_ni ?_; first | (refine is_on ?_; first | refine pn_barA ?_ | refine pn_goA ?_ | refine pt_goA ?_  | refine ts_onA ?_) | refine hd_nil ?_) | (refine is_cw ?_; first | (refine is_rg ?_; first | fail | fail | refine hd_draw follows_any (by decide +kernel) ?_) | (refine is_cd ?_; first | (refine hd_condT (by exact aX) (by (first | rfl | (simp only [beq_eq_false_iff_ne]; omega) | fail)) ?_) | (refine hd_condF (by exact aX) (by (first | rfl | (simp only [beq_eq_false_iff_ne]; omega) | fail)) ?_) | (refine hd_cond (by exact aX) (fun _ => ?_) (fun _ => ?_))) | fail | refine wkA ?_) | refine wkA ?_ | (refine is_ch ?_; refine ch_opAB ?_) | ((first | apply hd_ok | apply ch_ok); (focus ((first | (apply OK.plain; rfl) | (apply OK.guarded; rfl; rfl; (intro hg; (try have hk := hg.2); (try have hl := hg.2.2); (try have hm := hg.2.2.2)))); (first | (apply od_call; exact aX; infer_instance; exact aE; exact aN; (focus (first | fail))) ))); rfl; rfl) | fail | fail | exact tsA | fail | (refine ts_step rfl (fun HF h1 hle => ?_)) | fail | fail)
    all_goals ((repeat (refine hd_undefer (by first | exact .inl rfl | exact .inr rfl) (by exact aP) ?_)); apply hd_res0; (focus (first | exact .inl rfl | exact .inr rfl)); rfl; exact aR)
    all_goals rfl
  · repeat' (first | (refine is_pu ?_ (by rfl); first  | fail | refine hd_opAB ?_) | (refine is_pn ?_; first | refine hd_pn_nil ?_ | fail  | fail | refine hd_pnAB ?_ | (refine hd_pn_op rfl ?_)) | (refine is_co ?_; first | fail  | refine hd_storeA ?_ | refine hd_boxA (fun _ => ?_) | refine hd_alloc rfl (fun _ => ?_) | refine hd_makeA (fun _ => ?_) | refine hd_copyA ?_ | refine hd_litA (fun _ => ?_) | refine hd_appendA (fun _ _ => ?_) | refine hd_storeRA ?_) | (refine is_ni ?_; first | (refine is_on ?_; first | refine pn_barA ?_ | refine pn_goA ?_ | refine pt_goA ?_  | refine ts_onA ?_) | refine hd_nil ?_) | (refine is_cw ?_; first | (refine is_rg ?_; first | fail | fail | refine hd_draw follows_any (by decide +kernel) ?_) | (refine is_cd ?_; first | (refine hd_condT (by exact aX) (by (first | rfl | (simp only [beq_eq_false_iff_ne]; omega) | fail)) ?_) | (refine hd_condF (by exact aX) (by (first | rfl | (simp only [beq_eq_false_iff_ne]; omega) | fail)) ?_) | (refine hd_cond (by exact aX) (fun _ => ?_) (fun _ => ?_))) | fail | refine wkA ?_) | refine wkA ?_ | (refine is_ch ?_; refine ch_opAB ?_) | ((first | apply hd_ok | apply ch_ok); (focus ((first | (apply OK.plain; rfl) | (apply OK.guarded; rfl; rfl; (intro hg; (try have hk := hg.2); (try have hl := hg.2.2); (try have hm := hg.2.2.2)))); (first | (apply od_call; exact aX; infer_instance; exact aE; exact aN; (focus (first | fail))) ))); rfl; rfl) | fail | fail | exact tsA | fail | (refine ts_step rfl (fun HF h1 hle => ?_)) | fail | fail)
    all_goals ((repeat (refine hd_undefer (by first | exact .inl rfl | exact .inr rfl) (by exact aP) ?_)); apply hd_res0; (focus (first | exact .inl rfl | exact .inr rfl)); rfl; exact aR)
    have e1 : hNode k = false := by simp [hNode]; omega
    have e2 : hOther k = false := by simp [hOther]; omega
    have e3 : hAt k = false := by simp [hAt]; omega
    have e4 : hTo k = false := by simp [hTo]; omega
    have e5 : hFrom k = false := by simp [hFrom]; omega
    have e6 : hFil k = false := by simp [hFil]; omega
    have e7 : hVal k = false := by simp [hVal]; omega
    have e8 : known k = false := by simp [known]; omega
    rw [e1, e2, e3, e4, e5, e6, e7, e8]; rfl
theorem fits_det (t : Bool) (v m : Int) (h : PH) : Det Try.prog 22 #[.bool t, .int .i64 v, .int .i64 m] h (.bool (fitB t v m)) := by
  refine spec_enter (args := [_, _, _]) Try.func22 rfl Try.ntmps22 rfl (fun w l => ?_)
  repeat' (first | (refine is_pu ?_ (by rfl); first  | fail | refine hd_opAB ?_) | (refine is_pn ?_; first | refine hd_pn_nil ?_ | fail  | fail | refine hd_pnAB ?_ | (refine hd_pn_op rfl ?_)) | (refine is_co ?_; first | fail  | refine hd_storeA ?_ | refine hd_boxA (fun _ => ?_) | refine hd_alloc rfl (fun _ => ?_) | refine hd_makeA (fun _ => ?_) | refine hd_copyA ?_ | refine hd_litA (fun _ => ?_) | refine hd_appendA (fun _ _ => ?_) | refine hd_storeRA ?_) | (refine is_ni ?_; first | (refine is_on ?_; first | refine pn_barA ?_ | refine pn_goA ?_ | refine pt_goA ?_  | refine ts_onA ?_) | refine hd_nil ?_) | (refine is_cw ?_; first | (refine is_rg ?_; first | fail | fail | refine hd_draw follows_any (by decide +kernel) ?_) | (refine is_cd ?_; first | (refine hd_cond (by exact aX) (fun _ => ?_) (fun _ => ?_))) | fail | refine wkA ?_) | refine wkA ?_ | (refine is_ch ?_; refine ch_opAB ?_) | ((first | apply hd_ok | apply ch_ok); (focus ((first | (apply OK.plain; rfl) | (apply OK.guarded; rfl; rfl; (intro hg; (try have hk := hg.2); (try have hl := hg.2.2); (try have hm := hg.2.2.2)))); (first | (apply od_call; exact aX; infer_instance; exact aE; exact aN; (focus (first | fail))) ))); rfl; rfl) | fail | fail | exact tsA | fail | (refine ts_step rfl (fun HF h1 hle => ?_)) | fail | fail)
  all_goals ((repeat (refine hd_undefer (by first | exact .inl rfl | exact .inr rfl) (by exact aP) ?_)); apply hd_res0; (focus (first | exact .inl rfl | exact .inr rfl)); rfl; exact aR)
  all_goals exact ret_bool (by cases t <;> simp_all [fitB])

theorem script_Right {v : Value} {x : SD} (h : PH) (hv : VSt h v x) : Det Try.prog 9 #[v] h (.bool (stepOk x)) := by
  obtain ⟨p, n, c, q, m, d, r, k, e, rfl, hx, h7, h8, h9⟩ := hv
  have r0 := hx.kind
  have r1 := hx.node
  have r2 := hx.other
  have l7 := h7.len
  have l8 := h8.len
  have l9 := h9.len
  simp only [inR] at r0 r1 r2
  refine spec_enter (args := [_]) Try.func9 rfl Try.ntmps9 rfl (fun w l => ?_)
  repeat' (first | (refine is_pu ?_ (by rfl); first  | fail | refine hd_opAB ?_) | (refine is_pn ?_; first | refine hd_pn_nil ?_ | fail  | fail | refine hd_pnAB ?_ | (refine hd_pn_op rfl ?_)) | (refine is_co ?_; first | fail  | refine hd_storeA ?_ | refine hd_boxA (fun _ => ?_) | refine hd_alloc rfl (fun _ => ?_) | refine hd_makeA (fun _ => ?_) | refine hd_copyA ?_ | refine hd_litA (fun _ => ?_) | refine hd_appendA (fun _ _ => ?_) | refine hd_storeRA ?_) | (refine is_ni ?_; first | (refine is_on ?_; first | refine pn_barA ?_ | refine pn_goA ?_ | refine pt_goA ?_  | refine ts_onA ?_) | refine hd_nil ?_) | (refine is_cw ?_; first | (refine is_rg ?_; first | fail | fail | refine hd_draw follows_any (by decide +kernel) ?_) | (refine is_cd ?_; first | (refine hd_cond (by exact aX) (fun _ => ?_) (fun _ => ?_))) | fail | refine wkA ?_) | refine wkA ?_ | (refine is_ch ?_; refine ch_opAB ?_) | ((first | apply hd_ok | apply ch_ok); (focus ((first | (apply OK.plain; rfl) | (apply OK.guarded; rfl; rfl; (intro hg; (try have hk := hg.2); (try have hl := hg.2.2); (try have hm := hg.2.2.2)))); (first | (apply od_call; exact aX; infer_instance; exact aE; exact aN; (focus (first | exact fields_det _ _ | exact fits_det _ _ _ _))) ))); rfl; rfl) | ((first | apply hd_ok | apply ch_ok | (apply hd_pn_run; rfl; exact aM)); (focus ((first | (apply OK.plain; rfl; apply OD.of) | (apply OKp.plain; rfl)); (first | (apply od_pickX; exact aX; (focus (first | rfl | (simp only [beq_eq_false_iff_ne]; omega) | fail)); exact aX) | (apply od_pickY; exact aX; (focus (first | rfl | (simp only [beq_eq_false_iff_ne]; omega) | fail)); exact aX)))); rfl; rfl) | fail | exact tsA | fail | (refine ts_step rfl (fun HF h1 hle => ?_)) | fail | fail)
  all_goals ((repeat (refine hd_undefer (by first | exact .inl rfl | exact .inr rfl) (by exact aP) ?_)); apply hd_res0; (focus (first | exact .inl rfl | exact .inr rfl)); rfl; exact aR)
  all_goals exact ret_bool (by simp only [stepOk, ← l7, ← l8, ← l9]; rfl)
end Go.Proofs.Ytikkkfamflmgeaa
