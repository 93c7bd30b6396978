/- What package script parses. -/
import Derived.Test.YtikkkfamflmgeaaStT
import Derived.Test.YtikkkfamflmgeaaItP
namespace Go.Proofs.Ytikkkfamflmgeaa
open Go Go.GV
attribute [local irreducible] cw Go.GV.SpecM Go.GV.wpList Exit.then Exit.inBlock Go.GV.bodyPost wpPl wpPm wpPn TS rnd rPost YieldsB wpPT ptK
set_option maxRecDepth 10000
set_option maxHeartbeats 8000000
set_option linter.unusedVariables false
set_option linter.unusedSimpArgs false
/-- One step, its data its own. -/
def OwnT (h : PH) (cs : List Value) (x : SD) (d : HE) : Prop := ∃ pf nf cf pv nv cv pd cd, cs = [.int .u8 x.kind, .int .u8 x.node, .int .u8 x.other, .int .i64 x.at_, .int .i64 x.to_, .int .i64 x.from_, .int .u32 x.turns, .slice pf nf cf, .slice pv nv cv, .slice pd x.data.length cd] ∧
  SdR x ∧ SlS h pf nf cf x.filter ∧ SlV h pv nv cv x.vals ∧ x.data.length ≤ 60000 ∧ d = row8 pd x.data.length cd x.data
theorem OwnT.mono {h h' : PH} {cs : List Value} {x : SD} {d : HE} (ho : OwnT h cs x d) (hl : h.le h') : OwnT h' cs x d := by
  obtain ⟨pf, nf, cf, pv, nv, cv, pd, cd, a1, a2, a3, a4, a5, a6⟩ := ho
  exact ⟨pf, nf, cf, pv, nv, cv, pd, cd, a1, a2, a3.mono hl, a4.mono hl, a5, a6⟩
/-- Steps, the data of each its own. -/
def OwnS (h : PH) : List (List Value) → List SD → List HE → Prop
  | [], [], [] => True
  | cs :: css, x :: xs, d :: D => OwnT h cs x d ∧ OwnS h css xs D
  | _, _, _ => False
theorem OwnS.mono {h h' : PH} (hl : h.le h') : ∀ {css : List (List Value)} {xs : List SD} {D : List HE}, OwnS h css xs D → OwnS h' css xs D
  | [], [], [], _ => trivial
  | _ :: _, _ :: _, _ :: _, ho => ⟨ho.1.mono hl, OwnS.mono hl ho.2⟩
  | [], [], _ :: _, ho => ho.elim
  | [], _ :: _, _, ho => ho.elim
  | _ :: _, [], _, ho => ho.elim
  | _ :: _, _ :: _, [], ho => ho.elim
theorem OwnS.snoc {h : PH} {cs : List Value} {x : SD} {d : HE} (ho : OwnT h cs x d) : ∀ {css : List (List Value)} {xs : List SD} {D : List HE}, OwnS h css xs D → OwnS h (css ++ [cs]) (xs ++ [x]) (D ++ [d])
  | [], [], [], _ => ⟨ho, trivial⟩
  | _ :: _, _ :: _, _ :: _, h2 => ⟨h2.1, OwnS.snoc ho h2.2⟩
  | [], [], _ :: _, h2 => h2.elim
  | [], _ :: _, _, h2 => h2.elim
  | _ :: _, [], _, h2 => h2.elim
  | _ :: _, _ :: _, [], h2 => h2.elim
theorem OwnS.one {h : PH} : ∀ {css : List (List Value)} {xs : List SD} {D : List HE}, OwnS h css xs D → css.length = xs.length ∧ css.flatten.all (·.oneCell') = true ∧ css.flatten.length = xs.length * 10
  | [], [], [], _ => ⟨rfl, rfl, rfl⟩
  | cs :: css, x :: xs, d :: D, h2 => by
    obtain ⟨h3, h4, h5⟩ := OwnS.one h2.2
    obtain ⟨pf, nf, cf, pv, nv, cv, pd, cd, rfl, _⟩ := h2.1
    refine ⟨by simp [h3], ?_, ?_⟩
    · rw [List.flatten_cons, List.all_append, h4]; rfl
    · rw [List.flatten_cons, List.length_append, h5]; simp; omega
  | [], [], _ :: _, h2 => h2.elim
  | [], _ :: _, _, h2 => h2.elim
  | _ :: _, [], _, h2 => h2.elim
  | _ :: _, _ :: _, [], h2 => h2.elim
/-- All data are handed out. -/
theorem OwnS.pub {C : Ctx} {H : List HE} {w : World} : ∀ {css : List (List Value)} {xs : List SD} {D : List HE} {h : PH}, OwnS h css xs D → GV.Inv C (D ++ H) h w → ∃ h', h.le h' ∧ All2 (rStep.ok h') css xs ∧ GV.Inv C H h' w
  | [], [], [], h, _, hw => ⟨h, PH.le_refl _, trivial, hw⟩
  | cs :: css, x :: xs, d :: D, h, h2, hw => by
    obtain ⟨pf, nf, cf, pv, nv, cv, pd, cd, rfl, a2, a3, a4, a5, rfl⟩ := h2.1
    obtain ⟨h3, hl3, hb3, hi3⟩ := Inv.pub8 (p := pd) (H := D ++ H) hw rfl a2.data (by omega)
    obtain ⟨h4, hl4, ha4, hi4⟩ := OwnS.pub (OwnS.mono hl3 h2.2) hi3
    exact ⟨h4, PH.le_trans hl3 hl4, ⟨rStep_mk a2 (a3.mono (PH.le_trans hl3 hl4)) (a4.mono (PH.le_trans hl3 hl4)) (hb3.mono hl4), ha4⟩, hi4⟩
  | [], [], _ :: _, _, h2, _ => h2.elim
  | [], _ :: _, _, _, h2, _ => h2.elim
  | _ :: _, [], _, _, h2, _ => h2.elim
  | _ :: _, _ :: _, [], _, h2, _ => h2.elim
/-- What is yielded. -/
def stepV (bs : List Int) (k : Nat) (vs : List Value) (h : PH) (Hv : List HE) : Prop := ∃ x e cs d, (ylds bs.length bs)[k]? = some (x, e) ∧ vs = [.agg cs.toArray, .int .i64 e] ∧ Hv = [d] ∧ OwnT h cs x d
theorem ylds_len : ∀ (n : Nat) (b : List Int), (ylds n b).length ≤ n
  | 0, _ => by simp [ylds]
  | n + 1, b => by
    simp only [ylds]
    split
    · simp
    · split
      · simp
      · rename_i x r _
        have := ylds_len n r
        split <;> simp <;> omega

theorem script_steps {p : Option Addr} {n c : Nat} (h : PH) : GV.Spec Try.prog 27 #[.slice p n c] h fun v h' => ∃ b, v = .func (.func 44) #[] #[.pointer (some ⟨b, 0, none⟩)] ∧ Pub h' b 0 [.slice p n c] := by
  refine spec_enter (args := [_]) Try.func27 rfl Try.ntmps27 rfl (fun w l => ?_)
  repeat' (first | fail | fail | refine wkA ?_ | fail | fail | refine hd_draw follows_any (by decide +kernel) ?_ | (refine is_on ?_; first | refine ts_onA ?_ | refine pn_barA ?_ | refine pn_goA ?_ | refine pt_goA ?_) | refine hd_nil ?_ | exact tsA | fail | (refine hd_condT (by exact aX) (by (first | rfl | assumption | (simp only [decide_eq_true_eq, decide_eq_false_iff_not]; omega) | fail)) ?_) | (refine hd_condF (by exact aX) (by (first | rfl | assumption | (simp only [decide_eq_true_eq, decide_eq_false_iff_not]; omega) | fail)) ?_) | (refine hd_cond (by exact aX) (fun _ => ?_) (fun _ => ?_))  | fail | refine hd_opT ?_ | refine ch_opT ?_ | refine hd_pnT ?_ | ((first | apply hd_ok | apply ch_ok | (apply hd_pn_run; rfl; exact aM)); (focus ((first | (apply OK.plain; rfl; apply OD.of) | (apply OKp.plain; rfl)); (first | (apply od_pickX; exact aX; (focus (first | rfl | assumption | (simp only [decide_eq_true_eq, decide_eq_false_iff_not]; omega) | fail)); exact aX) | (apply od_pickY; exact aX; (focus (first | rfl | assumption | (simp only [decide_eq_true_eq, decide_eq_false_iff_not]; omega) | fail)); exact aX)))); rfl; rfl) | ((first | apply hd_ok | apply ch_ok); (focus ((first | (apply OK.plain; rfl)  ); (first | (apply od_call; exact aX; infer_instance; exact aE; exact aN; (focus (first | fail))) ))); rfl; rfl) | (refine hd_pn_op rfl ?_) | (refine ts_step rfl (fun HF h1 hle => ?_)) | refine hd_storeA ?_ | refine hd_boxA (fun _ => ?_) | refine hd_alloc rfl (fun _ => ?_) | refine hd_makeA (fun _ => ?_) | refine hd_copyA ?_ | refine hd_litA (fun _ => ?_) | refine hd_appendA (fun _ _ => ?_) | refine hd_storeRA ?_)
  rename_i b1
  refine hd_pubbox (b := b1) (by exact aP) (fun h1 l1 p1 => ?_)
  ((repeat (refine hd_undefer (by first | exact .inl rfl | exact .inr rfl) (by exact aP) ?_)); apply hd_res0; (focus (first | exact .inl rfl | exact .inr rfl)); rfl; exact aR)
  exact ⟨_, rfl, p1⟩
/-- What stands behind a place, by what one step comes to. -/
theorem ylds_res {bs : List Int} (hb : B8 bs) {s s' : RS} {x : SD} {e : Int} (hs : s.1 < bs.length) (hr : StRes bs s x e s') (hs' : s'.1 ≤ bs.length) :
    (e ≠ 0 ∧ ylds (bs.length - s.1) (bs.drop s.1) = [(x, e)]) ∨ (e = 0 ∧ s'.2 = false ∧ ylds (bs.length - s.1) (bs.drop s.1) = (x, 0) :: ylds (bs.length - s'.1) (bs.drop s'.1)) := by
  obtain ⟨n, hn⟩ : ∃ n, bs.length - s.1 = n + 1 := ⟨bs.length - s.1 - 1, by omega⟩
  have hne : bs.drop s.1 ≠ [] := by intro e; have : (bs.drop s.1).length = 0 := by rw [e]; rfl
                                    simp at this; omega
  rw [hn]
  simp only [ylds]
  rw [if_neg hne]
  unfold StRes at hr
  cases hrd : rd (bs.drop s.1) with
  | none => rw [hrd] at hr; simp only at hr; left; rw [hr.1, hr.2]; exact ⟨by omega, rfl⟩
  | some q =>
    obtain ⟨y, r⟩ := q
    rw [hrd] at hr
    simp only at hr ⊢
    by_cases hk : stepOk y = true
    · rw [if_pos hk] at hr ⊢
      obtain ⟨rfl, rfl, hr2⟩ := hr
      right
      have h2 : s'.2 = false := by cases h : s'.2 with
        | false => rfl
        | true => simp [rst, h] at hr2
      simp only [rst, h2, cond_false, Option.some.injEq] at hr2
      subst hr2
      refine ⟨rfl, h2, ?_⟩
      have hl := rd_len (hb.drop s.1) hrd
      simp only [List.length_drop] at hl
      rw [ylds_fuel n (bs.length - s'.1) (bs.drop s'.1) (hb.drop _) (by simp; omega) (by simp)]
    · rw [if_neg hk] at hr ⊢
      left; rw [hr.1, hr.2]; exact ⟨by omega, rfl⟩
theorem StRes.len {bs : List Int} {s s' : RS} {x : SD} {e : Int} (hr : StRes bs s x e s') : x.data.length ≤ 60000 := by
  unfold StRes at hr
  split at hr
  · rw [hr.1]; simp [SD.zero]
  · rename_i y r _
    by_cases hk : stepOk y = true
    · rw [if_pos hk] at hr
      obtain ⟨rfl, _⟩ := hr
      simp only [stepOk, Bool.and_eq_true, fitB_iff] at hk
      have h9 := hk.2
      cases e : hVal x.kind with
      | true => have := h9.2.1 e; omega
      | false => have := h9.2.2 e; omega
    · rw [if_neg hk] at hr
      rw [hr.1]; simp [SD.zero]
theorem script_steps1 {p : Option Addr} {n c b1 : Nat} {bs : List Int} {h : PH} (hs : Bs h p n c bs) (hn : n ≤ 60000) (p1 : Pub h b1 0 [.slice p n c]) :
    IterP Try.prog 44 [.pointer (some ⟨b1, 0, none⟩)] h (stepV bs) (ylds bs.length bs).length := by
  intro yl St JX H0 h0 hY
  have hl := hs.len
  have hb8 := hs.b8
  refine spec_enter (args := [_, _]) Try.func44 rfl Try.ntmps44 rfl (fun w l => ?_)
  repeat' (first | refine hd_stop1 (id := 2) ?_ | fail | refine wkA ?_ | fail | (refine hd_planT (id := 1) [(0, 10, 8), (1, 11, 512), (2, 12, 1024), (4, 13, 2048), (0, 14, 8), (16, 15, 8192), (32, 16, 16384), (64, 17, 32768), (128, 18, 65536), (264, 19, 135168)] [] [.one 0 true, .one 1 true, .one 2 true, .one 3 true, .one 4 true, .one 5 true, .one 6 true, .one 7 true, .one 8 true, .one 9 true] follows_any (by kernel_rfl) (by kernel_rfl) (by kernel_rfl) rfl ?_) | refine hd_draw follows_any (by decide +kernel) ?_ | (refine is_on ?_; first | refine ts_onA ?_ | refine pn_barA ?_ | refine pn_goA ?_ | refine pt_goA ?_) | refine hd_nil ?_ | exact tsA | fail | (refine hd_condT (by exact aX) (by (first | rfl | assumption | (simp only [decide_eq_true_eq, decide_eq_false_iff_not]; omega) | fail)) ?_) | (refine hd_condF (by exact aX) (by (first | rfl | assumption | (simp only [decide_eq_true_eq, decide_eq_false_iff_not]; omega) | fail)) ?_) | (refine hd_cond (by exact aX) (fun _ => ?_) (fun _ => ?_)) | (apply hd_yield (Hi := [row8 pd x.data.length cd x.data] ++ Hk) (Hf := [rdB bR p n c s']); exact aX; exact aE; rfl; (focus exact fun w hw => Inv.first hw.drop1); exact hyk; (focus skip)) | (refine hd_gon rfl rfl (by (constructor; (focus (first | rfl | assumption | (simp only [decide_eq_true_eq, decide_eq_false_iff_not]; omega) | fail)); trivial)) ?_) | (refine hd_goff rfl rfl (fun hs => absurd hs.1 (by (first | decide | fail))) rfl ?_) | (refine hd_gundef rfl rfl rfl ?_) | fail | refine hd_opT ?_ | refine ch_opT ?_ | refine hd_pnT ?_ | ((first | apply hd_ok | apply ch_ok | (apply hd_pn_run; rfl; exact aM)); (focus ((first | (apply OK.plain; rfl; apply OD.of) | (apply OKp.plain; rfl)); (first | (apply od_pickX; exact aX; (focus (first | rfl | assumption | (simp only [decide_eq_true_eq, decide_eq_false_iff_not]; omega) | fail)); exact aX) | (apply od_pickY; exact aX; (focus (first | rfl | assumption | (simp only [decide_eq_true_eq, decide_eq_false_iff_not]; omega) | fail)); exact aX)))); rfl; rfl) | ((first | apply hd_ok | apply ch_ok); (focus ((first | (apply OK.plain; rfl)  ); (first | (apply od_call; exact aX; infer_instance; exact aE; exact aN; (focus (first | fail))) ))); rfl; rfl) | (refine hd_pn_op rfl ?_) | (refine ts_step rfl (fun HF h1 hle => ?_)) | refine hd_storeA ?_ | refine hd_boxA (fun _ => ?_) | refine hd_alloc rfl (fun _ => ?_) | refine hd_makeA (fun _ => ?_) | refine hd_copyA ?_ | refine hd_litA (fun _ => ?_) | refine hd_appendA (fun _ _ => ?_) | (apply hd_callM (Hi := [rdB _ _ _ _ _]); exact aX; infer_instance; exact aE; exact aN; rfl; (focus exact fun w hw => Inv.split (by exact aS) hw); (focus exact reader_step _ _ (by assumption) (by omega) (by assumption) (by assumption)); (focus (rintro _ h1 _ hle1 ⟨x, e, s', pf, nf, cf, pv, nv, cv, pd, cd, rfl, rfl, hx, h7, h8, hs', hres⟩; skip))))
  rename_i bR
  refine hd_loopS (ι := Nat × PH × List HE × RS) (fun i => i.1 ≤ (ylds bs.length bs).length ∧ h.le i.2.1 ∧ St i.1 i.2.1 i.2.2.1 ∧ i.2.2.2.1 ≤ bs.length ∧ i.2.2.2.2 = false ∧ (ylds bs.length bs).drop i.1 = ylds (bs.length - i.2.2.2.1) (bs.drop i.2.2.2.1))
    (fun i => [(0, [], .func (.yield yl) #[] #[]), (3, [], .pointer (some ⟨bR, 0, none⟩))]) (fun i => rdB bR p n c i.2.2.2 :: i.2.2.1) (fun i => i.2.1) (fun i => (ylds bs.length bs).length - i.1) (0, h, H0, (0, false)) ⟨by simp, PH.le_refl _, h0, by simp, rfl, by simp⟩ (by exact aU) (fun _ hw => hw) (fun i hi => ?_)
  obtain ⟨k, hk, Hk, s⟩ := i
  obtain ⟨hk1, hle, hst, hs1, hs2, hyl⟩ := hi
  simp only at hk1 hle hst hs1 hs2 hyl
  simp only
  have hsk := hs.mono hle
  refine hd_split (c := decide (s.1 < n)) (fun hlt => ?_) (fun hlt => ?_)
  · simp only [decide_eq_true_eq] at hlt
    repeat' (first | refine hd_stop1 (id := 2) ?_ | fail | refine wkA ?_ | fail | (refine hd_planT (id := 1) [(0, 10, 8), (1, 11, 512), (2, 12, 1024), (4, 13, 2048), (0, 14, 8), (16, 15, 8192), (32, 16, 16384), (64, 17, 32768), (128, 18, 65536), (264, 19, 135168)] [] [.one 0 true, .one 1 true, .one 2 true, .one 3 true, .one 4 true, .one 5 true, .one 6 true, .one 7 true, .one 8 true, .one 9 true] follows_any (by kernel_rfl) (by kernel_rfl) (by kernel_rfl) rfl ?_) | refine hd_draw follows_any (by decide +kernel) ?_ | (refine is_on ?_; first | refine ts_onA ?_ | refine pn_barA ?_ | refine pn_goA ?_ | refine pt_goA ?_) | refine hd_nil ?_ | exact tsA | fail | (refine hd_condT (by exact aX) (by (first | rfl | assumption | (simp only [decide_eq_true_eq, decide_eq_false_iff_not]; omega) | fail)) ?_) | (refine hd_condF (by exact aX) (by (first | rfl | assumption | (simp only [decide_eq_true_eq, decide_eq_false_iff_not]; omega) | fail)) ?_) | (refine hd_cond (by exact aX) (fun _ => ?_) (fun _ => ?_)) | (apply hd_yield (Hi := [row8 pd x.data.length cd x.data] ++ Hk) (Hf := [rdB bR p n c s']); exact aX; exact aE; rfl; (focus exact fun w hw => Inv.first hw.drop1); exact hyk; (focus skip)) | (refine hd_gon rfl rfl (by (constructor; (focus (first | rfl | assumption | (simp only [decide_eq_true_eq, decide_eq_false_iff_not]; omega) | fail)); trivial)) ?_) | (refine hd_goff rfl rfl (fun hs => absurd hs.1 (by (first | decide | fail))) rfl ?_) | (refine hd_gundef rfl rfl rfl ?_) | fail | refine hd_opT ?_ | refine ch_opT ?_ | refine hd_pnT ?_ | ((first | apply hd_ok | apply ch_ok | (apply hd_pn_run; rfl; exact aM)); (focus ((first | (apply OK.plain; rfl; apply OD.of) | (apply OKp.plain; rfl)); (first | (apply od_pickX; exact aX; (focus (first | rfl | assumption | (simp only [decide_eq_true_eq, decide_eq_false_iff_not]; omega) | fail)); exact aX) | (apply od_pickY; exact aX; (focus (first | rfl | assumption | (simp only [decide_eq_true_eq, decide_eq_false_iff_not]; omega) | fail)); exact aX)))); rfl; rfl) | ((first | apply hd_ok | apply ch_ok); (focus ((first | (apply OK.plain; rfl)  ); (first | (apply od_call; exact aX; infer_instance; exact aE; exact aN; (focus (first | fail))) ))); rfl; rfl) | (refine hd_pn_op rfl ?_) | (refine ts_step rfl (fun HF h1 hle => ?_)) | refine hd_storeA ?_ | refine hd_boxA (fun _ => ?_) | refine hd_alloc rfl (fun _ => ?_) | refine hd_makeA (fun _ => ?_) | refine hd_copyA ?_ | refine hd_litA (fun _ => ?_) | refine hd_appendA (fun _ _ => ?_) | (apply hd_callM (Hi := [rdB _ _ _ _ _]); exact aX; infer_instance; exact aE; exact aN; rfl; (focus exact fun w hw => Inv.split (by exact aS) hw); (focus exact reader_step _ _ (by assumption) (by omega) (by assumption) (by assumption)); (focus (rintro _ h1 _ hle1 ⟨x, e, s', pf, nf, cf, pv, nv, cv, pd, cd, rfl, rfl, hx, h7, h8, hs', hres⟩; skip))))
    refine Stop.mk ?_
    repeat' (first | refine hd_stop1 (id := 3) ?_ | fail | refine wkA ?_ | fail | (refine hd_planT (id := 1) [(0, 10, 8), (1, 11, 512), (2, 12, 1024), (4, 13, 2048), (0, 14, 8), (16, 15, 8192), (32, 16, 16384), (64, 17, 32768), (128, 18, 65536), (264, 19, 135168)] [] [.one 0 true, .one 1 true, .one 2 true, .one 3 true, .one 4 true, .one 5 true, .one 6 true, .one 7 true, .one 8 true, .one 9 true] follows_any (by kernel_rfl) (by kernel_rfl) (by kernel_rfl) rfl ?_) | refine hd_draw follows_any (by decide +kernel) ?_ | (refine is_on ?_; first | refine ts_onA ?_ | refine pn_barA ?_ | refine pn_goA ?_ | refine pt_goA ?_) | refine hd_nil ?_ | exact tsA | fail | (refine hd_condT (by exact aX) (by (first | rfl | assumption | (simp only [decide_eq_true_eq, decide_eq_false_iff_not]; omega) | fail)) ?_) | (refine hd_condF (by exact aX) (by (first | rfl | assumption | (simp only [decide_eq_true_eq, decide_eq_false_iff_not]; omega) | fail)) ?_) | (refine hd_cond (by exact aX) (fun _ => ?_) (fun _ => ?_)) | (apply hd_yield (Hi := [row8 pd x.data.length cd x.data] ++ Hk) (Hf := [rdB bR p n c s']); exact aX; exact aE; rfl; (focus exact fun w hw => Inv.first hw.drop1); exact hyk; (focus skip)) | (refine hd_gon rfl rfl (by (constructor; (focus (first | rfl | assumption | (simp only [decide_eq_true_eq, decide_eq_false_iff_not]; omega) | fail)); trivial)) ?_) | (refine hd_goff rfl rfl (fun hs => absurd hs.1 (by (first | decide | fail))) rfl ?_) | (refine hd_gundef rfl rfl rfl ?_) | fail | refine hd_opT ?_ | refine ch_opT ?_ | refine hd_pnT ?_ | ((first | apply hd_ok | apply ch_ok | (apply hd_pn_run; rfl; exact aM)); (focus ((first | (apply OK.plain; rfl; apply OD.of) | (apply OKp.plain; rfl)); (first | (apply od_pickX; exact aX; (focus (first | rfl | assumption | (simp only [decide_eq_true_eq, decide_eq_false_iff_not]; omega) | fail)); exact aX) | (apply od_pickY; exact aX; (focus (first | rfl | assumption | (simp only [decide_eq_true_eq, decide_eq_false_iff_not]; omega) | fail)); exact aX)))); rfl; rfl) | ((first | apply hd_ok | apply ch_ok); (focus ((first | (apply OK.plain; rfl)  ); (first | (apply od_call; exact aX; infer_instance; exact aE; exact aN; (focus (first | fail))) ))); rfl; rfl) | (refine hd_pn_op rfl ?_) | (refine ts_step rfl (fun HF h1 hle => ?_)) | refine hd_storeA ?_ | refine hd_boxA (fun _ => ?_) | refine hd_alloc rfl (fun _ => ?_) | refine hd_makeA (fun _ => ?_) | refine hd_copyA ?_ | refine hd_litA (fun _ => ?_) | refine hd_appendA (fun _ _ => ?_) | (apply hd_callM (Hi := [rdB _ _ _ _ _]); exact aX; infer_instance; exact aE; exact aN; rfl; (focus exact fun w hw => Inv.split (by exact aS) hw); (focus exact reader_step _ _ (by assumption) (by omega) (by assumption) (by assumption)); (focus (rintro _ h1 _ hle1 ⟨x, e, s', pf, nf, cf, pv, nv, cv, pd, cd, rfl, rfl, hx, h7, h8, hs', hres⟩; skip))))
    refine Stop.mk ?_
    rename_i bx
    have hres2 := ylds_res hb8 (by omega) hres hs'
    have hget : (ylds bs.length bs)[k]? = some (x, e) := by
      have h2 : ((ylds bs.length bs).drop k)[0]? = some (x, e) := by
        rw [hyl]
        rcases hres2 with ⟨_, h3⟩ | ⟨rfl, _, h3⟩ <;> rw [h3] <;> rfl
      simpa using h2
    have hkm : k < (ylds bs.length bs).length := (List.getElem?_eq_some_iff.1 hget).1
    have hyk := hY k hk h1 Hk _ [row8 pd x.data.length cd x.data] hkm hle hle1 hst ⟨x, e, _, _, hget, rfl, rfl, pf, nf, cf, pv, nv, cv, pd, cd, rfl, hx, h7, h8, hres.len, rfl⟩
    simp only [List.cons_append, List.nil_append]
    repeat' (first | fail | fail | refine wkA ?_ | fail | (refine hd_planT (id := 1) [(0, 10, 8), (1, 11, 512), (2, 12, 1024), (4, 13, 2048), (0, 14, 8), (16, 15, 8192), (32, 16, 16384), (64, 17, 32768), (128, 18, 65536), (264, 19, 135168)] [] [.one 0 true, .one 1 true, .one 2 true, .one 3 true, .one 4 true, .one 5 true, .one 6 true, .one 7 true, .one 8 true, .one 9 true] follows_any (by kernel_rfl) (by kernel_rfl) (by kernel_rfl) rfl ?_) | refine hd_draw follows_any (by decide +kernel) ?_ | (refine is_on ?_; first | refine ts_onA ?_ | refine pn_barA ?_ | refine pn_goA ?_ | refine pt_goA ?_) | refine hd_nil ?_ | exact tsA | fail | (refine hd_condT (by exact aX) (by (first | rfl | assumption | (simp only [decide_eq_true_eq, decide_eq_false_iff_not]; omega) | fail)) ?_) | (refine hd_condF (by exact aX) (by (first | rfl | assumption | (simp only [decide_eq_true_eq, decide_eq_false_iff_not]; omega) | fail)) ?_) | (refine hd_cond (by exact aX) (fun _ => ?_) (fun _ => ?_)) | (apply hd_yield (Hi := [row8 pd x.data.length cd x.data] ++ Hk) (Hf := [rdB bR p n c s']); exact aX; exact aE; rfl; (focus exact fun w hw => Inv.first hw.drop1); exact hyk; (focus skip)) | (refine hd_gon rfl rfl (by (constructor; (focus (first | rfl | assumption | (simp only [decide_eq_true_eq, decide_eq_false_iff_not]; omega) | fail)); trivial)) ?_) | (refine hd_goff rfl rfl (fun hs => absurd hs.1 (by (first | decide | fail))) rfl ?_) | (refine hd_gundef rfl rfl rfl ?_) | fail | refine hd_opT ?_ | refine ch_opT ?_ | refine hd_pnT ?_ | ((first | apply hd_ok | apply ch_ok | (apply hd_pn_run; rfl; exact aM)); (focus ((first | (apply OK.plain; rfl; apply OD.of) | (apply OKp.plain; rfl)); (first | (apply od_pickX; exact aX; (focus (first | rfl | assumption | (simp only [decide_eq_true_eq, decide_eq_false_iff_not]; omega) | fail)); exact aX) | (apply od_pickY; exact aX; (focus (first | rfl | assumption | (simp only [decide_eq_true_eq, decide_eq_false_iff_not]; omega) | fail)); exact aX)))); rfl; rfl) | ((first | apply hd_ok | apply ch_ok); (focus ((first | (apply OK.plain; rfl)  ); (first | (apply od_call; exact aX; infer_instance; exact aE; exact aN; (focus (first | fail))) ))); rfl; rfl) | (refine hd_pn_op rfl ?_) | (refine ts_step rfl (fun HF h1 hle => ?_)) | refine hd_storeA ?_ | refine hd_boxA (fun _ => ?_) | refine hd_alloc rfl (fun _ => ?_) | refine hd_makeA (fun _ => ?_) | refine hd_copyA ?_ | refine hd_litA (fun _ => ?_) | refine hd_appendA (fun _ _ => ?_) | (apply hd_callM (Hi := [rdB _ _ _ _ _]); exact aX; infer_instance; exact aE; exact aN; rfl; (focus exact fun w hw => Inv.split (by exact aS) hw); (focus exact reader_step _ _ (by assumption) (by omega) (by assumption) (by assumption)); (focus (rintro _ h1 _ hle1 ⟨x, e, s', pf, nf, cf, pv, nv, cv, pd, cd, rfl, rfl, hx, h7, h8, hs', hres⟩; skip))))
    rintro v h' Ho hle9 (⟨rfl, hst9⟩ | ⟨rfl, hjx⟩)
    · rcases hres2 with ⟨he, h3⟩ | ⟨rfl, hs2', h3⟩
      · have hend : k + 1 = (ylds bs.length bs).length := by
          rw [h3] at hyl
          have := congrArg List.length hyl
          simp at this; omega
        have he' : (e != 0) = true := by simpa using he
        repeat' (first | fail | fail | refine wkA ?_ | fail | (refine hd_planT (id := 1) [(0, 10, 8), (1, 11, 512), (2, 12, 1024), (4, 13, 2048), (0, 14, 8), (16, 15, 8192), (32, 16, 16384), (64, 17, 32768), (128, 18, 65536), (264, 19, 135168)] [] [.one 0 true, .one 1 true, .one 2 true, .one 3 true, .one 4 true, .one 5 true, .one 6 true, .one 7 true, .one 8 true, .one 9 true] follows_any (by kernel_rfl) (by kernel_rfl) (by kernel_rfl) rfl ?_) | refine hd_draw follows_any (by decide +kernel) ?_ | (refine is_on ?_; first | refine ts_onA ?_ | refine pn_barA ?_ | refine pn_goA ?_ | refine pt_goA ?_) | refine hd_nil ?_ | exact tsA | fail | (refine hd_condT (by exact aX) (by (first | rfl | assumption | (simp only [decide_eq_true_eq, decide_eq_false_iff_not]; omega) | fail)) ?_) | (refine hd_condF (by exact aX) (by (first | rfl | assumption | (simp only [decide_eq_true_eq, decide_eq_false_iff_not]; omega) | fail)) ?_) | (refine hd_cond (by exact aX) (fun _ => ?_) (fun _ => ?_)) | (apply hd_yield (Hi := [row8 pd x.data.length cd x.data] ++ Hk) (Hf := [rdB bR p n c s']); exact aX; exact aE; rfl; (focus exact fun w hw => Inv.first hw.drop1); exact hyk; (focus skip)) | (refine hd_gon rfl rfl (by (constructor; (focus (first | rfl | assumption | (simp only [decide_eq_true_eq, decide_eq_false_iff_not]; omega) | fail)); trivial)) ?_) | (refine hd_goff rfl rfl (fun hs => absurd hs.1 (by (first | decide | fail))) rfl ?_) | (refine hd_gundef rfl rfl rfl ?_) | fail | refine hd_opT ?_ | refine ch_opT ?_ | refine hd_pnT ?_ | ((first | apply hd_ok | apply ch_ok | (apply hd_pn_run; rfl; exact aM)); (focus ((first | (apply OK.plain; rfl; apply OD.of) | (apply OKp.plain; rfl)); (first | (apply od_pickX; exact aX; (focus (first | rfl | assumption | (simp only [decide_eq_true_eq, decide_eq_false_iff_not]; omega) | fail)); exact aX) | (apply od_pickY; exact aX; (focus (first | rfl | assumption | (simp only [decide_eq_true_eq, decide_eq_false_iff_not]; omega) | fail)); exact aX)))); rfl; rfl) | ((first | apply hd_ok | apply ch_ok); (focus ((first | (apply OK.plain; rfl)  ); (first | (apply od_call; exact aX; infer_instance; exact aE; exact aN; (focus (first | fail))) ))); rfl; rfl) | (refine hd_pn_op rfl ?_) | (refine ts_step rfl (fun HF h1 hle => ?_)) | refine hd_storeA ?_ | refine hd_boxA (fun _ => ?_) | refine hd_alloc rfl (fun _ => ?_) | refine hd_makeA (fun _ => ?_) | refine hd_copyA ?_ | refine hd_litA (fun _ => ?_) | refine hd_appendA (fun _ _ => ?_) | (apply hd_callM (Hi := [rdB _ _ _ _ _]); exact aX; infer_instance; exact aE; exact aN; rfl; (focus exact fun w hw => Inv.split (by exact aS) hw); (focus exact reader_step _ _ (by assumption) (by omega) (by assumption) (by assumption)); (focus (rintro _ h1 _ hle1 ⟨x, e, s', pf, nf, cf, pv, nv, cv, pd, cd, rfl, rfl, hx, h7, h8, hs', hres⟩; skip))))
        refine hd_inv (H2 := Ho) (fun w hw => Inv.left hw) ?_
        ((repeat (refine hd_undefer (by first | exact .inl rfl | exact .inr rfl) (by exact aP) ?_)); apply hd_resR; (focus (first | exact .inl rfl | exact .inr rfl)); rfl; exact aR)
        rw [← hend]
        exact .inl hst9
      · repeat' (first | fail | fail | refine wkA ?_ | fail | (refine hd_planT (id := 1) [(0, 10, 8), (1, 11, 512), (2, 12, 1024), (4, 13, 2048), (0, 14, 8), (16, 15, 8192), (32, 16, 16384), (64, 17, 32768), (128, 18, 65536), (264, 19, 135168)] [] [.one 0 true, .one 1 true, .one 2 true, .one 3 true, .one 4 true, .one 5 true, .one 6 true, .one 7 true, .one 8 true, .one 9 true] follows_any (by kernel_rfl) (by kernel_rfl) (by kernel_rfl) rfl ?_) | refine hd_draw follows_any (by decide +kernel) ?_ | (refine is_on ?_; first | refine ts_onA ?_ | refine pn_barA ?_ | refine pn_goA ?_ | refine pt_goA ?_) | refine hd_nil ?_ | exact tsA | fail | (refine hd_condT (by exact aX) (by (first | rfl | assumption | (simp only [decide_eq_true_eq, decide_eq_false_iff_not]; omega) | fail)) ?_) | (refine hd_condF (by exact aX) (by (first | rfl | assumption | (simp only [decide_eq_true_eq, decide_eq_false_iff_not]; omega) | fail)) ?_) | (refine hd_cond (by exact aX) (fun _ => ?_) (fun _ => ?_)) | (apply hd_yield (Hi := [row8 pd x.data.length cd x.data] ++ Hk) (Hf := [rdB bR p n c s']); exact aX; exact aE; rfl; (focus exact fun w hw => Inv.first hw.drop1); exact hyk; (focus skip)) | (refine hd_gon rfl rfl (by (constructor; (focus (first | rfl | assumption | (simp only [decide_eq_true_eq, decide_eq_false_iff_not]; omega) | fail)); trivial)) ?_) | (refine hd_goff rfl rfl (fun hs => absurd hs.1 (by (first | decide | fail))) rfl ?_) | (refine hd_gundef rfl rfl rfl ?_) | fail | refine hd_opT ?_ | refine ch_opT ?_ | refine hd_pnT ?_ | ((first | apply hd_ok | apply ch_ok | (apply hd_pn_run; rfl; exact aM)); (focus ((first | (apply OK.plain; rfl; apply OD.of) | (apply OKp.plain; rfl)); (first | (apply od_pickX; exact aX; (focus (first | rfl | assumption | (simp only [decide_eq_true_eq, decide_eq_false_iff_not]; omega) | fail)); exact aX) | (apply od_pickY; exact aX; (focus (first | rfl | assumption | (simp only [decide_eq_true_eq, decide_eq_false_iff_not]; omega) | fail)); exact aX)))); rfl; rfl) | ((first | apply hd_ok | apply ch_ok); (focus ((first | (apply OK.plain; rfl)  ); (first | (apply od_call; exact aX; infer_instance; exact aE; exact aN; (focus (first | fail))) ))); rfl; rfl) | (refine hd_pn_op rfl ?_) | (refine ts_step rfl (fun HF h1 hle => ?_)) | refine hd_storeA ?_ | refine hd_boxA (fun _ => ?_) | refine hd_alloc rfl (fun _ => ?_) | refine hd_makeA (fun _ => ?_) | refine hd_copyA ?_ | refine hd_litA (fun _ => ?_) | refine hd_appendA (fun _ _ => ?_) | (apply hd_callM (Hi := [rdB _ _ _ _ _]); exact aX; infer_instance; exact aE; exact aN; rfl; (focus exact fun w hw => Inv.split (by exact aS) hw); (focus exact reader_step _ _ (by assumption) (by omega) (by assumption) (by assumption)); (focus (rintro _ h1 _ hle1 ⟨x, e, s', pf, nf, cf, pv, nv, cv, pd, cd, rfl, rfl, hx, h7, h8, hs', hres⟩; skip))))
        refine hd_again (k + 1, h', Ho, s') ⟨by simp only; omega, PH.le_trans hle (PH.le_trans hle1 hle9), hst9, hs', hs2', ?_⟩ (by simp only; omega) (by exact aU) (fun w hw => Inv.last hw)
        rw [h3] at hyl
        simp only
        rw [← List.drop_drop, hyl]; rfl
    · repeat' (first | fail | fail | refine wkA ?_ | fail | (refine hd_planT (id := 1) [(0, 10, 8), (1, 11, 512), (2, 12, 1024), (4, 13, 2048), (0, 14, 8), (16, 15, 8192), (32, 16, 16384), (64, 17, 32768), (128, 18, 65536), (264, 19, 135168)] [] [.one 0 true, .one 1 true, .one 2 true, .one 3 true, .one 4 true, .one 5 true, .one 6 true, .one 7 true, .one 8 true, .one 9 true] follows_any (by kernel_rfl) (by kernel_rfl) (by kernel_rfl) rfl ?_) | refine hd_draw follows_any (by decide +kernel) ?_ | (refine is_on ?_; first | refine ts_onA ?_ | refine pn_barA ?_ | refine pn_goA ?_ | refine pt_goA ?_) | refine hd_nil ?_ | exact tsA | fail | (refine hd_condT (by exact aX) (by (first | rfl | assumption | (simp only [decide_eq_true_eq, decide_eq_false_iff_not]; omega) | fail)) ?_) | (refine hd_condF (by exact aX) (by (first | rfl | assumption | (simp only [decide_eq_true_eq, decide_eq_false_iff_not]; omega) | fail)) ?_) | (refine hd_cond (by exact aX) (fun _ => ?_) (fun _ => ?_)) | (apply hd_yield (Hi := [row8 pd x.data.length cd x.data] ++ Hk) (Hf := [rdB bR p n c s']); exact aX; exact aE; rfl; (focus exact fun w hw => Inv.first hw.drop1); exact hyk; (focus skip)) | (refine hd_gon rfl rfl (by (constructor; (focus (first | rfl | assumption | (simp only [decide_eq_true_eq, decide_eq_false_iff_not]; omega) | fail)); trivial)) ?_) | (refine hd_goff rfl rfl (fun hs => absurd hs.1 (by (first | decide | fail))) rfl ?_) | (refine hd_gundef rfl rfl rfl ?_) | fail | refine hd_opT ?_ | refine ch_opT ?_ | refine hd_pnT ?_ | ((first | apply hd_ok | apply ch_ok | (apply hd_pn_run; rfl; exact aM)); (focus ((first | (apply OK.plain; rfl; apply OD.of) | (apply OKp.plain; rfl)); (first | (apply od_pickX; exact aX; (focus (first | rfl | assumption | (simp only [decide_eq_true_eq, decide_eq_false_iff_not]; omega) | fail)); exact aX) | (apply od_pickY; exact aX; (focus (first | rfl | assumption | (simp only [decide_eq_true_eq, decide_eq_false_iff_not]; omega) | fail)); exact aX)))); rfl; rfl) | ((first | apply hd_ok | apply ch_ok); (focus ((first | (apply OK.plain; rfl)  ); (first | (apply od_call; exact aX; infer_instance; exact aE; exact aN; (focus (first | fail))) ))); rfl; rfl) | (refine hd_pn_op rfl ?_) | (refine ts_step rfl (fun HF h1 hle => ?_)) | refine hd_storeA ?_ | refine hd_boxA (fun _ => ?_) | refine hd_alloc rfl (fun _ => ?_) | refine hd_makeA (fun _ => ?_) | refine hd_copyA ?_ | refine hd_litA (fun _ => ?_) | refine hd_appendA (fun _ _ => ?_) | (apply hd_callM (Hi := [rdB _ _ _ _ _]); exact aX; infer_instance; exact aE; exact aN; rfl; (focus exact fun w hw => Inv.split (by exact aS) hw); (focus exact reader_step _ _ (by assumption) (by omega) (by assumption) (by assumption)); (focus (rintro _ h1 _ hle1 ⟨x, e, s', pf, nf, cf, pv, nv, cv, pd, cd, rfl, rfl, hx, h7, h8, hs', hres⟩; skip))))
      refine hd_inv (H2 := Ho) (fun w hw => Inv.left hw) ?_
      ((repeat (refine hd_undefer (by first | exact .inl rfl | exact .inr rfl) (by exact aP) ?_)); apply hd_resR; (focus (first | exact .inl rfl | exact .inr rfl)); rfl; exact aR)
      exact .inr hjx
  · simp only [decide_eq_false_iff_not] at hlt
    have e0 : bs.drop s.1 = [] := List.drop_of_length_le (by omega)
    have e1 : k = (ylds bs.length bs).length := by
      rw [e0, show bs.length - s.1 = 0 by omega] at hyl
      have := List.drop_eq_nil_iff.1 (show (ylds bs.length bs).drop k = [] by rw [hyl]; rfl)
      omega
    repeat' (first | fail | fail | refine wkA ?_ | fail | (refine hd_planT (id := 1) [(0, 10, 8), (1, 11, 512), (2, 12, 1024), (4, 13, 2048), (0, 14, 8), (16, 15, 8192), (32, 16, 16384), (64, 17, 32768), (128, 18, 65536), (264, 19, 135168)] [] [.one 0 true, .one 1 true, .one 2 true, .one 3 true, .one 4 true, .one 5 true, .one 6 true, .one 7 true, .one 8 true, .one 9 true] follows_any (by kernel_rfl) (by kernel_rfl) (by kernel_rfl) rfl ?_) | refine hd_draw follows_any (by decide +kernel) ?_ | (refine is_on ?_; first | refine ts_onA ?_ | refine pn_barA ?_ | refine pn_goA ?_ | refine pt_goA ?_) | refine hd_nil ?_ | exact tsA | fail | (refine hd_condT (by exact aX) (by (first | rfl | assumption | (simp only [decide_eq_true_eq, decide_eq_false_iff_not]; omega) | fail)) ?_) | (refine hd_condF (by exact aX) (by (first | rfl | assumption | (simp only [decide_eq_true_eq, decide_eq_false_iff_not]; omega) | fail)) ?_) | (refine hd_cond (by exact aX) (fun _ => ?_) (fun _ => ?_)) | (apply hd_yield (Hi := [row8 pd x.data.length cd x.data] ++ Hk) (Hf := [rdB bR p n c s']); exact aX; exact aE; rfl; (focus exact fun w hw => Inv.first hw.drop1); exact hyk; (focus skip)) | (refine hd_gon rfl rfl (by (constructor; (focus (first | rfl | assumption | (simp only [decide_eq_true_eq, decide_eq_false_iff_not]; omega) | fail)); trivial)) ?_) | (refine hd_goff rfl rfl (fun hs => absurd hs.1 (by (first | decide | fail))) rfl ?_) | (refine hd_gundef rfl rfl rfl ?_) | fail | refine hd_opT ?_ | refine ch_opT ?_ | refine hd_pnT ?_ | ((first | apply hd_ok | apply ch_ok | (apply hd_pn_run; rfl; exact aM)); (focus ((first | (apply OK.plain; rfl; apply OD.of) | (apply OKp.plain; rfl)); (first | (apply od_pickX; exact aX; (focus (first | rfl | assumption | (simp only [decide_eq_true_eq, decide_eq_false_iff_not]; omega) | fail)); exact aX) | (apply od_pickY; exact aX; (focus (first | rfl | assumption | (simp only [decide_eq_true_eq, decide_eq_false_iff_not]; omega) | fail)); exact aX)))); rfl; rfl) | ((first | apply hd_ok | apply ch_ok); (focus ((first | (apply OK.plain; rfl)  ); (first | (apply od_call; exact aX; infer_instance; exact aE; exact aN; (focus (first | fail))) ))); rfl; rfl) | (refine hd_pn_op rfl ?_) | (refine ts_step rfl (fun HF h1 hle => ?_)) | refine hd_storeA ?_ | refine hd_boxA (fun _ => ?_) | refine hd_alloc rfl (fun _ => ?_) | refine hd_makeA (fun _ => ?_) | refine hd_copyA ?_ | refine hd_litA (fun _ => ?_) | refine hd_appendA (fun _ _ => ?_) | (apply hd_callM (Hi := [rdB _ _ _ _ _]); exact aX; infer_instance; exact aE; exact aN; rfl; (focus exact fun w hw => Inv.split (by exact aS) hw); (focus exact reader_step _ _ (by assumption) (by omega) (by assumption) (by assumption)); (focus (rintro _ h1 _ hle1 ⟨x, e, s', pf, nf, cf, pv, nv, cv, pd, cd, rfl, rfl, hx, h7, h8, hs', hres⟩; skip))))
    refine hd_inv (H2 := Hk) (fun w hw => hw.drop1) ?_
    ((repeat (refine hd_undefer (by first | exact .inl rfl | exact .inr rfl) (by exact aP) ?_)); apply hd_resR; (focus (first | exact .inl rfl | exact .inr rfl)); rfl; exact aR)
    rw [← e1]
    exact .inl hst
theorem fin_take : ∀ (ys : List (SD × Int)) (k : Nat) (acc : List SD), (∀ y ∈ ys.take k, y.2 = 0) → fin acc ys = fin (acc ++ (ys.take k).map Prod.fst) (ys.drop k)
  | ys, 0, acc, _ => by simp
  | [], k + 1, acc, _ => by simp
  | (x, e) :: ys, k + 1, acc, h => by
    have h0 : e = 0 := h (x, e) (by simp)
    simp only [fin, h0, if_true, List.take_succ_cons, List.map_cons, List.drop_succ_cons]
    rw [fin_take ys k (acc ++ [x]) (fun y hy => h y (by simp [hy]))]
    simp
theorem script_Parse {p : Option Addr} {n c : Nat} {bs : List Int} (h : PH) (hs : Bs h p n c bs) (hn : n ≤ 60000) :
    SpecM Try.prog 14 #[.slice p n c] h [] fun v h' Ho => ∃ p' c' css D, v = .tuple #[.slice p' (parse bs).1.length c', .int .i64 (parse bs).2] ∧ Ho = row p' (parse bs).1.length c' 28 10 css.flatten :: D ∧ OwnS h' css (parse bs).1 D.reverse := by
  have hl := hs.len
  have hyl := ylds_len bs.length bs
  refine spec_enter (args := [_]) Try.func14 rfl Try.ntmps14 rfl (fun w l => ?_)
  repeat' (first | fail | fail | refine wkA ?_ | fail | fail | refine hd_draw follows_any (by decide +kernel) ?_ | (refine is_on ?_; first | refine ts_onA ?_ | refine pn_barA ?_ | refine pn_goA ?_ | refine pt_goA ?_) | refine hd_nil ?_ | exact tsA | fail | (refine hd_condT (by exact aX) (by (first | rfl | assumption | (simp only [decide_eq_true_eq, decide_eq_false_iff_not]; omega) | (simp; omega) | fail)) ?_) | (refine hd_condF (by exact aX) (by (first | rfl | assumption | (simp only [decide_eq_true_eq, decide_eq_false_iff_not]; omega) | (simp; omega) | fail)) ?_) | (refine hd_cond (by exact aX) (fun _ => ?_) (fun _ => ?_))   | fail | refine hd_opT ?_ | refine ch_opT ?_ | refine hd_pnT ?_ | ((first | apply hd_ok | apply ch_ok | (apply hd_pn_run; rfl; exact aM)); (focus ((first | (apply OK.plain; rfl; apply OD.of) | (apply OKp.plain; rfl)); (first | (apply od_pickX; exact aX; (focus (first | rfl | assumption | (simp only [decide_eq_true_eq, decide_eq_false_iff_not]; omega) | (simp; omega) | fail)); exact aX) | (apply od_pickY; exact aX; (focus (first | rfl | assumption | (simp only [decide_eq_true_eq, decide_eq_false_iff_not]; omega) | (simp; omega) | fail)); exact aX)))); rfl; rfl) | ((first | apply hd_ok | apply ch_ok); (focus ((first | (apply OK.plain; rfl)  ); (first | (apply od_call; exact aX; infer_instance; exact aE; exact aN; (focus (first | fail))) ))); rfl; rfl) | (refine hd_pn_op rfl ?_) | (refine ts_step rfl (fun HF h1 hle => ?_)) | refine hd_storeA ?_ | refine hd_boxA (fun _ => ?_) | refine hd_alloc rfl (fun _ => ?_) | refine hd_makeA (fun _ => ?_) | refine hd_copyA ?_ | refine hd_litA (fun _ => ?_) | refine hd_appendA (fun _ _ => ?_) | (apply hd_call; exact aX; infer_instance; exact aE; exact aN; rfl; (focus exact script_steps _); (focus (rintro _ h1 hle1 ⟨bS, rfl, hpS⟩; skip))))
  rename_i b2 b3 b4
  refine hd_nilrow 28 10 ?_
  have hit := script_steps1 (hs.mono hle1) hn hpS
  refine hd_rangeFuncP (m := (ylds bs.length bs).length) (V := stepV bs)
    (fun k hk Hk => ∃ (p' : Option Addr) (c' : Nat) (css : List (List Value)) (D : List HE), (∀ y ∈ (ylds bs.length bs).take k, y.2 = 0) ∧ OwnS hk css (((ylds bs.length bs).take k).map Prod.fst) D.reverse ∧ Hk = row p' k c' 28 10 css.flatten :: box b4 [.slice p' k c'] 30 :: box b3 [.int .i64 0] 37 :: box b2 [.slice none 0 0] 30 :: D)
    (fun cd hk Hk => cd = .ret ∧ ∃ e, parse bs = ([], e) ∧ Hk = [box b2 [.slice none 0 0] 30, box b3 [.int .i64 e] 37])
    (by exact aX) inferInstance rfl hit (by rintro k vs h' Hv ⟨x, e, cs, d, _, rfl, _⟩; rfl) ⟨none, 0, [], [], by simp, by simp [OwnS], rfl⟩ ?_ ?_ ?_
  · rintro C' l' r k hk hq Hk vs Hv hkm hle hleq ⟨p', c', css, D, hz, hown, rfl⟩ ⟨x, e, cs, d, hget, rfl, rfl, hoT⟩
    have hlen := hown.one
    have htk : ((ylds bs.length bs).take k).length = k := by simp; omega
    have hfin := fin_take (ylds bs.length bs) k [] hz
    have hdk : (ylds bs.length bs).drop k = (x, e) :: (ylds bs.length bs).drop (k + 1) := by
      rw [List.drop_eq_getElem_cons hkm]
      rw [(List.getElem?_eq_some_iff.1 hget).2]
    have hts : (ylds bs.length bs).take (k + 1) = (ylds bs.length bs).take k ++ [(x, e)] := take_step hget
    have hoT' := hoT
    obtain ⟨pf, nf, cf, pv, nv, cv, pd, cd, rfl, hx, h7, h8, hdl, rfl⟩ := hoT'
    refine hd_inv (H2 := lp l' r .ready none :: ([row8 pd x.data.length cd x.data] ++ (row p' k c' 28 10 css.flatten :: box b4 [.slice p' k c'] 30 :: box b3 [.int .i64 0] 37 :: box b2 [.slice none 0 0] 30 :: D))) (fun w hw => Inv.last hw) ?_
    simp only [List.cons_append, List.nil_append]
    refine hd_split (c := decide (e = 0)) (fun he => ?_) (fun he => ?_)
    · simp only [decide_eq_true_eq] at he
      subst he
      repeat' (first | fail | fail | refine wkA ?_ | fail | fail | refine hd_draw follows_any (by decide +kernel) ?_ | (refine is_on ?_; first | refine ts_onA ?_ | refine pn_barA ?_ | refine pn_goA ?_ | refine pt_goA ?_) | refine hd_nil ?_ | exact tsA | fail | (refine hd_condT (by exact aX) (by (first | rfl | assumption | (simp only [decide_eq_true_eq, decide_eq_false_iff_not]; omega) | (simp; omega) | fail)) ?_) | (refine hd_condF (by exact aX) (by (first | rfl | assumption | (simp only [decide_eq_true_eq, decide_eq_false_iff_not]; omega) | (simp; omega) | fail)) ?_) | (refine hd_cond (by exact aX) (fun _ => ?_) (fun _ => ?_)) | (refine hd_append (by exact aX) (by exact aX) (by exact aP) (by (first | exact Src.row (by exact aH) | fail)) (by rfl) (by rfl) (by omega) (by omega) (by rfl) (fun p3 c3 => ?_)) | fail | refine hd_opT ?_ | refine ch_opT ?_ | refine hd_pnT ?_ | ((first | apply hd_ok | apply ch_ok | (apply hd_pn_run; rfl; exact aM)); (focus ((first | (apply OK.plain; rfl; apply OD.of) | (apply OKp.plain; rfl)); (first | (apply od_pickX; exact aX; (focus (first | rfl | assumption | (simp only [decide_eq_true_eq, decide_eq_false_iff_not]; omega) | (simp; omega) | fail)); exact aX) | (apply od_pickY; exact aX; (focus (first | rfl | assumption | (simp only [decide_eq_true_eq, decide_eq_false_iff_not]; omega) | (simp; omega) | fail)); exact aX)))); rfl; rfl) | ((first | apply hd_ok | apply ch_ok); (focus ((first | (apply OK.plain; rfl)  ); (first | (apply od_call; exact aX; infer_instance; exact aE; exact aN; (focus (first | fail))) ))); rfl; rfl) | (refine hd_pn_op rfl ?_) | (refine ts_step rfl (fun HF h1 hle => ?_)) | refine hd_storeA ?_ | refine hd_boxA (fun _ => ?_) | refine hd_alloc rfl (fun _ => ?_) | refine hd_makeA (fun _ => ?_) | refine hd_copyA ?_ | refine hd_litA (fun _ => ?_) | refine hd_appendA (fun _ _ => ?_) | (apply hd_call; exact aX; infer_instance; exact aE; exact aN; rfl; (focus exact script_steps _); (focus (rintro _ h1 hle1 ⟨bS, rfl, hpS⟩; skip))))
      rename_i bx g
      refine hd_next (row p3 (k + 1) c3 28 10 (css.flatten ++ [.int .u8 x.kind, .int .u8 x.node, .int .u8 x.other, .int .i64 x.at_, .int .i64 x.to_, .int .i64 x.from_, .int .u32 x.turns, .slice pf nf cf, .slice pv nv cv, .slice pd x.data.length cd]) :: box b4 [.slice p3 (k + 1) c3] 30 :: box b3 [.int .i64 0] 37 :: box b2 [.slice none 0 0] 30 :: row8 pd x.data.length cd x.data :: D) (fun w hw => ?_) ⟨p3, c3, css ++ [[.int .u8 x.kind, .int .u8 x.node, .int .u8 x.other, .int .i64 x.at_, .int .i64 x.to_, .int .i64 x.from_, .int .u32 x.turns, .slice pf nf cf, .slice pv nv cv, .slice pd x.data.length cd]], row8 pd x.data.length cd x.data :: D, ?_, ?_, ?_⟩
      · have h2 := Inv.split (Hi := [row (some ⟨g, 0, none⟩) _ _ _ _ _, box bx _ 28, lp l' r .busy none, row p3 (k + 1) c3 28 10 (css.flatten ++ [.int .u8 x.kind, .int .u8 x.node, .int .u8 x.other, .int .i64 x.at_, .int .i64 x.to_, .int .i64 x.from_, .int .u32 x.turns, .slice pf nf cf, .slice pv nv cv, .slice pd x.data.length cd]), box b4 [.slice p3 (k + 1) c3] 30, box b3 [.int .i64 0] 37, box b2 [.slice none 0 0] 30, row8 pd x.data.length cd x.data]) (Hf := D) (by exact aS) hw
        exact Inv.first h2.drop1.drop1
      · intro y hy
        rw [hts] at hy
        rcases List.mem_append.1 hy with hy | hy
        · exact hz y hy
        · simp at hy; rw [hy]
      · rw [hts, List.map_append, List.reverse_cons]
        exact OwnS.snoc hoT (OwnS.mono hleq hown)
      · simp
    · simp only [decide_eq_false_iff_not] at he
      have he' : (e != 0) = true := by simpa using he
      repeat' (first | fail | fail | refine wkA ?_ | fail | fail | refine hd_draw follows_any (by decide +kernel) ?_ | (refine is_on ?_; first | refine ts_onA ?_ | refine pn_barA ?_ | refine pn_goA ?_ | refine pt_goA ?_) | refine hd_nil ?_ | exact tsA | fail | (refine hd_condT (by exact aX) (by (first | rfl | assumption | (simp only [decide_eq_true_eq, decide_eq_false_iff_not]; omega) | (simp; omega) | fail)) ?_) | (refine hd_condF (by exact aX) (by (first | rfl | assumption | (simp only [decide_eq_true_eq, decide_eq_false_iff_not]; omega) | (simp; omega) | fail)) ?_) | (refine hd_cond (by exact aX) (fun _ => ?_) (fun _ => ?_))   | fail | refine hd_opT ?_ | refine ch_opT ?_ | refine hd_pnT ?_ | ((first | apply hd_ok | apply ch_ok | (apply hd_pn_run; rfl; exact aM)); (focus ((first | (apply OK.plain; rfl; apply OD.of) | (apply OKp.plain; rfl)); (first | (apply od_pickX; exact aX; (focus (first | rfl | assumption | (simp only [decide_eq_true_eq, decide_eq_false_iff_not]; omega) | (simp; omega) | fail)); exact aX) | (apply od_pickY; exact aX; (focus (first | rfl | assumption | (simp only [decide_eq_true_eq, decide_eq_false_iff_not]; omega) | (simp; omega) | fail)); exact aX)))); rfl; rfl) | ((first | apply hd_ok | apply ch_ok); (focus ((first | (apply OK.plain; rfl)  ); (first | (apply od_call; exact aX; infer_instance; exact aE; exact aN; (focus (first | fail))) ))); rfl; rfl) | (refine hd_pn_op rfl ?_) | (refine ts_step rfl (fun HF h1 hle => ?_)) | refine hd_storeA ?_ | refine hd_boxA (fun _ => ?_) | refine hd_alloc rfl (fun _ => ?_) | refine hd_makeA (fun _ => ?_) | refine hd_copyA ?_ | refine hd_litA (fun _ => ?_) | refine hd_appendA (fun _ _ => ?_) | (apply hd_call; exact aX; infer_instance; exact aE; exact aN; rfl; (focus exact script_steps _); (focus (rintro _ h1 hle1 ⟨bS, rfl, hpS⟩; skip))))
      rename_i bx
      refine hd_out_r [box b2 [.slice none 0 0] 30, box b3 [.int .i64 e] 37] (fun w hw => ?_) ⟨rfl, e, ?_, rfl⟩
      · have h2 := Inv.split (Hi := [lp l' r .busy none, box b2 [.slice none 0 0] 30, box b3 [.int .i64 e] 37]) (by exact aS) hw
        exact Inv.first h2.left
      · unfold parse
        rw [hfin, hdk]
        simp [fin, he]
  · rintro DD h' H' hle ⟨p', c', css, D, hz, hown, rfl⟩
    have hpe : parse bs = (((ylds bs.length bs).take (ylds bs.length bs).length).map Prod.fst, 0) := by
      unfold parse
      rw [fin_take (ylds bs.length bs) _ [] hz]
      simp [fin]
    have hle2 : ((ylds bs.length bs).take (ylds bs.length bs).length).length = (ylds bs.length bs).length := by simp
    refine hd_inv (H2 := dfr DD :: (row p' (ylds bs.length bs).length c' 28 10 css.flatten :: box b4 [.slice p' (ylds bs.length bs).length c'] 30 :: box b3 [.int .i64 0] 37 :: box b2 [.slice none 0 0] 30 :: D)) (fun w hw => Inv.last hw) ?_
    repeat' (first | fail | fail | refine wkA ?_ | fail | fail | refine hd_draw follows_any (by decide +kernel) ?_ | (refine is_on ?_; first | refine ts_onA ?_ | refine pn_barA ?_ | refine pn_goA ?_ | refine pt_goA ?_) | refine hd_nil ?_ | exact tsA | fail | (refine hd_condT (by exact aX) (by (first | rfl | assumption | (simp only [decide_eq_true_eq, decide_eq_false_iff_not]; omega) | (simp; omega) | fail)) ?_) | (refine hd_condF (by exact aX) (by (first | rfl | assumption | (simp only [decide_eq_true_eq, decide_eq_false_iff_not]; omega) | (simp; omega) | fail)) ?_) | (refine hd_cond (by exact aX) (fun _ => ?_) (fun _ => ?_))   | fail | refine hd_opT ?_ | refine ch_opT ?_ | refine hd_pnT ?_ | ((first | apply hd_ok | apply ch_ok | (apply hd_pn_run; rfl; exact aM)); (focus ((first | (apply OK.plain; rfl; apply OD.of) | (apply OKp.plain; rfl)); (first | (apply od_pickX; exact aX; (focus (first | rfl | assumption | (simp only [decide_eq_true_eq, decide_eq_false_iff_not]; omega) | (simp; omega) | fail)); exact aX) | (apply od_pickY; exact aX; (focus (first | rfl | assumption | (simp only [decide_eq_true_eq, decide_eq_false_iff_not]; omega) | (simp; omega) | fail)); exact aX)))); rfl; rfl) | ((first | apply hd_ok | apply ch_ok); (focus ((first | (apply OK.plain; rfl)  ); (first | (apply od_call; exact aX; infer_instance; exact aE; exact aN; (focus (first | fail))) ))); rfl; rfl) | (refine hd_pn_op rfl ?_) | (refine ts_step rfl (fun HF h1 hle => ?_)) | refine hd_storeA ?_ | refine hd_boxA (fun _ => ?_) | refine hd_alloc rfl (fun _ => ?_) | refine hd_makeA (fun _ => ?_) | refine hd_copyA ?_ | refine hd_litA (fun _ => ?_) | refine hd_appendA (fun _ _ => ?_) | (apply hd_call; exact aX; infer_instance; exact aE; exact aN; rfl; (focus exact script_steps _); (focus (rintro _ h1 hle1 ⟨bS, rfl, hpS⟩; skip))))
    (repeat (refine hd_undefer (by first | exact .inl rfl | exact .inr rfl) (by exact aP) ?_))
    apply hd_res
    (focus (first | exact .inl rfl | exact .inr rfl)); rfl; exact aR
    intro w hw
    have h2 := Inv.split (Hi := [box b4 _ 30, box b3 _ 37, box b2 _ 30, row p' (ylds bs.length bs).length c' 28 10 css.flatten]) (Hf := D) (by exact aS) hw
    rw [hpe]
    refine ⟨h', _, ⟨p', c', css, D, ?_, rfl, hown⟩, ?_⟩
    · simp only [List.length_map, hle2]; rfl
    · simp only [List.length_map, hle2]
      exact h2.drop1.drop1.drop1
  · rintro DD cd h' H' hle ⟨rfl, e, hpe, rfl⟩
    repeat' (first | fail | fail | refine wkA ?_ | fail | fail | refine hd_draw follows_any (by decide +kernel) ?_ | (refine is_on ?_; first | refine ts_onA ?_ | refine pn_barA ?_ | refine pn_goA ?_ | refine pt_goA ?_) | refine hd_nil ?_ | exact tsA | fail | (refine hd_condT (by exact aX) (by (first | rfl | assumption | (simp only [decide_eq_true_eq, decide_eq_false_iff_not]; omega) | (simp; omega) | fail)) ?_) | (refine hd_condF (by exact aX) (by (first | rfl | assumption | (simp only [decide_eq_true_eq, decide_eq_false_iff_not]; omega) | (simp; omega) | fail)) ?_) | (refine hd_cond (by exact aX) (fun _ => ?_) (fun _ => ?_))   | fail | refine hd_opT ?_ | refine ch_opT ?_ | refine hd_pnT ?_ | ((first | apply hd_ok | apply ch_ok | (apply hd_pn_run; rfl; exact aM)); (focus ((first | (apply OK.plain; rfl; apply OD.of) | (apply OKp.plain; rfl)); (first | (apply od_pickX; exact aX; (focus (first | rfl | assumption | (simp only [decide_eq_true_eq, decide_eq_false_iff_not]; omega) | (simp; omega) | fail)); exact aX) | (apply od_pickY; exact aX; (focus (first | rfl | assumption | (simp only [decide_eq_true_eq, decide_eq_false_iff_not]; omega) | (simp; omega) | fail)); exact aX)))); rfl; rfl) | ((first | apply hd_ok | apply ch_ok); (focus ((first | (apply OK.plain; rfl)  ); (first | (apply od_call; exact aX; infer_instance; exact aE; exact aN; (focus (first | fail))) ))); rfl; rfl) | (refine hd_pn_op rfl ?_) | (refine ts_step rfl (fun HF h1 hle => ?_)) | refine hd_storeA ?_ | refine hd_boxA (fun _ => ?_) | refine hd_alloc rfl (fun _ => ?_) | refine hd_makeA (fun _ => ?_) | refine hd_copyA ?_ | refine hd_litA (fun _ => ?_) | refine hd_appendA (fun _ _ => ?_) | (apply hd_call; exact aX; infer_instance; exact aE; exact aN; rfl; (focus exact script_steps _); (focus (rintro _ h1 hle1 ⟨bS, rfl, hpS⟩; skip))))
    refine hd_nilrow 28 10 ?_
    ((repeat (refine hd_undefer (by first | exact .inl rfl | exact .inr rfl) (by exact aP) ?_)); apply hd_resS (Hi := [row none 0 0 _ _ []]); (focus (first | exact .inl rfl | exact .inr rfl)); rfl; exact aR; exact aS)
    rw [hpe]
    exact ⟨none, 0, [], [], rfl, rfl, by simp [OwnS]⟩
end Go.Proofs.Ytikkkfamflmgeaa
