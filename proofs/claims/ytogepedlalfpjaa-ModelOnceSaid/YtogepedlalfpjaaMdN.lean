/- Filters in memory that is new. -/
import Derived.Test.YtogepedlalfpjaaFilt2
namespace Go.Proofs.Ytogepedlalfpjaa
open Go Go.GV
attribute [local irreducible] cw Go.GV.SpecM Go.GV.wpList Exit.then Exit.inBlock Go.GV.bodyPost wpPl wpPm wpPn TS rnd rPost YieldsB wpPT ptK
set_option maxRecDepth 10000
set_option maxHeartbeats 4000000
set_option linter.unusedVariables false
set_option linter.unusedSimpArgs false
theorem All2.rmono {α : Type} {r : Rp α} {h h' : PH} {css : List (List Value)} {xs : List α} (hh : All2 (r.ok h) css xs) (hl : h.le h') : All2 (r.ok h') css xs := hh.mono fun _ _ => r.mono hl
theorem SlR.old {α : Type} {r : Rp α} {h0 h : PH} {p : Option Addr} {n c : Nat} {xs : List α} (hs : SlR r (PH.new h0 h) p n c xs) : SlR r h p n c xs := hs.mono (PH.new_le _ _)
theorem hd_pubNS {C : Ctx} {N : Fr} {L : En} {H H' : List HE} {h hb : PH} {R : Act → World → Prop} {p : Option Addr} {n c : Nat} {e : TypeId} {ys : List Value} {xs : List Sp} (hbl : hb.le h) (hpk : Pick H (row p n c e 2 ys) H') (hc : C2 ys xs) (hr : ∀ x ∈ xs, inR .i32 x.1 ∧ inR .i32 x.2) (hlen : xs.length = n) (htop : n ≤ 9223372036854775807)
    (next : ∀ h', h.le h' → SlS (PH.new hb h') p n c xs → Hd C N L H' h' R) : Hd C N L H h R :=
  hd_pubN (r := rSpan) hbl (xs.map csS) xs hpk hc.eq (csS_ok hr) hlen htop next
theorem hd_pubNI {C : Ctx} {N : Fr} {L : En} {H H' : List HE} {h hb : PH} {R : Act → World → Prop} {k : IntKind} {p : Option Addr} {n c : Nat} {e : TypeId} {ys : List Value} {xs : List Int} (hbl : hb.le h) (hpk : Pick H (row p n c e 1 ys) H') (hys : ys = vI k xs) (hr : ∀ x ∈ xs, inR k x) (hlen : xs.length = n) (htop : n ≤ 9223372036854775807)
    (next : ∀ h', h.le h' → SlR (rInt k) (PH.new hb h') p n c xs → Hd C N L H' h' R) : Hd C N L H h R :=
  hd_pubN (r := rInt k) hbl (elI k xs) xs hpk (by rw [elI_flat]; exact hys) (All2.of_map fun x hx => ⟨rfl, hr x hx⟩) hlen htop next
theorem pvMdN1 {A : Prop} (h : A := by (first | rfl | (simp only [decide_eq_true_eq, decide_eq_false_iff_not]; omega) | fail)) : A := h
theorem nvMdN1 {A : Prop} (h : A := by (first | decide | grind)) : A := h
theorem filter_MeetN {p q : Option Addr} {n c m d : Nat} {a b : List Sp} (h : PH) (ha : SlS h p n c a) (hb : SlS h q m d b) (hn : n ≤ 1000000) : GV.Spec Try.prog 68 #[.slice p n c, .slice q m d] h fun v h' => ∃ p' n' c', v = .slice p' n' c' ∧ SlS (PH.new h h') p' n' c' (meetF a b) := by
  have la := ha.len
  have lb := hb.len
  refine spec_enter (args := [_, _]) Try.func68 rfl Try.ntmps68 rfl (fun w l => ?_)
  repeat' (first | (refine is_pu ?_ (by rfl); first  | fail | refine hd_opAB ?_ | fail) | (refine is_pn ?_; first | refine hd_pn_nil ?_ | fail  | fail | refine hd_pnAB ?_ | fail | (refine hd_pn_op rfl ?_)) | (refine is_co ?_; first | fail  | (apply hd_call; exact aX; infer_instance; exact aE; exact aN; rfl; (focus exact filter_pairs _); (focus (rintro _ h1 hle1 ⟨g1, g2, rfl, q1, q2⟩; skip))) | ((first | apply hd_ok | apply ch_ok); (focus ((first | (apply OK.plain; rfl) | (apply OK.guarded; rfl; rfl; (intro hg; (try have hk := hg.2); (try have hl := hg.2.2); (try have hm := hg.2.2.2)))); (first | (apply od_call; exact aX; infer_instance; exact aE; exact aN; (focus (first | exact span_Meet _ _ _ _ _ | exact span_Covers _ _ _ _ _ | exact span_Has _ _ _ _))) ))); rfl; rfl) | refine hd_storeA ?_ | refine hd_boxA (fun _ => ?_) | refine hd_alloc rfl (fun _ => ?_) | refine hd_makeA (fun _ => ?_) | refine hd_copyA ?_ | refine hd_litA (fun _ => ?_) | refine hd_appendA (fun _ _ => ?_) | refine hd_storeRA ?_) | (refine is_ni ?_; first | (refine is_on ?_; first | refine pn_barA ?_ | refine pn_goA ?_ | refine pt_goA ?_  | refine ts_onA ?_) | refine hd_nil ?_) | (refine is_cw ?_; first | (refine is_rg ?_; first | fail | fail) | (refine is_cd ?_; first | (refine hd_condT (by exact aX) (by exact pvMdN1) ?_) | (refine hd_condF (by exact aX) (by exact pvMdN1) ?_) | (refine hd_cond (by exact aX) (fun _ => ?_) (fun _ => ?_))) | fail | refine wkA ?_) | refine wkA ?_ | fail | exact tsA | fail | (refine ts_step rfl (fun HF h1 hle => ?_)) | fail | fail)
  · rename_i hc
    have hne : n ≠ m := by simp at hc; omega
    ((repeat (refine hd_undefer (by first | exact .inl rfl | exact .inr rfl) (by exact aP) ?_)); apply hd_res0; (focus (first | exact .inl rfl | exact .inr rfl)); rfl; exact aR)
    exact ⟨_, _, _, rfl, by rw [meetF, if_neg (fun e => hne (by omega))]; exact SlR.nil _ _⟩
  rename_i b4 hc b5
  have hmn : m = n := by simp at hc; omega
  subst hmn
  refine hd_nilrow 58 2 ?_
  have ha1 := ha.mono hle1
  have hb1 := hb.mono hle1
  have hit := filter_pairs1 ha1 hb1 q1 q2
  rw [Nat.min_self] at hit
  refine hd_rangeFunc (m := m) (V := pairV a b) (fun k hk Hk => ∃ p' c', h1.le hk ∧ ((a.zip b).take k).all mtb = true ∧ Hk = [row p' k c' 58 2 (vS (((a.zip b).take k).map mtp)), box b5 [.slice p' k c'] 26, box b4 [.slice none 0 0] 26])
    (fun cd hk Hk => cd = .ret ∧ (a.zip b).all mtb = false ∧ Hk = [box b4 [.slice none 0 0] 26])
    (by exact aX) inferInstance rfl hit (by rintro k vs h' ⟨x, y, _, _, rfl⟩; rfl) ⟨none, 0, PH.le_refl _, by simp, by simp [vS]⟩ ?_ ?_ ?_
  · rintro C' l' r k hk Hk vs hkm hle ⟨p', c', hle', hall, rfl⟩ ⟨x, y, hx, hy, rfl⟩
    have hz := zip_at hx hy
    repeat' (first | (refine is_pu ?_ (by rfl); first  | fail | refine hd_opAB ?_ | fail) | (refine is_pn ?_; first | refine hd_pn_nil ?_ | fail  | fail | refine hd_pnAB ?_ | fail | (refine hd_pn_op rfl ?_)) | (refine is_co ?_; first | fail  | (apply hd_call; exact aX; infer_instance; exact aE; exact aN; rfl; (focus exact filter_pairs _); (focus (rintro _ h1 hle1 ⟨g1, g2, rfl, q1, q2⟩; skip))) | ((first | apply hd_ok | apply ch_ok); (focus ((first | (apply OK.plain; rfl) | (apply OK.guarded; rfl; rfl; (intro hg; (try have hk := hg.2); (try have hl := hg.2.2); (try have hm := hg.2.2.2)))); (first | (apply od_call; exact aX; infer_instance; exact aE; exact aN; (focus (first | exact span_Meet _ _ _ _ _ | exact span_Covers _ _ _ _ _ | exact span_Has _ _ _ _))) ))); rfl; rfl) | refine hd_storeA ?_ | refine hd_boxA (fun _ => ?_) | refine hd_alloc rfl (fun _ => ?_) | refine hd_makeA (fun _ => ?_) | refine hd_copyA ?_ | refine hd_litA (fun _ => ?_) | refine hd_appendA (fun _ _ => ?_) | refine hd_storeRA ?_) | (refine is_ni ?_; first | (refine is_on ?_; first | refine pn_barA ?_ | refine pn_goA ?_ | refine pt_goA ?_  | refine ts_onA ?_) | refine hd_nil ?_) | (refine is_cw ?_; first | (refine is_rg ?_; first | fail | fail) | (refine is_cd ?_; first | (refine hd_condT (by exact aX) (by exact pvMdN1) ?_) | (refine hd_condF (by exact aX) (by exact pvMdN1) ?_) | (refine hd_cond (by exact aX) (fun _ => ?_) (fun _ => ?_))) | fail | refine wkA ?_) | refine wkA ?_ | fail | exact tsA | fail | (refine ts_step rfl (fun HF h1 hle => ?_)) | fail | fail)
    · rename_i hd
      refine hd_out_r [box b4 [.slice none 0 0] 26] (fun w hw => inv_only (by exact aS) hw) ⟨rfl, all_not (f := mtb) hz (by simpa [mtb] using hd), rfl⟩
    · rename_i u6 u7 u8 hd u30 p3 c3
      refine hd_next [row p3 (k + 1) c3 58 2 (vS (((a.zip b).take k).map mtp) ++ [.int .i32 (mt1 x.1 x.2 y.1 y.2), .int .i32 (mt2 x.1 x.2 y.1 y.2)]), box b5 [.slice p3 (k + 1) c3] 26, box b4 [.slice none 0 0] 26] (fun w hw => inv_only (by exact aS) hw) ⟨p3, c3, hle', all_step hz hall (by simpa [mtb] using hd), ?_⟩
      rw [take_step hz, List.map_append, List.map_singleton, vS_snoc]; rfl
  · rintro D h' H' hle ⟨p', c', hle', hall, rfl⟩
    rw [List.take_of_length_le (by simp; omega)] at hall
    rw [List.take_of_length_le (by simp; omega)]
    repeat' (first | (refine is_pu ?_ (by rfl); first  | fail | refine hd_opAB ?_ | fail) | (refine is_pn ?_; first | refine hd_pn_nil ?_ | fail  | fail | refine hd_pnAB ?_ | fail | (refine hd_pn_op rfl ?_)) | (refine is_co ?_; first | fail  | (apply hd_call; exact aX; infer_instance; exact aE; exact aN; rfl; (focus exact filter_pairs _); (focus (rintro _ h1 hle1 ⟨g1, g2, rfl, q1, q2⟩; skip))) | ((first | apply hd_ok | apply ch_ok); (focus ((first | (apply OK.plain; rfl) | (apply OK.guarded; rfl; rfl; (intro hg; (try have hk := hg.2); (try have hl := hg.2.2); (try have hm := hg.2.2.2)))); (first | (apply od_call; exact aX; infer_instance; exact aE; exact aN; (focus (first | exact span_Meet _ _ _ _ _ | exact span_Covers _ _ _ _ _ | exact span_Has _ _ _ _))) ))); rfl; rfl) | refine hd_storeA ?_ | refine hd_boxA (fun _ => ?_) | refine hd_alloc rfl (fun _ => ?_) | refine hd_makeA (fun _ => ?_) | refine hd_copyA ?_ | refine hd_litA (fun _ => ?_) | refine hd_appendA (fun _ _ => ?_) | refine hd_storeRA ?_) | (refine is_ni ?_; first | (refine is_on ?_; first | refine pn_barA ?_ | refine pn_goA ?_ | refine pt_goA ?_  | refine ts_onA ?_) | refine hd_nil ?_) | (refine is_cw ?_; first | (refine is_rg ?_; first | fail | fail) | (refine is_cd ?_; first | (refine hd_condT (by exact aX) (by exact pvMdN1) ?_) | (refine hd_condF (by exact aX) (by exact pvMdN1) ?_) | (refine hd_cond (by exact aX) (fun _ => ?_) (fun _ => ?_))) | fail | refine wkA ?_) | refine wkA ?_ | fail | exact tsA | fail | (refine ts_step rfl (fun HF h1 hle => ?_)) | fail | fail)
    refine hd_pubNS (hb := h) (xs := (a.zip b).map mtp) (PH.le_trans hle1 hle) (by exact aP) (C2.of _) (meet_in (SlS_in ha) (SlS_in hb)) (by simp; omega) (by omega) (fun h2 hle2 hsl => ?_)
    ((repeat (refine hd_undefer (by first | exact .inl rfl | exact .inr rfl) (by exact aP) ?_)); apply hd_res0; (focus (first | exact .inl rfl | exact .inr rfl)); rfl; exact aR)
    exact ⟨_, _, _, rfl, by rw [meetF, if_pos ⟨by omega, hall⟩]; exact hsl⟩
  · rintro D cd h' H' hle ⟨rfl, hall, rfl⟩
    repeat' (first | (refine is_pu ?_ (by rfl); first  | fail | refine hd_opAB ?_ | fail) | (refine is_pn ?_; first | refine hd_pn_nil ?_ | fail  | fail | refine hd_pnAB ?_ | fail | (refine hd_pn_op rfl ?_)) | (refine is_co ?_; first | fail  | (apply hd_call; exact aX; infer_instance; exact aE; exact aN; rfl; (focus exact filter_pairs _); (focus (rintro _ h1 hle1 ⟨g1, g2, rfl, q1, q2⟩; skip))) | ((first | apply hd_ok | apply ch_ok); (focus ((first | (apply OK.plain; rfl) | (apply OK.guarded; rfl; rfl; (intro hg; (try have hk := hg.2); (try have hl := hg.2.2); (try have hm := hg.2.2.2)))); (first | (apply od_call; exact aX; infer_instance; exact aE; exact aN; (focus (first | exact span_Meet _ _ _ _ _ | exact span_Covers _ _ _ _ _ | exact span_Has _ _ _ _))) ))); rfl; rfl) | refine hd_storeA ?_ | refine hd_boxA (fun _ => ?_) | refine hd_alloc rfl (fun _ => ?_) | refine hd_makeA (fun _ => ?_) | refine hd_copyA ?_ | refine hd_litA (fun _ => ?_) | refine hd_appendA (fun _ _ => ?_) | refine hd_storeRA ?_) | (refine is_ni ?_; first | (refine is_on ?_; first | refine pn_barA ?_ | refine pn_goA ?_ | refine pt_goA ?_  | refine ts_onA ?_) | refine hd_nil ?_) | (refine is_cw ?_; first | (refine is_rg ?_; first | fail | fail) | (refine is_cd ?_; first | (refine hd_condT (by exact aX) (by exact pvMdN1) ?_) | (refine hd_condF (by exact aX) (by exact pvMdN1) ?_) | (refine hd_cond (by exact aX) (fun _ => ?_) (fun _ => ?_))) | fail | refine wkA ?_) | refine wkA ?_ | fail | exact tsA | fail | (refine ts_step rfl (fun HF h1 hle => ?_)) | fail | fail)
    ((repeat (refine hd_undefer (by first | exact .inl rfl | exact .inr rfl) (by exact aP) ?_)); apply hd_res0; (focus (first | exact .inl rfl | exact .inr rfl)); rfl; exact aR)
    exact ⟨_, _, _, rfl, by rw [meetF, if_neg (fun e => by rw [e.2] at hall; cases hall)]; exact SlR.nil _ _⟩
theorem filter_NormalN {p q : Option Addr} {n c m d : Nat} {s f : List Sp} (h : PH) (hs : SlS h p n c s) (hf : SlS h q m d f) (hn : n ≤ 1000000) : GV.Spec Try.prog 59 #[.slice p n c, .slice q m d] h fun v h' => ∃ p' n' c', v = .tuple #[.slice p' n' c', .int .i64 (normE s f)] ∧ SlS (PH.new h h') p' n' c' (normF s f) := by
  have ls := hs.len
  have lf := hf.len
  refine spec_enter (args := [_, _]) Try.func59 rfl Try.ntmps59 rfl (fun w l => ?_)
  repeat' (first | (refine is_pu ?_ (by rfl); first  | fail | refine hd_opAB ?_ | fail) | (refine is_pn ?_; first | refine hd_pn_nil ?_ | fail  | fail | refine hd_pnAB ?_ | fail | (refine hd_pn_op rfl ?_)) | (refine is_co ?_; first | fail  | (apply hd_call; exact aX; infer_instance; exact aE; exact aN; rfl; (focus exact filter_MeetN _ (by assumption) (by assumption) (by omega)); (focus (rintro _ h1 hle1 ⟨p1, n1, c1, rfl, hsl⟩; skip))) | ((first | apply hd_ok | apply ch_ok); (focus ((first | (apply OK.plain; rfl) | (apply OK.guarded; rfl; rfl; (intro hg; (try have hk := hg.2); (try have hl := hg.2.2); (try have hm := hg.2.2.2)))); (first | (apply od_call; exact aX; infer_instance; exact aE; exact aN; (focus (first | fail))) ))); rfl; rfl) | refine hd_storeA ?_ | refine hd_boxA (fun _ => ?_) | refine hd_alloc rfl (fun _ => ?_) | refine hd_makeA (fun _ => ?_) | refine hd_copyA ?_ | refine hd_litA (fun _ => ?_) | refine hd_appendA (fun _ _ => ?_) | refine hd_storeRA ?_) | (refine is_ni ?_; first | (refine is_on ?_; first | refine pn_barA ?_ | refine pn_goA ?_ | refine pt_goA ?_  | refine ts_onA ?_) | refine hd_nil ?_) | (refine is_cw ?_; first | (refine is_rg ?_; first | fail | fail) | (refine is_cd ?_; first | (refine hd_condT (by exact aX) (by exact pvMdN1) ?_) | (refine hd_condF (by exact aX) (by exact pvMdN1) ?_) | (refine hd_cond (by exact aX) (fun _ => ?_) (fun _ => ?_))) | fail | refine wkA ?_) | refine wkA ?_ | fail | exact tsA | fail | (refine ts_step rfl (fun HF h1 hle => ?_)) | fail | fail)
  · rename_i hc
    simp at hc
    ((repeat (refine hd_undefer (by first | exact .inl rfl | exact .inr rfl) (by exact aP) ?_)); apply hd_res0; (focus (first | exact .inl rfl | exact .inr rfl)); rfl; exact aR)
    have hz : f.length = 0 := by omega
    exact ⟨none, 0, 0, by rw [normE, if_pos hz]; rfl, by rw [normF, if_pos hz]; exact SlR.nil _ _⟩
  · rename_i hc0 hc
    simp at hc hc0
    ((repeat (refine hd_undefer (by first | exact .inl rfl | exact .inr rfl) (by exact aP) ?_)); apply hd_res0; (focus (first | exact .inl rfl | exact .inr rfl)); rfl; exact aR)
    have hz : ¬ f.length = 0 := by omega
    have hz2 : f.length ≠ s.length := by omega
    exact ⟨none, 0, 0, by rw [normE, if_neg hz, if_pos hz2]; rfl, by rw [normF, if_neg hz, if_pos hz2]; exact SlR.nil _ _⟩
  · rename_i hc0 hc
    simp at hc hc0
    ((repeat (refine hd_undefer (by first | exact .inl rfl | exact .inr rfl) (by exact aP) ?_)); apply hd_res0; (focus (first | exact .inl rfl | exact .inr rfl)); rfl; exact aR)
    have hz : ¬ f.length = 0 := by omega
    have hz2 : ¬ f.length ≠ s.length := by omega
    exact ⟨_, _, _, by rw [normE, if_neg hz, if_neg hz2]; rfl, by rw [normF, if_neg hz, if_neg hz2]; exact hsl⟩
end Go.Proofs.Ytogepedlalfpjaa
