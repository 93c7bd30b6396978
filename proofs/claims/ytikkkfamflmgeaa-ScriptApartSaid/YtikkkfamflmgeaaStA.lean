/- The chapter's examples hold; what readable arguments are. -/
import Derived.Test.YtikkkfamflmgeaaStQ
import Derived.Test.YtikkkfamflmgeaaStB
namespace Go.GV
open Go
theorem SpecM.turnN {P : Program} {h : PH} {f : FuncId} {args : Array Value} {Hi : List HE} {A B : Value → PH → List HE → Prop} (s : SpecM P f args h Hi A) (ab : ∀ C v h' Ho w, C.h0 = h → A v h' Ho → Inv C Ho h' w → ∃ h2 H2, B v h2 H2 ∧ Inv C H2 h2 w) : SpecM P f args h Hi B := fun w l hl hs =>
  (s w l hl hs).mono fun e w' ⟨v, h', Ho, he, ha, hi⟩ => by
    obtain ⟨h2, H2, hb, hi2⟩ := ab _ v h' Ho w' rfl ha hi
    exact ⟨v, h2, H2, he, hb, hi2⟩
end Go.GV
namespace Go.Proofs.Ytikkkfamflmgeaa
open Go Go.GV
attribute [local irreducible] cw Go.GV.SpecM Go.GV.wpList Exit.then Exit.inBlock Go.GV.bodyPost wpPl wpPm wpPn TS rnd rPost YieldsB wpPT ptK
set_option maxRecDepth 10000
set_option maxHeartbeats 8000000
set_option linter.unusedVariables false
set_option linter.unusedSimpArgs false
theorem bytesOf_b8 {xs : List SD} (h : ∀ x ∈ xs, SdR x) : B8 (bytesOf xs).1 := by
  unfold bytesOf
  split
  · exact wrs_b8 h
  · exact B8.nil
theorem script_BytesP {p : Option Addr} {n c : Nat} {xs : List SD} (h : PH) (hx : SlT h p n c xs) (hn : n ≤ 1000) : GV.Spec Try.prog 12 #[.slice p n c] h fun v h' => ∃ p' m c', v = .tuple #[.slice p' m c', .int .i64 (bytesOf xs).2] ∧ Bs h' p' m c' (bytesOf xs).1 ∧ m ≤ 200 * n := by
  refine SpecM.turn (script_Bytes h hx hn) ?_
  rintro C v h' Ho w ⟨p', c', rfl, rfl, hl⟩ hi
  obtain ⟨h2, _, hb, hi2⟩ := Inv.pub8 hi rfl (bytesOf_b8 (SlT_in hx)) (by omega)
  exact ⟨h2, [], ⟨⟨p', _, c', rfl, hb, hl⟩, rfl⟩, hi2⟩
theorem parse_len (bs : List Int) : (parse bs).1.length ≤ bs.length := by
  have key : ∀ (ys : List (SD × Int)) (acc : List SD), (fin acc ys).1.length ≤ acc.length + ys.length := by
    intro ys
    induction ys with
    | nil => intro acc; simp [fin]
    | cons y ys ih =>
      intro acc
      obtain ⟨x, e⟩ := y
      simp only [fin]
      split
      · have := ih (acc ++ [x]); simp at this ⊢; omega
      · simp
  have h1 := key (ylds bs.length bs) []
  have h2 := ylds_len bs.length bs
  unfold parse
  simp at h1; omega
theorem script_ParseP {p : Option Addr} {n c : Nat} {bs : List Int} (h : PH) (hs : Bs h p n c bs) (hn : n ≤ 60000) : GV.Spec Try.prog 14 #[.slice p n c] h fun v h' => ∃ p' m c', v = .tuple #[.slice p' m c', .int .i64 (parse bs).2] ∧ SlT h' p' m c' (parse bs).1 ∧ m ≤ n := by
  refine SpecM.turn (script_Parse h hs hn) ?_
  rintro C v h' Ho w ⟨p', c', css, D, rfl, rfl, hown⟩ hi
  have hl := hs.len
  have hpl := parse_len bs
  have h1 : GV.Inv C (D.reverse ++ [row p' (parse bs).1.length c' 28 10 css.flatten]) h' w := by
    refine Inv.perm ?_ hi
    exact (List.perm_append_comm (l₁ := [_])).trans (List.Perm.append_right _ (List.reverse_perm D).symm)
  obtain ⟨h2, hl2, ha2, hi2⟩ := OwnS.pub (OwnS.mono (PH.new_le _ _) hown) h1
  obtain ⟨h3, hl3, hs3, hi3⟩ := Inv.pubR (r := rStep) hi2 ha2 rfl (by omega)
  exact ⟨h3, [], ⟨⟨p', _, c', rfl, hs3, by omega⟩, rfl⟩, hi3⟩
theorem Inv.pubNR {α : Type} {r : Rp α} {C : Ctx} {H : List HE} {h hb : PH} {w : World} {p : Option Addr} {n c : Nat} {e : TypeId} {css : List (List Value)} {xs : List α} (hbl : hb.le h) (hw : GV.Inv C (row p n c e r.sz css.flatten :: H) h w) (hok : All2 (r.ok (PH.new hb h)) css xs) (hlen : xs.length = n) (htop : n ≤ 9223372036854775807) : ∃ h', h.le h' ∧ SlR r (PH.new hb h') p n c xs ∧ GV.Inv C H h' w := by
  have heach : ∀ x ∈ css, x.length = r.sz := by
    intro x hx
    have : ∀ {l1 : List (List Value)} {l2 : List α}, All2 (r.ok (PH.new hb h)) l1 l2 → ∀ x ∈ l1, x.length = r.sz := by
      intro l1
      induction l1 with
      | nil => intro l2 _ x hx; cases hx
      | cons a l1 ih =>
        intro l2 hh x hx
        cases l2 with
        | nil => exact hh.elim
        | cons b l2 =>
          rcases List.mem_cons.1 hx with rfl | hx
          · exact r.len hh.1
          · exact ih hh.2 x hx
    exact this hok x hx
  obtain ⟨h', hl, hsl, hi⟩ := hw.publishN hbl (by rw [hok.length, hlen]) heach htop
  exact ⟨h', hl, ⟨css, hsl, hok.mono fun _ _ => r.mono (PH.new_mono hl)⟩, hi⟩
theorem Inv.pub8N {C : Ctx} {H : List HE} {h hb : PH} {w : World} {p : Option Addr} {n c : Nat} {bs : List Int} (hbl : hb.le h) (hw : GV.Inv C (row8 p n c bs :: H) h w) (hn : n = bs.length) (hb8 : B8 bs) (htop : n ≤ 9223372036854775807) : ∃ h', h.le h' ∧ Bs (PH.new hb h') p n c bs ∧ GV.Inv C H h' w := by
  refine Inv.pubNR (r := rInt .u8) (css := elI .u8 bs) (e := 5) hbl ?_ (All2.of_map fun x hx => ⟨rfl, hb8 x hx⟩) hn.symm htop
  rw [elI_flat]; exact hw
/-- All data are handed out as new memory. -/
theorem OwnS.pubN {C : Ctx} {H : List HE} {w : World} {hb : PH} : ∀ {css : List (List Value)} {xs : List SD} {D : List HE} {h : PH}, hb.le h → OwnS (PH.new hb h) css xs D → GV.Inv C (D ++ H) h w → ∃ h', h.le h' ∧ All2 (rStep.ok (PH.new hb h')) css xs ∧ GV.Inv C H h' w
  | [], [], [], h, _, _, hw => ⟨h, PH.le_refl _, trivial, hw⟩
  | cs :: css, x :: xs, d :: D, h, hbl, h2, hw => by
    obtain ⟨pf, nf, cf, pv, nv, cv, pd, cd, rfl, a2, a3, a4, a5, rfl⟩ := h2.1
    obtain ⟨h3, hl3, hb3, hi3⟩ := Inv.pub8N (p := pd) (H := D ++ H) hbl hw rfl a2.data (by omega)
    obtain ⟨h4, hl4, ha4, hi4⟩ := OwnS.pubN (PH.le_trans hbl hl3) (OwnS.mono (PH.new_mono hl3) h2.2) hi3
    exact ⟨h4, PH.le_trans hl3 hl4, ⟨rStep_mk a2 (a3.mono (PH.new_mono (PH.le_trans hl3 hl4))) (a4.mono (PH.new_mono (PH.le_trans hl3 hl4))) (hb3.mono (PH.new_mono hl4)), ha4⟩, hi4⟩
  | [], [], _ :: _, _, _, h2, _ => h2.elim
  | [], _ :: _, _, _, _, h2, _ => h2.elim
  | _ :: _, [], _, _, _, h2, _ => h2.elim
  | _ :: _, _ :: _, [], _, _, h2, _ => h2.elim
theorem script_ParseN {p : Option Addr} {n c : Nat} {bs : List Int} {l : List SD} {e : Int} (h : PH) (hs : Bs h p n c bs) (hn : n ≤ 60000) (he : parse bs = (l, e)) : GV.Spec Try.prog 14 #[.slice p n c] h fun v h' => ∃ p' m c', v = .tuple #[.slice p' m c', .int .i64 e] ∧ SlT (PH.new h h') p' m c' l := by
  refine SpecM.turnN (script_Parse h hs hn) ?_
  rintro C v h' Ho w hC ⟨p', c', css, D, rfl, rfl, hown⟩ hi
  have hl := hs.len
  have hpl := parse_len bs
  rw [he] at hown hpl hi ⊢
  have hle : h.le h' := by have := hi.le0; rwa [hC] at this
  have h1 : GV.Inv C (D.reverse ++ [row p' l.length c' 28 10 css.flatten]) h' w := by
    refine Inv.perm ?_ hi
    exact (List.perm_append_comm (l₁ := [_])).trans (List.Perm.append_right _ (List.reverse_perm D).symm)
  obtain ⟨h2, hl2, ha2, hi2⟩ := OwnS.pubN hle hown h1
  obtain ⟨h3, hl3, hs3, hi3⟩ := Inv.pubNR (r := rStep) (PH.le_trans hle hl2) hi2 ha2 rfl (by simp only at hpl; omega)
  exact ⟨h3, [], ⟨⟨p', _, c', rfl, hs3⟩, rfl⟩, hi3⟩
theorem script_BytesN {p : Option Addr} {n c : Nat} {xs : List SD} (h : PH) (hx : SlT h p n c xs) (hn : n ≤ 1000) (hk : xs.all stepOk = true) : GV.Spec Try.prog 12 #[.slice p n c] h fun v h' => ∃ p' m c', v = .tuple #[.slice p' m c', .int .i64 0] ∧ Bs (PH.new h h') p' m c' (wrs xs) ∧ m ≤ 200 * n := by
  have e1 : bytesOf xs = (wrs xs, 0) := by unfold bytesOf; rw [if_pos hk]
  refine SpecM.turnN (script_Bytes h hx hn) ?_
  rintro C v h' Ho w hC ⟨p', c', rfl, rfl, hl⟩ hi
  have hle : h.le h' := by have := hi.le0; rwa [hC] at this
  rw [e1] at hl hi ⊢
  obtain ⟨h2, _, hb, hi2⟩ := Inv.pub8N hle hi rfl (wrs_b8 (SlT_in hx)) (show (wrs xs).length ≤ 9223372036854775807 by have h5 : (wrs xs).length ≤ 200 * n := hl; omega)
  exact ⟨h2, [], ⟨⟨p', _, c', rfl, hb, hl⟩, rfl⟩, hi2⟩
def isB (x : SD) (want : List Int) : Bool := decide ((bytesOf [x]).2 = 0) && decide ((bytesOf [x]).1 = want)
def failB (e : Int) (b : List Int) : Bool := decide ((parse b).2 = e) && decide ((parse b).1 = [])

theorem law_is {v : Value} {x : SD} {pw : Option Addr} {nw cw : Nat} {ws : List Int} (h : PH) (hv : VSt h v x) (hw : Bs h pw nw cw ws) : Det Try.prog 23 #[v, .slice pw nw cw] h (.bool (isB x ws)) := by
  obtain ⟨p, n, c, q, m, d, r, k, e, rfl, hx, h7, h8, h9⟩ := hv
  refine spec_enter (args := [_, _]) Try.func23 rfl Try.ntmps23 rfl (fun w l => ?_)
  repeat' (first | (refine is_pu ?_ (by rfl); first  | fail | refine hd_opAB ?_ | fail) | (refine is_pn ?_; first | refine hd_pn_nil ?_ | fail  | fail | refine hd_pnAB ?_ | fail | (refine hd_pn_op rfl ?_)) | (refine is_co ?_; first | fail  | ((first | apply hd_ok | apply ch_ok); (focus ((first | (apply OK.plain; rfl) | (apply OK.guarded; rfl; rfl; (intro hg; (try have hk := hg.2); (try have hl := hg.2.2); (try have hm := hg.2.2.2)))); (first | (apply od_call; exact aX; infer_instance; exact aE; exact aN; (focus (first | exact law_Same _ (by (first | assumption | exact SlR.nil _ _ | exact SlR.mono (by assumption) (by exact aL))) (by (first | assumption | exact SlR.nil _ _ | exact SlR.mono (by assumption) (by exact aL)))))) ))); rfl; rfl) | refine hd_storeA ?_ | refine hd_boxA (fun _ => ?_) | refine hd_alloc rfl (fun _ => ?_) | (refine is_vcall ?_; apply hd_pubR (r := rStep) [[.int .u8 x.kind, .int .u8 x.node, .int .u8 x.other, .int .i64 x.at_, .int .i64 x.to_, .int .i64 x.from_, .int .u32 x.turns, .slice p n c, .slice q m d, .slice r k e]] [x]; exact aP; rfl; (focus exact ⟨rStep_mk hx h7 h8 h9, trivial⟩); rfl; (focus decide); (refine fun h1 hle1 hsl => ?_)) | refine hd_makeA (fun _ => ?_) | refine hd_copyA ?_ | refine hd_litA (fun _ => ?_) | refine hd_appendA (fun _ _ => ?_) | (apply hd_call; exact aX; infer_instance; exact aE; exact aN; rfl; (focus exact script_BytesP _ (by (first | assumption | exact SlR.nil _ _ | exact SlR.mono (by assumption) (by exact aL))) (by omega)); (focus (rintro _ h1 hle1 ⟨p1, m1, c1, rfl, hb1, hm1⟩; skip)))) | (refine is_ni ?_; first | (refine is_on ?_; first  | refine pn_barA ?_ | refine pn_goA ?_ | refine pt_goA ?_  | refine ts_onA ?_) | refine hd_nil ?_) | (refine is_cw ?_; first | (refine is_rg ?_; first | fail | fail | refine hd_draw follows_any (by decide +kernel) ?_) | (refine is_cd ?_; first | (refine hd_cond (by exact aX) (fun _ => ?_) (fun _ => ?_))) | fail | refine wkA ?_) | refine wkA ?_ | (refine is_ch ?_; refine ch_opAB ?_) | ((first | apply hd_ok | apply ch_ok); (focus ((first | (apply OK.plain; rfl) | (apply OK.guarded; rfl; rfl; (intro hg; (try have hk := hg.2); (try have hl := hg.2.2); (try have hm := hg.2.2.2)))); (first | (apply od_call; exact aX; infer_instance; exact aE; exact aN; (focus (first | exact law_Same _ (by (first | assumption | exact SlR.nil _ _ | exact SlR.mono (by assumption) (by exact aL))) (by (first | assumption | exact SlR.nil _ _ | exact SlR.mono (by assumption) (by exact aL)))))) ))); rfl; rfl) | fail | fail | exact tsA | fail | (refine ts_step rfl (fun HF h1 hle => ?_)) | fail | fail)
  all_goals ((repeat (refine hd_undefer (by first | exact .inl rfl | exact .inr rfl) (by exact aP) ?_)); apply hd_res0; (focus (first | exact .inl rfl | exact .inr rfl)); rfl; exact aR)
  all_goals exact ret_bool (by simp only [isB]; rw [Bool.eq_iff_iff]; simp)
theorem law_fails {pw : Option Addr} {nw cw : Nat} {ws : List Int} (want : Int) (h : PH) (hw : Bs h pw nw cw ws) (hn : nw ≤ 1000) : Det Try.prog 24 #[.int .i64 want, .slice pw nw cw] h (.bool (failB want ws)) := by
  refine spec_enter (args := [_, _]) Try.func24 rfl Try.ntmps24 rfl (fun w l => ?_)
  repeat' (first | (refine is_pu ?_ (by rfl); first  | fail | refine hd_opAB ?_ | fail) | (refine is_pn ?_; first | refine hd_pn_nil ?_ | fail  | fail | refine hd_pnAB ?_ | fail | (refine hd_pn_op rfl ?_)) | (refine is_co ?_; first | fail  | ((first | apply hd_ok | apply ch_ok); (focus ((first | (apply OK.plain; rfl) | (apply OK.guarded; rfl; rfl; (intro hg; (try have hk := hg.2); (try have hl := hg.2.2); (try have hm := hg.2.2.2)))); (first | (apply od_call; exact aX; infer_instance; exact aE; exact aN; (focus (first | exact law_Same _ (by (first | assumption | exact SlR.nil _ _ | exact SlR.mono (by assumption) (by exact aL))) (by (first | assumption | exact SlR.nil _ _ | exact SlR.mono (by assumption) (by exact aL)))))) ))); rfl; rfl) | refine hd_storeA ?_ | refine hd_boxA (fun _ => ?_) | refine hd_alloc rfl (fun _ => ?_) | refine hd_makeA (fun _ => ?_) | refine hd_copyA ?_ | refine hd_litA (fun _ => ?_) | refine hd_appendA (fun _ _ => ?_) | (apply hd_call; exact aX; infer_instance; exact aE; exact aN; rfl; (focus exact script_ParseP _ (by (first | assumption | exact SlR.nil _ _ | exact SlR.mono (by assumption) (by exact aL))) (by omega)); (focus (rintro _ h1 hle1 ⟨p1, m1, c1, rfl, hb1, hm1⟩; skip)))) | (refine is_ni ?_; first | (refine is_on ?_; first  | refine pn_barA ?_ | refine pn_goA ?_ | refine pt_goA ?_  | refine ts_onA ?_) | refine hd_nil ?_) | (refine is_cw ?_; first | (refine is_rg ?_; first | fail | fail | refine hd_draw follows_any (by decide +kernel) ?_) | (refine is_cd ?_; first | (refine hd_cond (by exact aX) (fun _ => ?_) (fun _ => ?_))) | fail | refine wkA ?_) | refine wkA ?_ | (refine is_ch ?_; refine ch_opAB ?_) | ((first | apply hd_ok | apply ch_ok); (focus ((first | (apply OK.plain; rfl) | (apply OK.guarded; rfl; rfl; (intro hg; (try have hk := hg.2); (try have hl := hg.2.2); (try have hm := hg.2.2.2)))); (first | (apply od_call; exact aX; infer_instance; exact aE; exact aN; (focus (first | exact law_Same _ (by (first | assumption | exact SlR.nil _ _ | exact SlR.mono (by assumption) (by exact aL))) (by (first | assumption | exact SlR.nil _ _ | exact SlR.mono (by assumption) (by exact aL)))))) ))); rfl; rfl) | fail | fail | exact tsA | fail | (refine ts_step rfl (fun HF h1 hle => ?_)) | fail | fail)
  have hl := hb1.len
  all_goals ((repeat (refine hd_undefer (by first | exact .inl rfl | exact .inr rfl) (by exact aP) ?_)); apply hd_res0; (focus (first | exact .inl rfl | exact .inr rfl)); rfl; exact aR)
  all_goals exact ret_bool (by simp only [failB]; rw [Bool.eq_iff_iff]; simp; intro _; rw [← hl]; simp)


def X1 : SD := ⟨1, 3, 0, 0, 0, 0, 0, [], [], []⟩
def X2 : SD := ⟨6, 0, 0, 1, 0, 0, 0, [], [], []⟩
def X3 : SD := ⟨9, 0, 0, 0, 0, 0, 0, [], [-1], [104]⟩
def X4 : SD := ⟨1, 0, 0, 1, 0, 0, 0, [], [], []⟩
theorem sdr1 : SdR X1 := by refine ⟨?_, ?_, ?_, ?_, ?_, ?_, ?_, ?_, ?_, ?_⟩ <;> simp [X1, inR, B8]
theorem sdr2 : SdR X2 := by refine ⟨?_, ?_, ?_, ?_, ?_, ?_, ?_, ?_, ?_, ?_⟩ <;> simp [X2, inR, B8]
theorem sdr3 : SdR X3 := by refine ⟨?_, ?_, ?_, ?_, ?_, ?_, ?_, ?_, ?_, ?_⟩ <;> simp [X3, inR, B8]
theorem sdr4 : SdR X4 := by refine ⟨?_, ?_, ?_, ?_, ?_, ?_, ?_, ?_, ?_, ?_⟩ <;> simp [X4, inR, B8]
theorem aw1 : isB X1 [1, 3] = true := by decide +kernel
theorem aw2 : isB X2 [6, 0, 1, 0, 0] = true := by decide +kernel
theorem aw3 : isB X3 [9, 0, 1, 127, 255, 255, 255, 0, 1, 104] = true := by decide +kernel
theorem aw4 : failB 10 [1, 3, 2, 0] = true := by decide +kernel
theorem aw5 : failB 280 [1, 12] = true := by decide +kernel
theorem aw6 : failB 10 [14, 0] = true := by decide +kernel
theorem aw7 : failB 0 [] = true := by decide +kernel
theorem aw8 : (bytesOf [X4]).2 = 280 := by decide +kernel
theorem awake_det (h : PH) : Det Try.prog 10 #[] h (.bool true) := by
  refine spec_enter (args := []) Try.func10 rfl Try.ntmps10 rfl (fun w l => ?_)
  repeat' (first | (refine is_pu ?_ (by rfl); first  | (apply hd_gon; rfl; rfl; (focus (constructor; (focus (first | rfl | exact aw1 | exact aw2 | exact aw3 | exact aw4 | exact aw5 | exact aw6 | exact aw7 | (rw [aw8]; rfl) | fail)); trivial))) | fail | refine hd_opTB ?_ | ((first | apply hd_ok | apply ch_ok | (apply hd_pn_run; rfl; exact aM)); (focus ((first | (apply OK.plain; rfl; apply OD.of) | (apply OKp.plain; rfl)); (first | (apply od_pickX; exact aX; (focus (first | rfl | exact aw1 | exact aw2 | exact aw3 | exact aw4 | exact aw5 | exact aw6 | exact aw7 | (rw [aw8]; rfl) | fail)); exact aX) | (apply od_pickY; exact aX; (focus (first | rfl | exact aw1 | exact aw2 | exact aw3 | exact aw4 | exact aw5 | exact aw6 | exact aw7 | (rw [aw8]; rfl) | fail)); exact aX)))); rfl; rfl)) | (refine is_pn ?_; first | refine hd_pn_nil ?_ | fail  | fail | refine hd_pnTB ?_ | ((first | apply hd_ok | apply ch_ok | (apply hd_pn_run; rfl; exact aM)); (focus ((first | (apply OK.plain; rfl; apply OD.of) | (apply OKp.plain; rfl)); (first | (apply od_pickX; exact aX; (focus (first | rfl | exact aw1 | exact aw2 | exact aw3 | exact aw4 | exact aw5 | exact aw6 | exact aw7 | (rw [aw8]; rfl) | fail)); exact aX) | (apply od_pickY; exact aX; (focus (first | rfl | exact aw1 | exact aw2 | exact aw3 | exact aw4 | exact aw5 | exact aw6 | exact aw7 | (rw [aw8]; rfl) | fail)); exact aX)))); rfl; rfl) | (refine hd_pn_op rfl ?_)) | (refine is_co ?_; first | fail  | (apply hd_gon; rfl; rfl; (focus (constructor; (focus (first | rfl | exact aw1 | exact aw2 | exact aw3 | exact aw4 | exact aw5 | exact aw6 | exact aw7 | (rw [aw8]; rfl) | fail)); trivial))) | (refine is_vcall ?_; apply hd_pubR (r := rStep) [[.int .u8 1, .int .u8 0, .int .u8 0, .int .i64 1, .int .i64 0, .int .i64 0, .int .u32 0, .slice none 0 0, .slice none 0 0, .slice none 0 0]] [X4]; exact aP; rfl; (focus exact ⟨rStep_mk sdr4 (SlR.nil _ _) (SlR.nil _ _) (SlR.nil _ _), trivial⟩); rfl; (focus decide); (refine fun h1 hle1 hsl => ?_)) | (refine is_vcall ?_; apply hd_pubL; exact aP; exact aCI; (focus (simp only [List.forall_mem_cons]; simp [inR]; first | done | fail)); rfl; (focus decide); (refine fun h1 hle1 hsl => ?_)) | (apply hd_bconst; exact aX; exact aP; (focus exact C8.eq (by exact aC8)); rfl; (focus decide); rfl; (focus (refine fun h1 hle1 hsl0 => ?_; have hsl := slI_iff.2 ⟨hsl0, (by simp only [List.forall_mem_cons]; simp [inR])⟩))) | (apply hd_call; exact aX; infer_instance; exact aE; exact aN; rfl; (focus exact script_BytesP _ (by (first | assumption | exact SlR.nil _ _ | exact SlR.mono (by assumption) (by exact aL))) (by omega)); (focus (rintro _ h1 hle1 ⟨p1, m1, c1, rfl, hb1, hm1⟩; skip))) | ((first | apply hd_ok | apply ch_ok); (focus ((first | (apply OK.plain; rfl)  ); (first | (apply od_call; exact aX; infer_instance; exact aE; exact aN; (focus (first | exact law_is _ (VSt.of (x := X1) sdr1 (SlR.nil _ _) (SlR.nil _ _) (SlR.nil _ _)) (by (first | assumption | exact SlR.nil _ _ | exact SlR.mono (by assumption) (by exact aL))) | exact law_is _ (VSt.of (x := X2) sdr2 (SlR.nil _ _) (SlR.nil _ _) (SlR.nil _ _)) (by (first | assumption | exact SlR.nil _ _ | exact SlR.mono (by assumption) (by exact aL))) | exact law_is _ (VSt.of (x := X3) sdr3 (SlR.nil _ _) (by (first | assumption | exact SlR.nil _ _ | exact SlR.mono (by assumption) (by exact aL))) (by (first | assumption | exact SlR.nil _ _ | exact SlR.mono (by assumption) (by exact aL)))) (by (first | assumption | exact SlR.nil _ _ | exact SlR.mono (by assumption) (by exact aL))) | exact law_fails _ _ (by (first | assumption | exact SlR.nil _ _ | exact SlR.mono (by assumption) (by exact aL))) (by omega)))) ))); rfl; rfl) | refine hd_storeA ?_ | refine hd_boxA (fun _ => ?_) | refine hd_alloc rfl (fun _ => ?_) | refine hd_makeA (fun _ => ?_) | refine hd_copyA ?_ | refine hd_litA (fun _ => ?_) | refine hd_appendA (fun _ _ => ?_)) | (refine is_ni ?_; first | (refine is_on ?_; first  | refine pn_barA ?_ | refine pn_goA ?_ | refine pt_goA ?_  | refine ts_onA ?_) | refine hd_nil ?_) | (refine is_cw ?_; first | (refine is_rg ?_; first | fail | fail | refine hd_draw follows_any (by decide +kernel) ?_) | (refine is_cd ?_; first | (refine hd_condT (by exact aX) (by (first | rfl | exact aw1 | exact aw2 | exact aw3 | exact aw4 | exact aw5 | exact aw6 | exact aw7 | (rw [aw8]; rfl) | fail)) ?_) | (refine hd_condF (by exact aX) (by (first | rfl | exact aw1 | exact aw2 | exact aw3 | exact aw4 | exact aw5 | exact aw6 | exact aw7 | (rw [aw8]; rfl) | fail)) ?_) | (refine hd_cond (by exact aX) (fun _ => ?_) (fun _ => ?_))) | fail | refine wkA ?_) | refine wkA ?_ | (refine is_ch ?_; refine ch_opTB ?_) | ((first | apply hd_ok | apply ch_ok); (focus ((first | (apply OK.plain; rfl)  ); (first | (apply od_call; exact aX; infer_instance; exact aE; exact aN; (focus (first | exact law_is _ (VSt.of (x := X1) sdr1 (SlR.nil _ _) (SlR.nil _ _) (SlR.nil _ _)) (by (first | assumption | exact SlR.nil _ _ | exact SlR.mono (by assumption) (by exact aL))) | exact law_is _ (VSt.of (x := X2) sdr2 (SlR.nil _ _) (SlR.nil _ _) (SlR.nil _ _)) (by (first | assumption | exact SlR.nil _ _ | exact SlR.mono (by assumption) (by exact aL))) | exact law_is _ (VSt.of (x := X3) sdr3 (SlR.nil _ _) (by (first | assumption | exact SlR.nil _ _ | exact SlR.mono (by assumption) (by exact aL))) (by (first | assumption | exact SlR.nil _ _ | exact SlR.mono (by assumption) (by exact aL)))) (by (first | assumption | exact SlR.nil _ _ | exact SlR.mono (by assumption) (by exact aL))) | exact law_fails _ _ (by (first | assumption | exact SlR.nil _ _ | exact SlR.mono (by assumption) (by exact aL))) (by omega)))) ))); rfl; rfl) | ((first | apply hd_ok | apply ch_ok | (apply hd_pn_run; rfl; exact aM)); (focus ((first | (apply OK.plain; rfl; apply OD.of) | (apply OKp.plain; rfl)); (first | (apply od_pickX; exact aX; (focus (first | rfl | exact aw1 | exact aw2 | exact aw3 | exact aw4 | exact aw5 | exact aw6 | exact aw7 | (rw [aw8]; rfl) | fail)); exact aX) | (apply od_pickY; exact aX; (focus (first | rfl | exact aw1 | exact aw2 | exact aw3 | exact aw4 | exact aw5 | exact aw6 | exact aw7 | (rw [aw8]; rfl) | fail)); exact aX)))); rfl; rfl) | fail | exact tsA | fail | (refine ts_step rfl (fun HF h1 hle => ?_)) | fail | fail)
  all_goals ((repeat (refine hd_undefer (by first | exact .inl rfl | exact .inr rfl) (by exact aP) ?_)); apply hd_res0; (focus (first | exact .inl rfl | exact .inr rfl)); rfl; exact aR)
  all_goals exact ret_bool (by (first | rfl | exact aw1 | exact aw2 | exact aw3 | exact aw4 | exact aw5 | exact aw6 | exact aw7 | (rw [aw8]; rfl) | fail))
section
variable {X : Type} {enc : TypeId × Value → X} {W : World} {v : Value} {d : DataW X} {q : List MemPlace} {r : Reach} {b : Nat}
theorem rdok_step : RdOK enc Try.prog W rStep 28 := fun cs hh => by
  obtain ⟨a0, h0⟩ := rdok_seg (f := 0) (rdok_int (t := 5)) hh
  obtain ⟨a1, h1⟩ := rdok_seg (f := 1) (rdok_int (t := 5)) hh
  obtain ⟨a2, h2⟩ := rdok_seg (f := 2) (rdok_int (t := 5)) hh
  obtain ⟨a3, h3⟩ := rdok_seg (f := 3) (rdok_int (t := 3)) hh
  obtain ⟨a4, h4⟩ := rdok_seg (f := 4) (rdok_int (t := 3)) hh
  obtain ⟨a5, h5⟩ := rdok_seg (f := 5) (rdok_int (t := 3)) hh
  obtain ⟨a6, h6⟩ := rdok_seg (f := 6) (rdok_int (t := 22)) hh
  obtain ⟨a7, h7⟩ := rdok_seg (f := 7) (rdok_slice (t := 24) (by decide) rfl rdok_span) hh
  obtain ⟨a8, h8⟩ := rdok_seg (f := 8) (rdok_slice (t := 25) (by decide) rfl (rdok_int (k := .i32))) hh
  obtain ⟨a9, h9⟩ := rdok_seg (f := 9) (rdok_slice (t := 26) (by decide) rfl (rdok_int (k := .u8))) hh
  have := seg_pair h0 (seg_pair h1 (seg_pair h2 (seg_pair h3 (seg_pair h4 (seg_pair h5 (seg_pair h6 (seg_pair h7 (seg_pair h8 h9))))))))
  rw [seg_all (GV.rd_len hh)] at this
  exact ⟨⟨a0, a1, a2, a3, a4, a5, a6, a7, a8, a9⟩, this⟩
theorem ok_step (hv : Value.okWide Try.prog W r b 28 v) (hh : DataW.Trod enc Try.prog W 0 (fun _ => true) true 28 v d q) : ∃ x, VSt (whole W) v x := by
  obtain ⟨cs, rfl⟩ := ok_struct hv
  obtain ⟨x, hx⟩ := rdok_step cs (by simpa [Value.cells] using Rd.of hh)
  obtain ⟨p, n, c, q, m, d, r, k, e, rfl, h4, h5, h6, h7⟩ := rStep_ok hx
  exact ⟨x, p, n, c, q, m, d, r, k, e, rfl, h4, h5, h6, h7⟩
theorem ok_steps (hv : Value.okWide Try.prog W r b 30 v) (hh : DataW.Trod enc Try.prog W 0 (fun _ => true) true 30 v d q) : ∃ xs, VTs (whole W) v xs := by
  obtain ⟨p, n, c, rfl⟩ := ok_slice hv
  obtain ⟨xs, p', n', c', e, hs⟩ := rdok_slice (t := 30) (by decide) rfl rdok_step [.slice p n c] (by simpa [Value.cells] using Rd.of hh)
  simp at e; obtain ⟨rfl, rfl, rfl⟩ := e
  exact ⟨xs, _, _, _, rfl, hs⟩
end
end Go.Proofs.Ytikkkfamflmgeaa
