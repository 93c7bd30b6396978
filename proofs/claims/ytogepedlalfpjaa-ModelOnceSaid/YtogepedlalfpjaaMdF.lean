/- A service in memory of its own; the deeds by their numbers. -/
import Derived.Test.YtogepedlalfpjaaMdG
namespace Go.Proofs.Ytogepedlalfpjaa
open Go Go.GV
attribute [local irreducible] cw Go.GV.SpecM Go.GV.wpList Exit.then Exit.inBlock Go.GV.bodyPost wpPl wpPm wpPn TS rnd rPost YieldsB wpPT ptK
set_option maxRecDepth 10000
set_option maxHeartbeats 8000000
set_option linter.unusedVariables false
set_option linter.unusedSimpArgs false
/-- How great a service is. -/
structure SvB (k : Nat) (s : SvD) : Prop where
  lives : s.lives.length ≤ 200
  filt : ∀ x ∈ s.lives, x.filter.length ≤ 1000
  schema : s.schema.length ≤ 1000
  events : s.events.length ≤ k
  vals : ∀ e ∈ s.events, e.2.1.length ≤ 1000 ∧ e.2.2.length ≤ 1000
  given : s.given.length ≤ k
theorem filter_CopyN {p : Option Addr} {n c : Nat} {f : List Sp} (h : PH) (hf : SlS h p n c f) (hn : n ≤ 1000000) : GV.Spec Try.prog 45 #[.slice p n c] h fun v h' => ∃ p' c', v = .slice p' n c' ∧ SlS (PH.new h h') p' n c' f := by
  have hl := hf.len
  refine SpecM.turnN (filter_Copy h hf hn) ?_
  rintro C u h' Ho w hC ⟨p', c', rfl, rfl⟩ hi
  have hle : h.le h' := by rw [← hC]; exact hi.le0
  obtain ⟨h3, le3, s3, hi3⟩ := Inv.publishN (xss := f.map csS) hle hi (by simp [hl]) (fun x hx => by obtain ⟨y, _, rfl⟩ := List.mem_map.1 hx; rfl) (by omega)
  exact ⟨h3, [], ⟨⟨p', c', rfl, ⟨_, s3, csS_ok (SlS_in hf)⟩⟩, rfl⟩, hi3⟩
def zL : List Value := [.int .u16 0, .bool false, .slice none 0 0, .int .u32 0]
def zE : List Value := [.int .u8 0, .int .u16 0, .int .u32 0, .slice none 0 0, .slice none 0 0]
theorem zs_rep (z : List Value) (n : Nat) : zs z n = (List.replicate n z).flatten := rfl
theorem set_at {α : Type} {xs : List α} {z y : α} {n i : Nat} (hl : xs.length = i) (hi : i < n) : (xs ++ List.replicate (n - i) z).set i y = (xs ++ [y]) ++ List.replicate (n - (i + 1)) z := by
  have e : n - i = (n - (i + 1)) + 1 := by omega
  rw [List.set_append, if_neg (by omega), hl, Nat.sub_self, e, List.replicate_succ, List.set_cons_zero, List.append_assoc]; rfl
theorem All2.wide {α : Type} {r : Rp α} {h : PH} : ∀ {css : List (List Value)} {xs : List α}, All2 (r.ok h) css xs → Wide r.sz css
  | [], [], _ => fun x hx => by cases hx
  | c :: css, x :: xs, hh => fun y hy => by
    rcases List.mem_cons.1 hy with rfl | hy
    · exact r.len hh.1
    · exact All2.wide hh.2 y hy
  | [], _ :: _, hh => hh.elim
  | _ :: _, [], hh => hh.elim

theorem pvMdF1 {A : Prop} (h : A := by (first | rfl | assumption | (simp only [decide_eq_true_eq, decide_eq_false_iff_not]; omega) | fail)) : A := h
theorem nvMdF1 {A : Prop} (h : A := by (first | decide | fail)) : A := h
theorem model_fresh {v : Value} {s : SvD} {k : Nat} (h : PH) (hs : VSv h v s) (hB : SvB k s) (hk : k ≤ 1000000) : SpecM Try.prog 30 #[v] h [] fun r h' Ho => ∃ pL nL cL pS nS cS pE nE cE pG nG cG css ess, r = .agg #[.slice pL nL cL, .slice pS nS cS, .int .u32 s.last, .slice pE nE cE, .slice pG nG cG] ∧
    Ho = [row pL nL cL 38 4 css.flatten, row pE nE cE 47 5 ess.flatten, row pG nG cG 52 5 ((s.given.map csG).flatten)] ∧ All2 (rLife.ok (PH.new h h')) css s.lives ∧ All2 (rEvent.ok (PH.new h h')) ess s.events ∧ SlS (PH.new h h') pS nS cS s.schema ∧ s.lives.length = nL ∧ s.events.length = nE ∧ s.given.length = nG ∧ (∀ g ∈ s.given, GdR g) := by
  obtain ⟨pl, nl, cl, ps, ns, cs, pe, ne, ce, pg, ng, cg, rfl, hL, hS, hla, hE, hG⟩ := hs
  obtain ⟨bL, bF, bS, bE, bV, bG⟩ := hB
  have lL := hL.len
  have lE := hE.len
  have lG := hG.len
  have lS := hS.len
  have hGr := SlG_in hG
  refine spec_enter (args := [_]) Try.func30 rfl Try.ntmps30 rfl (fun w l => ?_)
  repeat' (first | (refine is_pu ?_ (by rfl); first  | fail | refine hd_opAB ?_ | ((first | apply hd_ok | apply ch_ok | (apply hd_pn_run; rfl; exact aM)); (focus ((first | (apply OK.plain; rfl; apply OD.of) | (apply OKp.plain; rfl)); (first | (apply od_pickX; exact aX; exact pvMdF1; exact aX) | (apply od_pickY; exact aX; exact pvMdF1; exact aX)))); rfl; rfl)) | (refine is_pn ?_; first | refine hd_pn_nil ?_ | fail  | fail | refine hd_pnAB ?_ | ((first | apply hd_ok | apply ch_ok | (apply hd_pn_run; rfl; exact aM)); (focus ((first | (apply OK.plain; rfl; apply OD.of) | (apply OKp.plain; rfl)); (first | (apply od_pickX; exact aX; exact pvMdF1; exact aX) | (apply od_pickY; exact aX; exact pvMdF1; exact aX)))); rfl; rfl) | (refine hd_pn_op rfl ?_)) | (refine is_co ?_; first | fail  | (apply hd_call; exact aX; infer_instance; exact aE; exact aN; rfl; (focus exact filter_CopyN _ hxf (by omega)); (focus (rintro _ h1 hle1 ⟨p1, c1, rfl, hsl⟩; skip))) | (apply hd_call; exact aX; infer_instance; exact aE; exact aN; rfl; (focus exact schema_CopyN _ er1 er2 er3 hv1 hd1 (by omega) (by omega)); (focus (rintro _ h1 hle1 ⟨p1, c1, q1, d1, rfl, hv0, hd0⟩; skip))) | (apply hd_call; exact aX; infer_instance; exact aE; exact aN; rfl; (focus exact clone_S _ (by assumption) (by omega)); (focus (rintro _ h5 hle5 ⟨p5, n5, c5, rfl, hsl5⟩; skip))) | (apply hd_callM (Hi := []); exact aX; infer_instance; exact aE; exact aN; rfl; (focus exact fun _ hw => hw); (focus exact clone_G _ (by first | assumption | exact SlR.mono hG (by exact aL)) (by omega)); (focus (rintro _ h6 _ hle6 ⟨p6, c6, rfl, rfl⟩; skip))) | ((first | apply hd_ok | apply ch_ok); (focus ((first | (apply OK.plain; rfl) | (apply OK.guarded; rfl; rfl; (intro hg; (try have hk := hg.2); (try have hl := hg.2.2); (try have hm := hg.2.2.2)))); (first | (apply od_call; exact aX; infer_instance; exact aE; exact aN; (focus (first | fail))) ))); rfl; rfl) | refine hd_storeA ?_ | refine hd_boxA (fun _ => ?_) | refine hd_alloc rfl (fun _ => ?_) | refine hd_storeRA ?_ (hxs := by first | exact hW.spl (by omega) rfl | fail) | refine hd_makeA (fun _ => ?_) | refine hd_copyA ?_ | refine hd_litA (fun _ => ?_) | refine hd_appendA (fun _ _ => ?_)) | (refine is_ni ?_; first | (refine is_on ?_; first | refine pn_barA ?_ | refine pn_goA ?_ | refine pt_goA ?_  | refine ts_onA ?_) | refine hd_nil ?_) | (refine is_cw ?_; first | (refine is_rg ?_; first | fail | fail) | (refine is_cd ?_; first | (refine hd_condT (by exact aX) (by exact pvMdF1) ?_) | (refine hd_condF (by exact aX) (by exact pvMdF1) ?_) | (refine hd_cond (by exact aX) (fun _ => ?_) (fun _ => ?_))) | fail | refine wkA ?_) | refine wkA ?_ | fail | exact tsA | fail | (refine ts_step rfl (fun HF h1 hle => ?_)) | fail | fail)
  rename_i b1 b2 g3
  refine hd_loopS (ι := Nat × PH × List (List Value)) (fun i => i.1 ≤ nl ∧ h.le i.2.1 ∧ All2 (rLife.ok (PH.new h i.2.1)) i.2.2 (s.lives.take i.1)) (fun i => [(1, [], .pointer (some ⟨b1, 0, none⟩)), (2, [], .pointer (some ⟨b2, 0, none⟩)), (3, [], .slice (some ⟨g3, 0, none⟩) nl nl), (14, [], .slice pl nl cl), (15, [], .int .i64 nl), (16, [], .int .i64 i.1)])
    (fun i => [row (some ⟨g3, 0, none⟩) nl nl 38 4 (i.2.2 ++ List.replicate (nl - i.1) zL).flatten, box b2 [.slice none 0 0, .slice none 0 0, .int .u32 0, .slice none 0 0, .slice none 0 0] 34, box b1 [.slice pl nl cl, .slice ps ns cs, .int .u32 s.last, .slice pe ne ce, .slice pg ng cg] 34]) (fun i => i.2.1) (fun i => nl - i.1) (0, h, []) ⟨by simp, PH.le_refl _, by simp [All2]⟩ (by exact aU) (fun _ hw => hw) (fun i hi => ?_)
  obtain ⟨i, hk1, css⟩ := i
  obtain ⟨hi1, hi2, hi3⟩ := hi
  simp only at hi1 hi2 hi3
  simp only
  have lc : css.length = i := by rw [hi3.length, List.length_take]; omega
  refine hd_split (c := decide (i < nl)) (fun hlt => ?_) (fun hlt => ?_)
  · simp only [decide_eq_true_eq] at hlt
    obtain ⟨x, hx⟩ := get_of lL hlt
    have bFx := bF x (List.mem_of_getElem? hx)
    obtain ⟨cs0, hpub, hok, hptr⟩ := (hL.mono hi2).at hx
    obtain ⟨pf, nf, cf, rfl, hxr, hxf⟩ := rLife_ok hok
    have lf := hxf.len
    have hW : Wide 4 (css ++ List.replicate (nl - i) zL) := (All2.wide hi3).append (Wide.rep _ rfl)
    have hWl : (css ++ List.replicate (nl - i) zL).flatten.length = nl * 4 := by rw [hW.len, List.length_append, List.length_replicate]; congr 1; omega
    have hWl2 : (css ++ List.replicate (nl - i) zL).length = nl := by rw [List.length_append, List.length_replicate]; omega
    repeat' (first | (refine is_pu ?_ (by rfl); first  | fail | refine hd_opAB ?_ | ((first | apply hd_ok | apply ch_ok | (apply hd_pn_run; rfl; exact aM)); (focus ((first | (apply OK.plain; rfl; apply OD.of) | (apply OKp.plain; rfl)); (first | (apply od_pickX; exact aX; exact pvMdF1; exact aX) | (apply od_pickY; exact aX; exact pvMdF1; exact aX)))); rfl; rfl)) | (refine is_pn ?_; first | refine hd_pn_nil ?_ | fail  | fail | refine hd_pnAB ?_ | ((first | apply hd_ok | apply ch_ok | (apply hd_pn_run; rfl; exact aM)); (focus ((first | (apply OK.plain; rfl; apply OD.of) | (apply OKp.plain; rfl)); (first | (apply od_pickX; exact aX; exact pvMdF1; exact aX) | (apply od_pickY; exact aX; exact pvMdF1; exact aX)))); rfl; rfl) | (refine hd_pn_op rfl ?_)) | (refine is_co ?_; first | fail  | (apply hd_call; exact aX; infer_instance; exact aE; exact aN; rfl; (focus exact filter_CopyN _ hxf (by omega)); (focus (rintro _ h1 hle1 ⟨p1, c1, rfl, hsl⟩; skip))) | (apply hd_call; exact aX; infer_instance; exact aE; exact aN; rfl; (focus exact schema_CopyN _ er1 er2 er3 hv1 hd1 (by omega) (by omega)); (focus (rintro _ h1 hle1 ⟨p1, c1, q1, d1, rfl, hv0, hd0⟩; skip))) | (apply hd_call; exact aX; infer_instance; exact aE; exact aN; rfl; (focus exact clone_S _ (by assumption) (by omega)); (focus (rintro _ h5 hle5 ⟨p5, n5, c5, rfl, hsl5⟩; skip))) | (apply hd_callM (Hi := []); exact aX; infer_instance; exact aE; exact aN; rfl; (focus exact fun _ hw => hw); (focus exact clone_G _ (by first | assumption | exact SlR.mono hG (by exact aL)) (by omega)); (focus (rintro _ h6 _ hle6 ⟨p6, c6, rfl, rfl⟩; skip))) | ((first | apply hd_ok | apply ch_ok); (focus ((first | (apply OK.plain; rfl) | (apply OK.guarded; rfl; rfl; (intro hg; (try have hk := hg.2); (try have hl := hg.2.2); (try have hm := hg.2.2.2)))); (first | (apply od_call; exact aX; infer_instance; exact aE; exact aN; (focus (first | fail))) ))); rfl; rfl) | refine hd_storeA ?_ | refine hd_boxA (fun _ => ?_) | refine hd_alloc rfl (fun _ => ?_) | refine hd_storeRA ?_ (hxs := by first | exact hW.spl (by omega) rfl | fail) | refine hd_makeA (fun _ => ?_) | refine hd_copyA ?_ | refine hd_litA (fun _ => ?_) | refine hd_appendA (fun _ _ => ?_)) | (refine is_ni ?_; first | (refine is_on ?_; first | refine pn_barA ?_ | refine pn_goA ?_ | refine pt_goA ?_  | refine ts_onA ?_) | refine hd_nil ?_) | (refine is_cw ?_; first | (refine is_rg ?_; first | fail | fail) | (refine is_cd ?_; first | (refine hd_condT (by exact aX) (by exact pvMdF1) ?_) | (refine hd_condF (by exact aX) (by exact pvMdF1) ?_) | (refine hd_cond (by exact aX) (fun _ => ?_) (fun _ => ?_))) | fail | refine wkA ?_) | refine wkA ?_ | fail | exact tsA | fail | (refine ts_step rfl (fun HF h1 hle => ?_)) | fail | fail)
    refine hd_again (i + 1, h1, css ++ [[.int .u16 x.inc, .bool x.up, .slice p1 nf c1, .int .u32 x.seq]]) ⟨by simp only; omega, PH.le_trans hi2 hle1, ?_⟩ (by simp only; omega) (by exact aU) (fun w hw => ?_)
    · simp only
      rw [take_step hx]
      exact (All2.rmono hi3 (PH.new_mono hle1)).snoc (rLife_mk hxr (hsl.mono (PH.new_back hi2)))
    · simp only
      rw [← set_at lc hlt]
      exact inv_only (by exact aS) hw
  simp only [decide_eq_false_iff_not] at hlt
  have e1 : i = nl := by omega
  subst e1
  rw [List.take_of_length_le (by omega)] at hi3
  rw [Nat.sub_self, List.replicate_zero, List.append_nil]
  repeat' (first | (refine is_pu ?_ (by rfl); first  | fail | refine hd_opAB ?_ | ((first | apply hd_ok | apply ch_ok | (apply hd_pn_run; rfl; exact aM)); (focus ((first | (apply OK.plain; rfl; apply OD.of) | (apply OKp.plain; rfl)); (first | (apply od_pickX; exact aX; exact pvMdF1; exact aX) | (apply od_pickY; exact aX; exact pvMdF1; exact aX)))); rfl; rfl)) | (refine is_pn ?_; first | refine hd_pn_nil ?_ | fail  | fail | refine hd_pnAB ?_ | ((first | apply hd_ok | apply ch_ok | (apply hd_pn_run; rfl; exact aM)); (focus ((first | (apply OK.plain; rfl; apply OD.of) | (apply OKp.plain; rfl)); (first | (apply od_pickX; exact aX; exact pvMdF1; exact aX) | (apply od_pickY; exact aX; exact pvMdF1; exact aX)))); rfl; rfl) | (refine hd_pn_op rfl ?_)) | (refine is_co ?_; first | fail  | (apply hd_call; exact aX; infer_instance; exact aE; exact aN; rfl; (focus exact filter_CopyN _ hxf (by omega)); (focus (rintro _ h1 hle1 ⟨p1, c1, rfl, hsl⟩; skip))) | (apply hd_call; exact aX; infer_instance; exact aE; exact aN; rfl; (focus exact schema_CopyN _ er1 er2 er3 hv1 hd1 (by omega) (by omega)); (focus (rintro _ h1 hle1 ⟨p1, c1, q1, d1, rfl, hv0, hd0⟩; skip))) | (apply hd_call; exact aX; infer_instance; exact aE; exact aN; rfl; (focus exact clone_S _ (by assumption) (by omega)); (focus (rintro _ h5 hle5 ⟨p5, n5, c5, rfl, hsl5⟩; skip))) | (apply hd_callM (Hi := []); exact aX; infer_instance; exact aE; exact aN; rfl; (focus exact fun _ hw => hw); (focus exact clone_G _ (by first | assumption | exact SlR.mono hG (by exact aL)) (by omega)); (focus (rintro _ h6 _ hle6 ⟨p6, c6, rfl, rfl⟩; skip))) | ((first | apply hd_ok | apply ch_ok); (focus ((first | (apply OK.plain; rfl) | (apply OK.guarded; rfl; rfl; (intro hg; (try have hk := hg.2); (try have hl := hg.2.2); (try have hm := hg.2.2.2)))); (first | (apply od_call; exact aX; infer_instance; exact aE; exact aN; (focus (first | fail))) ))); rfl; rfl) | refine hd_storeA ?_ | refine hd_boxA (fun _ => ?_) | refine hd_alloc rfl (fun _ => ?_) | refine hd_storeRA ?_ (hxs := by first | exact hW.spl (by omega) rfl | fail) | refine hd_makeA (fun _ => ?_) | refine hd_copyA ?_ | refine hd_litA (fun _ => ?_) | refine hd_appendA (fun _ _ => ?_)) | (refine is_ni ?_; first | (refine is_on ?_; first | refine pn_barA ?_ | refine pn_goA ?_ | refine pt_goA ?_  | refine ts_onA ?_) | refine hd_nil ?_) | (refine is_cw ?_; first | (refine is_rg ?_; first | fail | fail) | (refine is_cd ?_; first | (refine hd_condT (by exact aX) (by exact pvMdF1) ?_) | (refine hd_condF (by exact aX) (by exact pvMdF1) ?_) | (refine hd_cond (by exact aX) (fun _ => ?_) (fun _ => ?_))) | fail | refine wkA ?_) | refine wkA ?_ | fail | exact tsA | fail | (refine ts_step rfl (fun HF h1 hle => ?_)) | fail | fail)
  rename_i g6
  refine hd_loopS (ι := Nat × PH × List (List Value)) (fun j => j.1 ≤ ne ∧ hk1.le j.2.1 ∧ All2 (rEvent.ok (PH.new h j.2.1)) j.2.2 (s.events.take j.1)) (fun j => [(1, [], .pointer (some ⟨b1, 0, none⟩)), (2, [], .pointer (some ⟨b2, 0, none⟩)), (3, [], .slice (some ⟨g3, 0, none⟩) i i), (6, [], .slice (some ⟨g6, 0, none⟩) ne ne), (35, [], .slice pe ne ce), (36, [], .int .i64 ne), (37, [], .int .i64 j.1)])
    (fun j => [row (some ⟨g6, 0, none⟩) ne ne 47 5 (j.2.2 ++ List.replicate (ne - j.1) zE).flatten, row (some ⟨g3, 0, none⟩) i i 38 4 css.flatten, box b2 [.slice none 0 0, .slice none 0 0, .int .u32 0, .slice none 0 0, .slice none 0 0] 34, box b1 [.slice pl i cl, .slice ps ns cs, .int .u32 s.last, .slice pe ne ce, .slice pg ng cg] 34]) (fun j => j.2.1) (fun j => ne - j.1) (0, hk1, []) ⟨by simp, PH.le_refl _, by simp [All2]⟩ (by exact aU) (fun _ hw => hw) (fun j hj => ?_)
  obtain ⟨j, hk2, ess⟩ := j
  obtain ⟨hj1, hj2, hj3⟩ := hj
  simp only at hj1 hj2 hj3
  simp only
  have lc2 : ess.length = j := by rw [hj3.length, List.length_take]; omega
  have hh2 := PH.le_trans hi2 hj2
  refine hd_split (c := decide (j < ne)) (fun hlt2 => ?_) (fun hlt2 => ?_)
  · simp only [decide_eq_true_eq] at hlt2
    obtain ⟨x, hx⟩ := get_of lE hlt2
    have bVx := bV x (List.mem_of_getElem? hx)
    obtain ⟨cs0, hpub, hok, hptr⟩ := (hE.mono hh2).at hx
    obtain ⟨p2, n2, c2, q2, m2, d2, rfl, er1, er2, er3, hv1, hd1⟩ := rEvent_ok hok
    have lv := hv1.len
    have ld := hd1.len
    have hW : Wide 5 (ess ++ List.replicate (ne - j) zE) := (All2.wide hj3).append (Wide.rep _ rfl)
    have hWl : (ess ++ List.replicate (ne - j) zE).flatten.length = ne * 5 := by rw [hW.len, List.length_append, List.length_replicate]; congr 1; omega
    have hWl2 : (ess ++ List.replicate (ne - j) zE).length = ne := by rw [List.length_append, List.length_replicate]; omega
    repeat' (first | (refine is_pu ?_ (by rfl); first  | fail | refine hd_opAB ?_ | ((first | apply hd_ok | apply ch_ok | (apply hd_pn_run; rfl; exact aM)); (focus ((first | (apply OK.plain; rfl; apply OD.of) | (apply OKp.plain; rfl)); (first | (apply od_pickX; exact aX; exact pvMdF1; exact aX) | (apply od_pickY; exact aX; exact pvMdF1; exact aX)))); rfl; rfl)) | (refine is_pn ?_; first | refine hd_pn_nil ?_ | fail  | fail | refine hd_pnAB ?_ | ((first | apply hd_ok | apply ch_ok | (apply hd_pn_run; rfl; exact aM)); (focus ((first | (apply OK.plain; rfl; apply OD.of) | (apply OKp.plain; rfl)); (first | (apply od_pickX; exact aX; exact pvMdF1; exact aX) | (apply od_pickY; exact aX; exact pvMdF1; exact aX)))); rfl; rfl) | (refine hd_pn_op rfl ?_)) | (refine is_co ?_; first | fail  | (apply hd_call; exact aX; infer_instance; exact aE; exact aN; rfl; (focus exact filter_CopyN _ hxf (by omega)); (focus (rintro _ h1 hle1 ⟨p1, c1, rfl, hsl⟩; skip))) | (apply hd_call; exact aX; infer_instance; exact aE; exact aN; rfl; (focus exact schema_CopyN _ er1 er2 er3 hv1 hd1 (by omega) (by omega)); (focus (rintro _ h1 hle1 ⟨p1, c1, q1, d1, rfl, hv0, hd0⟩; skip))) | (apply hd_call; exact aX; infer_instance; exact aE; exact aN; rfl; (focus exact clone_S _ (by assumption) (by omega)); (focus (rintro _ h5 hle5 ⟨p5, n5, c5, rfl, hsl5⟩; skip))) | (apply hd_callM (Hi := []); exact aX; infer_instance; exact aE; exact aN; rfl; (focus exact fun _ hw => hw); (focus exact clone_G _ (by first | assumption | exact SlR.mono hG (by exact aL)) (by omega)); (focus (rintro _ h6 _ hle6 ⟨p6, c6, rfl, rfl⟩; skip))) | ((first | apply hd_ok | apply ch_ok); (focus ((first | (apply OK.plain; rfl) | (apply OK.guarded; rfl; rfl; (intro hg; (try have hk := hg.2); (try have hl := hg.2.2); (try have hm := hg.2.2.2)))); (first | (apply od_call; exact aX; infer_instance; exact aE; exact aN; (focus (first | fail))) ))); rfl; rfl) | refine hd_storeA ?_ | refine hd_boxA (fun _ => ?_) | refine hd_alloc rfl (fun _ => ?_) | refine hd_storeRA ?_ (hxs := by first | exact hW.spl (by omega) rfl | fail) | refine hd_makeA (fun _ => ?_) | refine hd_copyA ?_ | refine hd_litA (fun _ => ?_) | refine hd_appendA (fun _ _ => ?_)) | (refine is_ni ?_; first | (refine is_on ?_; first | refine pn_barA ?_ | refine pn_goA ?_ | refine pt_goA ?_  | refine ts_onA ?_) | refine hd_nil ?_) | (refine is_cw ?_; first | (refine is_rg ?_; first | fail | fail) | (refine is_cd ?_; first | (refine hd_condT (by exact aX) (by exact pvMdF1) ?_) | (refine hd_condF (by exact aX) (by exact pvMdF1) ?_) | (refine hd_cond (by exact aX) (fun _ => ?_) (fun _ => ?_))) | fail | refine wkA ?_) | refine wkA ?_ | fail | exact tsA | fail | (refine ts_step rfl (fun HF h1 hle => ?_)) | fail | fail)
    refine hd_again (j + 1, h1, ess ++ [[.int .u8 x.1.1, .int .u16 x.1.2.1, .int .u32 x.1.2.2, .slice p1 n2 c1, .slice q1 m2 d1]]) ⟨by simp only; omega, PH.le_trans hj2 hle1, ?_⟩ (by simp only; omega) (by exact aU) (fun w hw => ?_)
    · simp only
      rw [take_step hx]
      exact (All2.rmono hj3 (PH.new_mono hle1)).snoc (rEvent_mk er1 er2 er3 (hv0.mono (PH.new_back hh2)) (hd0.mono (PH.new_back hh2)))
    · simp only
      rw [← set_at lc2 hlt2]
      exact inv_only (by exact aS) hw
  simp only [decide_eq_false_iff_not] at hlt2
  have e2 : j = ne := by omega
  subst e2
  rw [List.take_of_length_le (by omega)] at hj3
  rw [Nat.sub_self, List.replicate_zero, List.append_nil]
  have hS2 := hS.mono hh2
  repeat' (first | (refine is_pu ?_ (by rfl); first  | fail | refine hd_opAB ?_ | ((first | apply hd_ok | apply ch_ok | (apply hd_pn_run; rfl; exact aM)); (focus ((first | (apply OK.plain; rfl; apply OD.of) | (apply OKp.plain; rfl)); (first | (apply od_pickX; exact aX; exact pvMdF1; exact aX) | (apply od_pickY; exact aX; exact pvMdF1; exact aX)))); rfl; rfl)) | (refine is_pn ?_; first | refine hd_pn_nil ?_ | fail  | fail | refine hd_pnAB ?_ | ((first | apply hd_ok | apply ch_ok | (apply hd_pn_run; rfl; exact aM)); (focus ((first | (apply OK.plain; rfl; apply OD.of) | (apply OKp.plain; rfl)); (first | (apply od_pickX; exact aX; exact pvMdF1; exact aX) | (apply od_pickY; exact aX; exact pvMdF1; exact aX)))); rfl; rfl) | (refine hd_pn_op rfl ?_)) | (refine is_co ?_; first | fail  | (apply hd_call; exact aX; infer_instance; exact aE; exact aN; rfl; (focus exact filter_CopyN _ hxf (by omega)); (focus (rintro _ h1 hle1 ⟨p1, c1, rfl, hsl⟩; skip))) | (apply hd_call; exact aX; infer_instance; exact aE; exact aN; rfl; (focus exact schema_CopyN _ er1 er2 er3 hv1 hd1 (by omega) (by omega)); (focus (rintro _ h1 hle1 ⟨p1, c1, q1, d1, rfl, hv0, hd0⟩; skip))) | (apply hd_call; exact aX; infer_instance; exact aE; exact aN; rfl; (focus exact clone_S _ (by assumption) (by omega)); (focus (rintro _ h5 hle5 ⟨p5, n5, c5, rfl, hsl5⟩; skip))) | (apply hd_callM (Hi := []); exact aX; infer_instance; exact aE; exact aN; rfl; (focus exact fun _ hw => hw); (focus exact clone_G _ (by first | assumption | exact SlR.mono hG (by exact aL)) (by omega)); (focus (rintro _ h6 _ hle6 ⟨p6, c6, rfl, rfl⟩; skip))) | ((first | apply hd_ok | apply ch_ok); (focus ((first | (apply OK.plain; rfl) | (apply OK.guarded; rfl; rfl; (intro hg; (try have hk := hg.2); (try have hl := hg.2.2); (try have hm := hg.2.2.2)))); (first | (apply od_call; exact aX; infer_instance; exact aE; exact aN; (focus (first | fail))) ))); rfl; rfl) | refine hd_storeA ?_ | refine hd_boxA (fun _ => ?_) | refine hd_alloc rfl (fun _ => ?_) | refine hd_storeRA ?_ (hxs := by first | exact hW.spl (by omega) rfl | fail) | refine hd_makeA (fun _ => ?_) | refine hd_copyA ?_ | refine hd_litA (fun _ => ?_) | refine hd_appendA (fun _ _ => ?_)) | (refine is_ni ?_; first | (refine is_on ?_; first | refine pn_barA ?_ | refine pn_goA ?_ | refine pt_goA ?_  | refine ts_onA ?_) | refine hd_nil ?_) | (refine is_cw ?_; first | (refine is_rg ?_; first | fail | fail) | (refine is_cd ?_; first | (refine hd_condT (by exact aX) (by exact pvMdF1) ?_) | (refine hd_condF (by exact aX) (by exact pvMdF1) ?_) | (refine hd_cond (by exact aX) (fun _ => ?_) (fun _ => ?_))) | fail | refine wkA ?_) | refine wkA ?_ | fail | exact tsA | fail | (refine ts_step rfl (fun HF h1 hle => ?_)) | fail | fail)
  (apply hd_resS (Hi := [row (some ⟨g3, 0, none⟩) i i 38 4 css.flatten, row (some ⟨g6, 0, none⟩) j j 47 5 ess.flatten, row p6 ng c6 52 5 ((s.given.map csG).flatten)]); (focus (first | exact .inl rfl | exact .inr rfl)); rfl; exact aR; exact aS)
  exact ⟨_, _, _, _, _, _, _, _, _, _, _, _, css, ess, rfl, rfl, All2.rmono hi3 (PH.new_mono (by exact aL)), All2.rmono hj3 (PH.new_mono (by exact aL)), (hsl5.mono (PH.new_back hh2)).mono (PH.new_mono hle6), lL, lE, lG, hGr⟩
/-! ### The deeds by their numbers -/
def deedM : KVs := [([.int .u8 1], .func (.func 48) #[] #[]), ([.int .u8 2], .func (.func 49) #[] #[]), ([.int .u8 3], .func (.func 50) #[] #[]), ([.int .u8 4], .func (.func 51) #[] #[]), ([.int .u8 5], .func (.func 52) #[] #[])]
theorem model_deeds (h : PH) : SpecM Try.prog 31 #[] h [] fun r h' Ho => ∃ b, r = .map (some b) ∧ Ho = [mp b [some .u8] false deedM] := by
  refine spec_enter (args := []) Try.func31 rfl Try.ntmps31 rfl (fun w l => ?_)
  repeat' (first | (refine is_pu ?_ (by rfl); first  | fail | refine hd_opAB ?_ | ((first | apply hd_ok | apply ch_ok | (apply hd_pn_run; rfl; exact aM)); (focus ((first | (apply OK.plain; rfl; apply OD.of) | (apply OKp.plain; rfl)); (first | (apply od_pickX; exact aX; exact pvMdF1; exact aX) | (apply od_pickY; exact aX; exact pvMdF1; exact aX)))); rfl; rfl)) | (refine is_pn ?_; first | refine hd_pn_nil ?_ | fail  | fail | refine hd_pnAB ?_ | ((first | apply hd_ok | apply ch_ok | (apply hd_pn_run; rfl; exact aM)); (focus ((first | (apply OK.plain; rfl; apply OD.of) | (apply OKp.plain; rfl)); (first | (apply od_pickX; exact aX; exact pvMdF1; exact aX) | (apply od_pickY; exact aX; exact pvMdF1; exact aX)))); rfl; rfl) | (refine hd_pn_op rfl ?_)) | (refine is_co ?_; first | fail  | (apply hd_makeMap; (focus exact .inl rfl); rfl; (refine fun bM => ?_)) | (apply hd_mapIns; exact aX; exact aX; exact aX; exact aP; exact KV.one; exact .int .nil) | ((first | apply hd_ok | apply ch_ok); (focus ((first | (apply OK.plain; rfl) | (apply OK.guarded; rfl; rfl; (intro hg; (try have hk := hg.2); (try have hl := hg.2.2); (try have hm := hg.2.2.2)))); (first | (apply od_call; exact aX; infer_instance; exact aE; exact aN; (focus (first | fail))) ))); rfl; rfl) | refine hd_storeA ?_ | refine hd_boxA (fun _ => ?_) | refine hd_alloc rfl (fun _ => ?_) | refine hd_storeRA ?_ (hxs := by first | exact hW.spl (by omega) rfl | fail) | refine hd_makeA (fun _ => ?_) | refine hd_copyA ?_ | refine hd_litA (fun _ => ?_) | refine hd_appendA (fun _ _ => ?_)) | (refine is_ni ?_; first | (refine is_on ?_; first | refine pn_barA ?_ | refine pn_goA ?_ | refine pt_goA ?_  | refine ts_onA ?_) | refine hd_nil ?_) | (refine is_cw ?_; first | (refine is_rg ?_; first | fail | fail) | (refine is_cd ?_; first | (refine hd_condT (by exact aX) (by exact pvMdF1) ?_) | (refine hd_condF (by exact aX) (by exact pvMdF1) ?_) | (refine hd_cond (by exact aX) (fun _ => ?_) (fun _ => ?_))) | fail | refine wkA ?_) | refine wkA ?_ | fail | exact tsA | fail | (refine ts_step rfl (fun HF h1 hle => ?_)) | fail | fail)
  (apply hd_resS (Hi := [mp bM [some .u8] false deedM]); (focus (first | exact .inl rfl | exact .inr rfl)); rfl; exact aR; exact aS)
  exact ⟨bM, rfl, rfl⟩
theorem deed_look (k : Int) : (1 ≤ k ∧ k ≤ 5 ∧ ∃ f, lookM [.int .u8 k] deedM = some (.func (.func f) #[] #[])) ∨ ((k < 1 ∨ 5 < k) ∧ lookM [.int .u8 k] deedM = none) := by
  by_cases h1 : k = 1
  · subst h1; exact .inl ⟨by decide, by decide, _, rfl⟩
  by_cases h2 : k = 2
  · subst h2; exact .inl ⟨by decide, by decide, _, rfl⟩
  by_cases h3 : k = 3
  · subst h3; exact .inl ⟨by decide, by decide, _, rfl⟩
  by_cases h4 : k = 4
  · subst h4; exact .inl ⟨by decide, by decide, _, rfl⟩
  by_cases h5 : k = 5
  · subst h5; exact .inl ⟨by decide, by decide, _, rfl⟩
  exact .inr ⟨by omega, by simp [lookM, deedM, eqL, eqV, h1, h2, h3, h4, h5]⟩
end Go.Proofs.Ytogepedlalfpjaa
