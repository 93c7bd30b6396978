/- mesg.Bytes. Printed by gen_mgd.py. -/
import Derived.Test.YtmpfeaoofkkhjaaGreatMgW
import Derived.Test.YtmpfeaoofkkhjaaGreatCrc3
namespace Go.Proofs.YtmpfeaoofkkhjaaGreat
open Go Go.GV
attribute [local irreducible] cw Go.GV.SpecM Go.GV.wpList Exit.then Exit.inBlock Go.GV.bodyPost wpPl wpPm wpPn TS rnd rPost YieldsB wpPT ptK
set_option maxRecDepth 10000
set_option maxHeartbeats 8000000
set_option linter.unusedVariables false
set_option linter.unusedSimpArgs false
/-- What is written of a field. -/
def wfI (m : MsD) : Nat → List Int
  | 0 => bif mL m.kind then wal wDesc m.list else []
  | 1 => bif mT m.kind then wal wMem m.table else []
  | 2 => bif mE m.kind then wEv m.ev else []
  | 3 => bif mH m.kind then [m.hops] else []
  | 4 => bif mO m.kind then wMark m.origin else []
  | 5 => bif mO m.kind then wal wMark m.marks else []
  | 6 => bif mJ m.kind then wal wMark m.ids else []
  | _ => []
def wTo (m : MsD) : Nat → List Int
  | 0 => []
  | i + 1 => wTo m i ++ wfI m i
def wHd (m : MsD) : List Int := [m.kind, m.frm] ++ putB m.inc 2 2 ++ [m.to_]
theorem wMsg_eq {m : MsD} (hr : MsR m) : wMsg m = wHd m ++ wTo m 7 := by
  have h1 := hr.kind
  have h2 := hr.frm
  have h4 := hr.to_
  have h5 := hr.hops
  simp only [inR] at h1 h2 h4 h5
  simp only [wMsg, wHd, wTo, wFld, MsD.fld, putB_one _ (show 0 ≤ m.kind ∧ m.kind < 256 by omega), putB_one _ (show 0 ≤ m.frm ∧ m.frm < 256 by omega), putB_one _ (show 0 ≤ m.to_ ∧ m.to_ < 256 by omega), List.append_assoc, List.nil_append]
  have e : ∀ (t : Bool) {α : Type} (w : α → List Int) (x : α), wif t w x = bif t then w x else [] := by intro t α w x; cases t <;> rfl
  simp only [e, wfI, putB_one _ (show 0 ≤ m.hops ∧ m.hops < 256 by omega)]
  simp
theorem wli_bd {α : Type} {w : α → List Int} {k : Nat} : ∀ {l : List α}, (∀ x ∈ l, (w x).length ≤ k) → (wli w l).length ≤ l.length * k
  | [], _ => by simp [wli]
  | x :: l, h => by
    have h1 := h x (by simp)
    have h2 := wli_bd (w := w) (l := l) (fun y hy => h y (by simp [hy]))
    have e : wli w (x :: l) = w x ++ wli w l := by simp [wli]
    rw [e, List.length_append, List.length_cons, Nat.add_mul]
    omega
theorem wal_len {α : Type} (w : α → List Int) (l : List α) : (wal w l).length = 1 + (wli w l).length := by simp only [wal, List.length_append, putB_len]
theorem wMark_len (x : Mk) : (wMark x).length = 7 := by simp only [wMark, List.length_append, putB_len]
theorem wMem_len (x : Mk) : (wMem x).length = 4 := by simp only [wMem, List.length_append, putB_len]
theorem wVal_len (x : Int) : (wVal x).length = 4 := by simp only [wVal, putB_len]
theorem wSpan_len (x : Sp) : (wSpan x).length = 8 := by simp only [wSpan, wVal_len, List.length_append]
/-- What a right message has, and how long it is. -/
structure Bds (m : MsD) : Prop where
  l : mL m.kind = true → m.list.length ≤ 255 ∧ (∀ x ∈ m.list, x.2.2.2.length ≤ 255) ∧ (wli wDesc m.list).length ≤ 3000
  t : mT m.kind = true → m.table.length ≤ 255 ∧ (wli wMem m.table).length ≤ 3000
  e : mE m.kind = true → m.ev.2.1.length ≤ 255 ∧ m.ev.2.2.length ≤ 65535 ∧ (wEv m.ev).length ≤ 3000
  ms : mO m.kind = true → m.marks.length ≤ 255 ∧ (wli wMark m.marks).length ≤ 3000
  is_ : mJ m.kind = true → m.ids.length ≤ 255 ∧ (wli wMark m.ids).length ≤ 3000
theorem right_bds {m : MsD} (h : rightM m = true) : Bds m := by
  rw [rightM_eq] at h
  simp only [Bool.and_eq_true] at h
  obtain ⟨⟨⟨⟨⟨⟨⟨h0, k0⟩, k1⟩, k2⟩, k3⟩, k4⟩, k5⟩, k6⟩ := h
  refine ⟨fun e => ?_, fun e => ?_, fun e => ?_, fun e => ?_, fun e => ?_⟩
  · simp only [okF, e, cond_true, fLr, Bool.and_eq_true, decide_eq_true_eq, List.all_eq_true, okDs] at k0
    have h4 : ∀ x ∈ m.list, x.2.2.2.length ≤ 4 := fun x hx => (k0.2 x hx).2
    have := wli_bd (w := wDesc) (k := 37) (l := m.list) (fun x hx => by
      have h5 := wli_bd (w := wSpan) (k := 8) (l := x.2.2.2) (fun s _ => by rw [wSpan_len]; exact Nat.le_refl _)
      have h6 := h4 x hx
      simp only [wDesc, List.length_append, putB_len, wal_len]
      omega)
    exact ⟨by omega, fun x hx => by have := h4 x hx; omega, by omega⟩
  · simp only [okF, e, cond_true, fTr, Bool.and_eq_true, decide_eq_true_eq] at k1
    have := wli_bd (w := wMem) (k := 4) (l := m.table) (fun x hx => by rw [wMem_len]; exact Nat.le_refl _)
    exact ⟨by omega, by omega⟩
  · simp only [okF, e, cond_true, fEr, Bool.and_eq_true, decide_eq_true_eq] at k2
    have h5 := wli_bd (w := wVal) (k := 4) (l := m.ev.2.1) (fun s _ => by rw [wVal_len]; exact Nat.le_refl _)
    have h6 := putT_le m.ev.2.2
    refine ⟨by omega, by omega, ?_⟩
    simp only [wEv, List.length_append, wMark_len, wal_len]
    omega
  · simp only [okF, e, cond_true, fMr, Bool.and_eq_true, decide_eq_true_eq] at k5
    have := wli_bd (w := wMark) (k := 7) (l := m.marks) (fun x hx => by rw [wMark_len]; exact Nat.le_refl _)
    exact ⟨by omega, by omega⟩
  · simp only [okF, e, cond_true, fIr, Bool.and_eq_true, decide_eq_true_eq] at k6
    have := wli_bd (w := wMark) (k := 7) (l := m.ids) (fun x hx => by rw [wMark_len]; exact Nat.le_refl _)
    exact ⟨by omega, by omega⟩
theorem wfI_bd {m : MsD} (hb : Bds m) (i : Nat) (hi : i < 7) : (wfI m i).length ≤ 3001 := by
  have h7 : i = 0 ∨ i = 1 ∨ i = 2 ∨ i = 3 ∨ i = 4 ∨ i = 5 ∨ i = 6 := by omega
  rcases h7 with rfl | rfl | rfl | rfl | rfl | rfl | rfl <;> simp only [wfI]
  · cases e : mL m.kind <;> simp only [cond_true, cond_false, wal_len, List.length_nil] <;> first | omega | (have := hb.l e; omega)
  · cases e : mT m.kind <;> simp only [cond_true, cond_false, wal_len, List.length_nil] <;> first | omega | (have := hb.t e; omega)
  · cases e : mE m.kind <;> simp only [cond_true, cond_false, List.length_nil] <;> first | omega | (have := hb.e e; omega)
  · cases e : mH m.kind <;> simp
  · cases e : mO m.kind <;> simp [wMark_len]
  · cases e : mO m.kind <;> simp only [cond_true, cond_false, wal_len, List.length_nil] <;> first | omega | (have := hb.ms e; omega)
  · cases e : mJ m.kind <;> simp only [cond_true, cond_false, wal_len, List.length_nil] <;> first | omega | (have := hb.is_ e; omega)
theorem wTo_bd {m : MsD} (hb : Bds m) : ∀ i, i ≤ 7 → (wTo m i).length ≤ i * 3001
  | 0, _ => by simp [wTo]
  | i + 1, h => by
    have h1 := wTo_bd hb i (by omega)
    have h2 := wfI_bd hb i (by omega)
    simp only [wTo, List.length_append]
    omega
def bytesM (m : MsD) : List Int × Int := if rightM m then (sealB (wMsg m), 0) else ([], 200)

theorem pvMgD1 {A : Prop} (h : A := by (first | rfl | assumption | (rw [hu]; rfl) | (simp only [decide_eq_true_eq, decide_eq_false_iff_not, beq_eq_false_iff_ne, beq_iff_eq]; omega) | fail)) : A := h
theorem nvMgD1 {A : Prop} (h : A := by (first | decide | (rw [hu]; decide) | fail)) : A := h
theorem zMgD1 {A : Prop} (h : A := by ((first | (apply OK.plain; rfl; apply OD.of) | (apply OKp.plain; rfl)); (first | (apply od_pickX; exact aX; exact pvMgD1; exact aX) | (apply od_pickY; exact aX; exact pvMgD1; exact aX)))) : A := h
theorem zMgD2 {A : Prop} (h : A := by ((first | (apply OK.plain; rfl) | (apply OK.guarded; rfl; rfl; (intro hg; (try have hk := hg.2); (try have hl := hg.2.2); (try have hm := hg.2.2.2)))); (first | (apply od_call; exact aX; infer_instance; exact aE; exact aN; (focus (first | exact mesg_Right _ hv | exact mesg_fieldsOf _ _))) ))) : A := h
theorem zMgD4 {A : Prop} (h : A := by ((first | (apply OK.plain; rfl; apply OD.of) | (apply OKp.plain; rfl)); (first | fail))) : A := h
theorem wMgD1 {A B : Prop} (k : B) (h : Kx B → A := by intro k; (first | (refine is_pu ?_ (by rfl); first | (apply hd_gon; rfl; rfl; (focus (constructor; exact pvMgD1; trivial))) | (apply hd_goff; rfl; rfl; (focus exact fun hs => absurd hs.1 (by exact nvMgD1)); rfl) | (apply hd_gundef; rfl; rfl; rfl) | refine hd_opAB ?_ | ((first | apply hd_ok | apply ch_ok | (apply hd_pn_run; rfl; exact aM)); (focus exact zMgD4); rfl; rfl) | ((first | apply hd_ok | apply ch_ok | (apply hd_pn_run; rfl; exact aM)); (focus exact zMgD1); rfl; rfl)) | (refine is_pn ?_; first | refine hd_pn_nil ?_ | refine hd_pnAB ?_ | ((first | apply hd_ok | apply ch_ok | (apply hd_pn_run; rfl; exact aM)); (focus exact zMgD4); rfl; rfl) | ((first | apply hd_ok | apply ch_ok | (apply hd_pn_run; rfl; exact aM)); (focus exact zMgD1); rfl; rfl) | (refine hd_pn_op rfl ?_)) | (refine is_co ?_; first | (apply hd_gon; rfl; rfl; (focus (constructor; exact pvMgD1; trivial))) | (apply hd_goff; rfl; rfl; (focus exact fun hs => absurd hs.1 (by exact nvMgD1)); rfl) | (apply hd_gundef; rfl; rfl; rfl) | refine hd_copyA ?_ | ((first | apply hd_ok | apply ch_ok); (focus exact zMgD2); rfl; rfl) | refine hd_storeA ?_ | refine hd_copyA ?_) | (refine is_ni ?_; first | (refine is_on ?_; first | refine pn_barA ?_ | refine pn_goA ?_ | refine pt_goA ?_ | refine ts_onA ?_) | refine hd_nil ?_) | refine wkA ?_ | (refine is_ch ?_; refine ch_opAB ?_) | ((first | apply hd_ok | apply ch_ok); (focus exact zMgD2); rfl; rfl) | ((first | apply hd_ok | apply ch_ok | (apply hd_pn_run; rfl; exact aM)); (focus exact zMgD4); rfl; rfl) | ((first | apply hd_ok | apply ch_ok | (apply hd_pn_run; rfl; exact aM)); (focus exact zMgD1); rfl; rfl)); exact k.go) : A := h ⟨k⟩
theorem wMgD2 {A B : Prop} (k : B) (h : Kx B → A := by intro k; ((refine is_cw ?_; refine is_rg ?_; first | refine hd_draw follows_any (by decide +kernel) ?_)); exact k.go) : A := h ⟨k⟩
theorem wMgD3 {A B : Prop} (k : B) (h : Kx B → A := by intro k; ((refine is_cw ?_; refine is_cd ?_; first | (refine hd_condT (by exact aX) (by exact pvMgD1) ?_) | (refine hd_condF (by exact aX) (by exact pvMgD1) ?_))); exact k.go) : A := h ⟨k⟩
theorem wMgD4 {A B : Prop} (k : B) (h : Kx B → A := by intro k; (first | (refine is_pu ?_ (by rfl); first | (apply hd_gon; rfl; rfl; (focus (constructor; exact pvMgD1; trivial))) | (apply hd_goff; rfl; rfl; (focus exact fun hs => absurd hs.1 (by exact nvMgD1)); rfl) | (apply hd_gundef; rfl; rfl; rfl) | ((first | apply hd_ok | apply ch_ok | (apply hd_pn_run; rfl; exact aM)); (focus ((first | (apply OK.plain; rfl) | (apply OK.guarded; rfl; rfl; (intro hg))); apply OD.of; apply od_and1; exact aX; exact aX; (focus omega); (focus omega); exact cc)); rfl; rfl) | refine hd_opAB ?_ | ((first | apply hd_ok | apply ch_ok | (apply hd_pn_run; rfl; exact aM)); (focus exact zMgD4); rfl; rfl) | ((first | apply hd_ok | apply ch_ok | (apply hd_pn_run; rfl; exact aM)); (focus exact zMgD1); rfl; rfl)) | (refine is_pn ?_; first | refine hd_pn_nil ?_ | ((first | apply hd_ok | apply ch_ok | (apply hd_pn_run; rfl; exact aM)); (focus ((first | (apply OK.plain; rfl) | (apply OK.guarded; rfl; rfl; (intro hg))); apply OD.of; apply od_and1; exact aX; exact aX; (focus omega); (focus omega); exact cc)); rfl; rfl) | refine hd_pnAB ?_ | ((first | apply hd_ok | apply ch_ok | (apply hd_pn_run; rfl; exact aM)); (focus exact zMgD4); rfl; rfl) | ((first | apply hd_ok | apply ch_ok | (apply hd_pn_run; rfl; exact aM)); (focus exact zMgD1); rfl; rfl) | (refine hd_pn_op rfl ?_)) | (refine is_co ?_; first | (apply hd_gon; rfl; rfl; (focus (constructor; exact pvMgD1; trivial))) | (apply hd_goff; rfl; rfl; (focus exact fun hs => absurd hs.1 (by exact nvMgD1)); rfl) | (apply hd_gundef; rfl; rfl; rfl) | ((first | apply hd_ok | apply ch_ok); (focus exact zMgD2); rfl; rfl) | refine hd_storeA ?_ | refine hd_copyA ?_) | (refine is_ni ?_; first | (refine is_on ?_; first | refine pn_barA ?_ | refine pn_goA ?_ | refine pt_goA ?_ | refine ts_onA ?_) | refine hd_nil ?_) | refine wkA ?_ | (refine is_ch ?_; refine ch_opAB ?_) | ((first | apply hd_ok | apply ch_ok); (focus exact zMgD2); rfl; rfl) | ((first | apply hd_ok | apply ch_ok | (apply hd_pn_run; rfl; exact aM)); (focus exact zMgD4); rfl; rfl) | ((first | apply hd_ok | apply ch_ok | (apply hd_pn_run; rfl; exact aM)); (focus exact zMgD1); rfl; rfl)); exact k.go) : A := h ⟨k⟩
theorem zMgD3 {A : Prop} (h : A := by (first | assumption | omega | rfl | (simp; done) | (simp only [List.length_append, List.length_cons, List.length_nil, putB_len]; omega))) : A := h
theorem mesg_Bytes {m : MsD} {a : MsP} (h : PH) (hv : VMsP h a m) : GV.Spec Tryz.prog 10 #[.agg #[.int .u8 m.kind, .int .u8 m.frm, .int .u16 m.inc, .int .u8 m.to_, .slice a.pl a.nl a.cl, .slice a.pt a.nt a.ct, .int .u8 m.ev.1.1, .int .u16 m.ev.1.2.1, .int .u32 m.ev.1.2.2, .slice a.pv a.nv a.cv, .slice a.pd a.nd a.cd, .int .u8 m.hops, .int .u8 m.origin.1, .int .u16 m.origin.2.1, .int .u32 m.origin.2.2, .slice a.pm a.nm a.cm, .slice a.pi a.ni a.ci]] h fun v h' => ∃ p' n' c', v = .tuple #[.slice p' n' c', .int .i64 (bytesM m).2] ∧ Bs (PH.new h h') p' n' c' (bytesM m).1 := by
  have hr1 := hv.r.kind
  have hr2 := hv.r.frm
  have hr3 := hv.r.inc
  have hr4 := hv.r.to_
  simp only [inR] at hr1 hr2 hr3 hr4
  refine spec_enter (args := [_]) Tryz.func10 rfl Tryz.ntmps10 rfl (fun w l => ?_)
  refine hd_split (c := rightM m) (fun hu => ?_) (fun hu => ?_)
  rotate_left
  · repeat' (first | (refine is_cx ?_ (by rfl); first | (apply hd_app81; exact aX; exact aX; exact aP; (focus exact Src.row (by exact aH)); (focus omega); (focus omega); rfl; (refine fun p2 c2 => ?_)) | refine hd_makeA (fun _ => ?_) | refine hd_litA (fun _ => ?_) | refine hd_appendA (fun _ _ => ?_) | (refine hd_cmA (Hi := [row8 _ _ _ _]) (s := by exact mesg_put2 _ (by simp only [inR]; omega) (by exact zMgD3) (by exact zMgD3)) (k := ?_); (focus (rintro _ h1 _ hle1 ⟨p1, n1, c1, rfl, hn1, rfl⟩; (simp only [List.length_append, putB_len, List.length_cons, List.length_nil] at hn1)))) | (refine hd_cA (s := by exact mesg_fields _) (k := ?_); rintro _ h2 hle2 ⟨pF, cF, rfl, hF⟩)) | refine wMgD2 ?_ | refine wMgD3 ?_ | (refine is_cd ?_; first | refine hd_condA (fun _ => ?_) (fun _ => ?_)) | refine wMgD1 ?_ | refine wkB (fun _ => ?_) | refine wkC (fun _ _ => ?_) | exact tsA | (refine ts_step rfl (fun HF h1 hle => ?_)))
    ((repeat (refine hd_undefer (by first | exact .inl rfl | exact .inr rfl) (by exact aP) ?_)); apply hd_res0; (focus (first | exact .inl rfl | exact .inr rfl)); rfl; exact aR)
    exact ⟨none, 0, 0, by simp [bytesM, hu]; rfl, by simp only [bytesM, hu]; exact SlR.nil _ _⟩
  have hK : kdM m.kind = true := by
    rw [rightM_eq] at hu
    simp only [Bool.and_eq_true, hdF] at hu
    exact hu.1.1.1.1.1.1.1.1.1.1
  have hbd := right_bds hu
  obtain ⟨c0, c1', c2', c3, c4, c5, c6⟩ := bits_at hK
  obtain ⟨bb0, bb1⟩ := bits_bd hK
  repeat' (first | (refine is_cx ?_ (by rfl); first | (apply hd_app81; exact aX; exact aX; exact aP; (focus exact Src.row (by exact aH)); (focus omega); (focus omega); rfl; (refine fun p2 c2 => ?_)) | refine hd_makeA (fun _ => ?_) | refine hd_litA (fun _ => ?_) | refine hd_appendA (fun _ _ => ?_) | (refine hd_cmA (Hi := [row8 _ _ _ _]) (s := by exact mesg_put2 _ (by simp only [inR]; omega) (by exact zMgD3) (by exact zMgD3)) (k := ?_); (focus (rintro _ h1 _ hle1 ⟨p1, n1, c1, rfl, hn1, rfl⟩; (simp only [List.length_append, putB_len, List.length_cons, List.length_nil] at hn1)))) | (refine hd_cA (s := by exact mesg_fields _) (k := ?_); rintro _ h2 hle2 ⟨pF, cF, rfl, hF⟩)) | (refine is_cw ?_; first | refine hd_stop1 (id := 5) ?_) | refine wMgD2 ?_ | refine wMgD3 ?_ | (refine is_cd ?_; first | refine hd_condA (fun _ => ?_) (fun _ => ?_)) | refine wMgD1 ?_ | refine wkB (fun _ => ?_) | refine wkC (fun _ _ => ?_) | exact tsA | (refine ts_step rfl (fun HF h1 hle => ?_)))
  rename_i b1 g22
  refine Stop.mk ?_
  rw [show ([.int .u8 m.kind, .int .u8 m.frm] : List Value) = vI .u8 [m.kind, m.frm] from rfl]
  repeat' (first | (refine is_cx ?_ (by rfl); first | (apply hd_app81; exact aX; exact aX; exact aP; (focus exact Src.row (by exact aH)); (focus omega); (focus omega); rfl; (refine fun p2 c2 => ?_)) | refine hd_makeA (fun _ => ?_) | refine hd_litA (fun _ => ?_) | refine hd_appendA (fun _ _ => ?_) | (refine hd_cmA (Hi := [row8 _ _ _ _]) (s := by exact mesg_put2 _ (by simp only [inR]; omega) (by exact zMgD3) (by exact zMgD3)) (k := ?_); (focus (rintro _ h1 _ hle1 ⟨p1, n1, c1, rfl, hn1, rfl⟩; (simp only [List.length_append, putB_len, List.length_cons, List.length_nil] at hn1)))) | (refine hd_cA (s := by exact mesg_fields _) (k := ?_); rintro _ h2 hle2 ⟨pF, cF, rfl, hF⟩)) | refine wMgD2 ?_ | refine wMgD3 ?_ | (refine is_cd ?_; first | refine hd_condA (fun _ => ?_) (fun _ => ?_)) | refine wMgD1 ?_ | refine wkB (fun _ => ?_) | refine wkC (fun _ _ => ?_) | exact tsA | (refine ts_step rfl (fun HF h1 hle => ?_)))
  generalize bitsM m.kind = B at *
  have hHl : (wHd m).length = 5 := by simp [wHd, putB_len]
  refine hd_loopS (ι := Nat × PH × Option Addr × Nat × Nat) (fun i => i.1 ≤ 7 ∧ h2.le i.2.1 ∧ i.2.2.2.1 = (wHd m ++ wTo m i.1).length) (fun i => [(1, [], .pointer (some ⟨b1, 0, none⟩)), (4, [], .int .u8 B), (6, [], .slice i.2.2.1 i.2.2.2.1 i.2.2.2.2), (33, [], .slice pF 7 cF), (34, [], .int .i64 7), (35, [], .int .i64 i.1)]) (fun i => [row8 i.2.2.1 i.2.2.2.1 i.2.2.2.2 (wHd m ++ wTo m i.1), box b1 [.int .u8 m.kind, .int .u8 m.frm, .int .u16 m.inc, .int .u8 m.to_, .slice a.pl a.nl a.cl, .slice a.pt a.nt a.ct, .int .u8 m.ev.1.1, .int .u16 m.ev.1.2.1, .int .u32 m.ev.1.2.2, .slice a.pv a.nv a.cv, .slice a.pd a.nd a.cd, .int .u8 m.hops, .int .u8 m.origin.1, .int .u16 m.origin.2.1, .int .u32 m.origin.2.2, .slice a.pm a.nm a.cm, .slice a.pi a.ni a.ci] 36]) (fun i => i.2.1) (fun i => 7 - i.1) (0, h2, p2, n1 + 1, c2) ⟨by simp, PH.le_refl _, by simp [wTo, hHl]; omega⟩ (by exact aU) (fun w hw => by simp only [wTo, List.append_nil]; exact inv_only (by exact aS) hw) (fun i hi => ?_)
  obtain ⟨i, hk, pp, np, cp⟩ := i
  obtain ⟨hi7, hlk, hnp⟩ := hi
  dsimp only at hi7 hlk hnp ⊢
  have hwb := wTo_bd hbd i hi7
  have hnl := hnp
  rw [List.length_append, hHl] at hnl
  have l1 := hv.list.len
  have l2 := hv.table.len
  have l3 := hv.marks.len
  have l4 := hv.ids.len
  have hle0 : h.le h2 := PH.le_trans hle1 hle2
  have h7 : i = 0 ∨ i = 1 ∨ i = 2 ∨ i = 3 ∨ i = 4 ∨ i = 5 ∨ i = 6 ∨ i = 7 := by omega
  rcases h7 with rfl | rfl | rfl | rfl | rfl | rfl | rfl | rfl
  · have hpub := (hF.mono hlk).at (i := 0) rfl
    have hptr := hF.ptr (by decide)
    have cc := c0
    refine hd_split (c := mL m.kind) (fun hu => ?_) (fun hu => ?_)
    · rw [hu] at cc
      simp only [if_true] at cc
      have hx := hbd.l hu; have hq : a.nl ≤ 255 := by omega
      have hw : wHd m ++ wTo m 1 = wHd m ++ wTo m 0 ++ wal wDesc m.list := by simp only [wTo, wfI, hu, cond_true, List.append_assoc]
      repeat' (first | (refine is_cx ?_ (by rfl); first | (refine hd_cmA (Hi := [row8 _ _ _ _]) (s := by exact list_1 _ (hv.mono (by exact aL)) hnp hq hx.2.1 (by rw [← hnp]; omega)) (k := ?_); rintro _ h5 _ hle5 ⟨p5, n5, c5', rfl, hn5, rfl⟩)) | refine wMgD2 ?_ | refine wMgD3 ?_ | (refine is_cd ?_; first | refine hd_condA (fun _ => ?_) (fun _ => ?_)) | refine wMgD4 ?_ | refine wkB (fun _ => ?_) | refine wkC (fun _ _ => ?_) | exact tsA | (refine ts_step rfl (fun HF h1 hle => ?_)))
      refine hd_again (1, h5, p5, n5, c5') ⟨by dsimp only; omega, PH.le_trans hlk hle5, by dsimp only; rw [hw]; exact hn5⟩ (by dsimp only; omega) (by exact aU) (fun w hw2 => ?_)
      dsimp only
      rw [hw]
      exact inv_only (by exact aS) hw2
    · rw [hu] at cc
      simp only [Bool.false_eq_true, if_false] at cc
      have hw : wHd m ++ wTo m 1 = wHd m ++ wTo m 0 := by simp only [wTo, wfI, hu, cond_false, List.append_nil]
      repeat' (first | (refine is_cx ?_ (by rfl); first | (refine hd_cmA (Hi := [row8 _ _ _ _]) (s := by exact list_1 _ (hv.mono (by exact aL)) hnp hq hx.2.1 (by rw [← hnp]; omega)) (k := ?_); rintro _ h5 _ hle5 ⟨p5, n5, c5', rfl, hn5, rfl⟩)) | refine wMgD2 ?_ | refine wMgD3 ?_ | (refine is_cd ?_; first | refine hd_condA (fun _ => ?_) (fun _ => ?_)) | refine wMgD4 ?_ | refine wkB (fun _ => ?_) | refine wkC (fun _ _ => ?_) | exact tsA | (refine ts_step rfl (fun HF h1 hle => ?_)))
      refine hd_again (1, hk, pp, np, cp) ⟨by dsimp only; omega, hlk, by dsimp only; rw [hw]; exact hnp⟩ (by dsimp only; omega) (by exact aU) (fun w hw2 => ?_)
      dsimp only
      rw [hw]
      exact inv_only (by exact aS) hw2
  · have hpub := (hF.mono hlk).at (i := 1) rfl
    have hptr := hF.ptr (by decide)
    have cc := c1'
    refine hd_split (c := mT m.kind) (fun hu => ?_) (fun hu => ?_)
    · rw [hu] at cc
      simp only [if_true] at cc
      have hx := hbd.t hu; have hq : a.nt ≤ 255 := by omega
      have hw : wHd m ++ wTo m 2 = wHd m ++ wTo m 1 ++ wal wMem m.table := by simp only [wTo, wfI, hu, cond_true, List.append_assoc]
      repeat' (first | (refine is_cx ?_ (by rfl); first | (refine hd_cmA (Hi := [row8 _ _ _ _]) (s := by exact table_1 _ (hv.mono (by exact aL)) hnp hq (by rw [← hnp]; omega)) (k := ?_); rintro _ h5 _ hle5 ⟨p5, n5, c5', rfl, hn5, rfl⟩)) | refine wMgD2 ?_ | refine wMgD3 ?_ | (refine is_cd ?_; first | refine hd_condA (fun _ => ?_) (fun _ => ?_)) | refine wMgD4 ?_ | refine wkB (fun _ => ?_) | refine wkC (fun _ _ => ?_) | exact tsA | (refine ts_step rfl (fun HF h1 hle => ?_)))
      refine hd_again (2, h5, p5, n5, c5') ⟨by dsimp only; omega, PH.le_trans hlk hle5, by dsimp only; rw [hw]; exact hn5⟩ (by dsimp only; omega) (by exact aU) (fun w hw2 => ?_)
      dsimp only
      rw [hw]
      exact inv_only (by exact aS) hw2
    · rw [hu] at cc
      simp only [Bool.false_eq_true, if_false] at cc
      have hw : wHd m ++ wTo m 2 = wHd m ++ wTo m 1 := by simp only [wTo, wfI, hu, cond_false, List.append_nil]
      repeat' (first | (refine is_cx ?_ (by rfl); first | (refine hd_cmA (Hi := [row8 _ _ _ _]) (s := by exact table_1 _ (hv.mono (by exact aL)) hnp hq (by rw [← hnp]; omega)) (k := ?_); rintro _ h5 _ hle5 ⟨p5, n5, c5', rfl, hn5, rfl⟩)) | refine wMgD2 ?_ | refine wMgD3 ?_ | (refine is_cd ?_; first | refine hd_condA (fun _ => ?_) (fun _ => ?_)) | refine wMgD4 ?_ | refine wkB (fun _ => ?_) | refine wkC (fun _ _ => ?_) | exact tsA | (refine ts_step rfl (fun HF h1 hle => ?_)))
      refine hd_again (2, hk, pp, np, cp) ⟨by dsimp only; omega, hlk, by dsimp only; rw [hw]; exact hnp⟩ (by dsimp only; omega) (by exact aU) (fun w hw2 => ?_)
      dsimp only
      rw [hw]
      exact inv_only (by exact aS) hw2
  · have hpub := (hF.mono hlk).at (i := 2) rfl
    have hptr := hF.ptr (by decide)
    have cc := c2'
    refine hd_split (c := mE m.kind) (fun hu => ?_) (fun hu => ?_)
    · rw [hu] at cc
      simp only [if_true] at cc
      have hx := hbd.e hu
      have hw : wHd m ++ wTo m 3 = wHd m ++ wTo m 2 ++ wEv m.ev := by simp only [wTo, wfI, hu, cond_true, List.append_assoc]
      repeat' (first | (refine is_cx ?_ (by rfl); first | (refine hd_cmA (Hi := [row8 _ _ _ _]) (s := by exact event_1 _ (hv.mono (by exact aL)) hnp hx.1 hx.2.1 (by rw [← hnp]; omega)) (k := ?_); rintro _ h5 _ hle5 ⟨p5, n5, c5', rfl, hn5, rfl⟩)) | refine wMgD2 ?_ | refine wMgD3 ?_ | (refine is_cd ?_; first | refine hd_condA (fun _ => ?_) (fun _ => ?_)) | refine wMgD4 ?_ | refine wkB (fun _ => ?_) | refine wkC (fun _ _ => ?_) | exact tsA | (refine ts_step rfl (fun HF h1 hle => ?_)))
      refine hd_again (3, h5, p5, n5, c5') ⟨by dsimp only; omega, PH.le_trans hlk hle5, by dsimp only; rw [hw]; exact hn5⟩ (by dsimp only; omega) (by exact aU) (fun w hw2 => ?_)
      dsimp only
      rw [hw]
      exact inv_only (by exact aS) hw2
    · rw [hu] at cc
      simp only [Bool.false_eq_true, if_false] at cc
      have hw : wHd m ++ wTo m 3 = wHd m ++ wTo m 2 := by simp only [wTo, wfI, hu, cond_false, List.append_nil]
      repeat' (first | (refine is_cx ?_ (by rfl); first | (refine hd_cmA (Hi := [row8 _ _ _ _]) (s := by exact event_1 _ (hv.mono (by exact aL)) hnp hx.1 hx.2.1 (by rw [← hnp]; omega)) (k := ?_); rintro _ h5 _ hle5 ⟨p5, n5, c5', rfl, hn5, rfl⟩)) | refine wMgD2 ?_ | refine wMgD3 ?_ | (refine is_cd ?_; first | refine hd_condA (fun _ => ?_) (fun _ => ?_)) | refine wMgD4 ?_ | refine wkB (fun _ => ?_) | refine wkC (fun _ _ => ?_) | exact tsA | (refine ts_step rfl (fun HF h1 hle => ?_)))
      refine hd_again (3, hk, pp, np, cp) ⟨by dsimp only; omega, hlk, by dsimp only; rw [hw]; exact hnp⟩ (by dsimp only; omega) (by exact aU) (fun w hw2 => ?_)
      dsimp only
      rw [hw]
      exact inv_only (by exact aS) hw2
  · have hpub := (hF.mono hlk).at (i := 3) rfl
    have hptr := hF.ptr (by decide)
    have cc := c3
    refine hd_split (c := mH m.kind) (fun hu => ?_) (fun hu => ?_)
    · rw [hu] at cc
      simp only [if_true] at cc
      skip
      have hw : wHd m ++ wTo m 4 = wHd m ++ wTo m 3 ++ [m.hops] := by simp only [wTo, wfI, hu, cond_true, List.append_assoc]
      repeat' (first | (refine is_cx ?_ (by rfl); first | (refine hd_cmA (Hi := [row8 _ _ _ _]) (s := by exact hops_1 _ (hv.mono (by exact aL)) hnp (by rw [← hnp]; omega)) (k := ?_); rintro _ h5 _ hle5 ⟨p5, n5, c5', rfl, hn5, rfl⟩)) | refine wMgD2 ?_ | refine wMgD3 ?_ | (refine is_cd ?_; first | refine hd_condA (fun _ => ?_) (fun _ => ?_)) | refine wMgD4 ?_ | refine wkB (fun _ => ?_) | refine wkC (fun _ _ => ?_) | exact tsA | (refine ts_step rfl (fun HF h1 hle => ?_)))
      refine hd_again (4, h5, p5, n5, c5') ⟨by dsimp only; omega, PH.le_trans hlk hle5, by dsimp only; rw [hw]; exact hn5⟩ (by dsimp only; omega) (by exact aU) (fun w hw2 => ?_)
      dsimp only
      rw [hw]
      exact inv_only (by exact aS) hw2
    · rw [hu] at cc
      simp only [Bool.false_eq_true, if_false] at cc
      have hw : wHd m ++ wTo m 4 = wHd m ++ wTo m 3 := by simp only [wTo, wfI, hu, cond_false, List.append_nil]
      repeat' (first | (refine is_cx ?_ (by rfl); first | (refine hd_cmA (Hi := [row8 _ _ _ _]) (s := by exact hops_1 _ (hv.mono (by exact aL)) hnp (by rw [← hnp]; omega)) (k := ?_); rintro _ h5 _ hle5 ⟨p5, n5, c5', rfl, hn5, rfl⟩)) | refine wMgD2 ?_ | refine wMgD3 ?_ | (refine is_cd ?_; first | refine hd_condA (fun _ => ?_) (fun _ => ?_)) | refine wMgD4 ?_ | refine wkB (fun _ => ?_) | refine wkC (fun _ _ => ?_) | exact tsA | (refine ts_step rfl (fun HF h1 hle => ?_)))
      refine hd_again (4, hk, pp, np, cp) ⟨by dsimp only; omega, hlk, by dsimp only; rw [hw]; exact hnp⟩ (by dsimp only; omega) (by exact aU) (fun w hw2 => ?_)
      dsimp only
      rw [hw]
      exact inv_only (by exact aS) hw2
  · have hpub := (hF.mono hlk).at (i := 4) rfl
    have hptr := hF.ptr (by decide)
    have cc := c4
    refine hd_split (c := mO m.kind) (fun hu => ?_) (fun hu => ?_)
    · rw [hu] at cc
      simp only [if_true] at cc
      skip
      have hw : wHd m ++ wTo m 5 = wHd m ++ wTo m 4 ++ wMark m.origin := by simp only [wTo, wfI, hu, cond_true, List.append_assoc]
      repeat' (first | (refine is_cx ?_ (by rfl); first | (refine hd_cmA (Hi := [row8 _ _ _ _]) (s := by exact origin_1 _ (hv.mono (by exact aL)) hnp (by rw [← hnp]; omega)) (k := ?_); rintro _ h5 _ hle5 ⟨p5, n5, c5', rfl, hn5, rfl⟩)) | refine wMgD2 ?_ | refine wMgD3 ?_ | (refine is_cd ?_; first | refine hd_condA (fun _ => ?_) (fun _ => ?_)) | refine wMgD4 ?_ | refine wkB (fun _ => ?_) | refine wkC (fun _ _ => ?_) | exact tsA | (refine ts_step rfl (fun HF h1 hle => ?_)))
      refine hd_again (5, h5, p5, n5, c5') ⟨by dsimp only; omega, PH.le_trans hlk hle5, by dsimp only; rw [hw]; exact hn5⟩ (by dsimp only; omega) (by exact aU) (fun w hw2 => ?_)
      dsimp only
      rw [hw]
      exact inv_only (by exact aS) hw2
    · rw [hu] at cc
      simp only [Bool.false_eq_true, if_false] at cc
      have hw : wHd m ++ wTo m 5 = wHd m ++ wTo m 4 := by simp only [wTo, wfI, hu, cond_false, List.append_nil]
      repeat' (first | (refine is_cx ?_ (by rfl); first | (refine hd_cmA (Hi := [row8 _ _ _ _]) (s := by exact origin_1 _ (hv.mono (by exact aL)) hnp (by rw [← hnp]; omega)) (k := ?_); rintro _ h5 _ hle5 ⟨p5, n5, c5', rfl, hn5, rfl⟩)) | refine wMgD2 ?_ | refine wMgD3 ?_ | (refine is_cd ?_; first | refine hd_condA (fun _ => ?_) (fun _ => ?_)) | refine wMgD4 ?_ | refine wkB (fun _ => ?_) | refine wkC (fun _ _ => ?_) | exact tsA | (refine ts_step rfl (fun HF h1 hle => ?_)))
      refine hd_again (5, hk, pp, np, cp) ⟨by dsimp only; omega, hlk, by dsimp only; rw [hw]; exact hnp⟩ (by dsimp only; omega) (by exact aU) (fun w hw2 => ?_)
      dsimp only
      rw [hw]
      exact inv_only (by exact aS) hw2
  · have hpub := (hF.mono hlk).at (i := 5) rfl
    have hptr := hF.ptr (by decide)
    have cc := c5
    refine hd_split (c := mO m.kind) (fun hu => ?_) (fun hu => ?_)
    · rw [hu] at cc
      simp only [if_true] at cc
      have hx := hbd.ms hu; have hq : a.nm ≤ 255 := by omega
      have hw : wHd m ++ wTo m 6 = wHd m ++ wTo m 5 ++ wal wMark m.marks := by simp only [wTo, wfI, hu, cond_true, List.append_assoc]
      repeat' (first | (refine is_cx ?_ (by rfl); first | (refine hd_cmA (Hi := [row8 _ _ _ _]) (s := by exact marks_1 _ (hv.mono (by exact aL)) hnp hq (by rw [← hnp]; omega)) (k := ?_); rintro _ h5 _ hle5 ⟨p5, n5, c5', rfl, hn5, rfl⟩)) | refine wMgD2 ?_ | refine wMgD3 ?_ | (refine is_cd ?_; first | refine hd_condA (fun _ => ?_) (fun _ => ?_)) | refine wMgD4 ?_ | refine wkB (fun _ => ?_) | refine wkC (fun _ _ => ?_) | exact tsA | (refine ts_step rfl (fun HF h1 hle => ?_)))
      refine hd_again (6, h5, p5, n5, c5') ⟨by dsimp only; omega, PH.le_trans hlk hle5, by dsimp only; rw [hw]; exact hn5⟩ (by dsimp only; omega) (by exact aU) (fun w hw2 => ?_)
      dsimp only
      rw [hw]
      exact inv_only (by exact aS) hw2
    · rw [hu] at cc
      simp only [Bool.false_eq_true, if_false] at cc
      have hw : wHd m ++ wTo m 6 = wHd m ++ wTo m 5 := by simp only [wTo, wfI, hu, cond_false, List.append_nil]
      repeat' (first | (refine is_cx ?_ (by rfl); first | (refine hd_cmA (Hi := [row8 _ _ _ _]) (s := by exact marks_1 _ (hv.mono (by exact aL)) hnp hq (by rw [← hnp]; omega)) (k := ?_); rintro _ h5 _ hle5 ⟨p5, n5, c5', rfl, hn5, rfl⟩)) | refine wMgD2 ?_ | refine wMgD3 ?_ | (refine is_cd ?_; first | refine hd_condA (fun _ => ?_) (fun _ => ?_)) | refine wMgD4 ?_ | refine wkB (fun _ => ?_) | refine wkC (fun _ _ => ?_) | exact tsA | (refine ts_step rfl (fun HF h1 hle => ?_)))
      refine hd_again (6, hk, pp, np, cp) ⟨by dsimp only; omega, hlk, by dsimp only; rw [hw]; exact hnp⟩ (by dsimp only; omega) (by exact aU) (fun w hw2 => ?_)
      dsimp only
      rw [hw]
      exact inv_only (by exact aS) hw2
  · have hpub := (hF.mono hlk).at (i := 6) rfl
    have hptr := hF.ptr (by decide)
    have cc := c6
    refine hd_split (c := mJ m.kind) (fun hu => ?_) (fun hu => ?_)
    · rw [hu] at cc
      simp only [if_true] at cc
      have hx := hbd.is_ hu; have hq : a.ni ≤ 255 := by omega
      have hw : wHd m ++ wTo m 7 = wHd m ++ wTo m 6 ++ wal wMark m.ids := by simp only [wTo, wfI, hu, cond_true, List.append_assoc]
      repeat' (first | (refine is_cx ?_ (by rfl); first | (refine hd_cmA (Hi := [row8 _ _ _ _]) (s := by exact ids_1 _ (hv.mono (by exact aL)) hnp hq (by rw [← hnp]; omega)) (k := ?_); rintro _ h5 _ hle5 ⟨p5, n5, c5', rfl, hn5, rfl⟩)) | refine wMgD2 ?_ | refine wMgD3 ?_ | (refine is_cd ?_; first | refine hd_condA (fun _ => ?_) (fun _ => ?_)) | refine wMgD4 ?_ | refine wkB (fun _ => ?_) | refine wkC (fun _ _ => ?_) | exact tsA | (refine ts_step rfl (fun HF h1 hle => ?_)))
      refine hd_again (7, h5, p5, n5, c5') ⟨by dsimp only; omega, PH.le_trans hlk hle5, by dsimp only; rw [hw]; exact hn5⟩ (by dsimp only; omega) (by exact aU) (fun w hw2 => ?_)
      dsimp only
      rw [hw]
      exact inv_only (by exact aS) hw2
    · rw [hu] at cc
      simp only [Bool.false_eq_true, if_false] at cc
      have hw : wHd m ++ wTo m 7 = wHd m ++ wTo m 6 := by simp only [wTo, wfI, hu, cond_false, List.append_nil]
      repeat' (first | (refine is_cx ?_ (by rfl); first | (refine hd_cmA (Hi := [row8 _ _ _ _]) (s := by exact ids_1 _ (hv.mono (by exact aL)) hnp hq (by rw [← hnp]; omega)) (k := ?_); rintro _ h5 _ hle5 ⟨p5, n5, c5', rfl, hn5, rfl⟩)) | refine wMgD2 ?_ | refine wMgD3 ?_ | (refine is_cd ?_; first | refine hd_condA (fun _ => ?_) (fun _ => ?_)) | refine wMgD4 ?_ | refine wkB (fun _ => ?_) | refine wkC (fun _ _ => ?_) | exact tsA | (refine ts_step rfl (fun HF h1 hle => ?_)))
      refine hd_again (7, hk, pp, np, cp) ⟨by dsimp only; omega, hlk, by dsimp only; rw [hw]; exact hnp⟩ (by dsimp only; omega) (by exact aU) (fun w hw2 => ?_)
      dsimp only
      rw [hw]
      exact inv_only (by exact aS) hw2
  · repeat' (first | (refine is_cw ?_; first | refine hd_stop1 (id := 13) ?_) | refine wMgD2 ?_ | refine wMgD3 ?_ | (refine is_cd ?_; first | refine hd_condA (fun _ => ?_) (fun _ => ?_)) | refine wMgD4 ?_ | refine wkB (fun _ => ?_) | refine wkC (fun _ _ => ?_) | exact tsA | (refine ts_step rfl (fun HF h1 hle => ?_)))
    refine Stop.mk ?_
    have hwm := wMsg_eq hv.r
    have hb8 := wMsg_b8 hv.r hu
    rw [hwm] at hb8
    refine hd_pubI (k := .u8) (wHd m ++ wTo m 7) (by exact aP) rfl hb8 hnp.symm (by omega) (fun h6 hle6 hbs => ?_)
    repeat' (first | (refine is_cx ?_ (by rfl); first | (refine hd_cnA (s := by exact crc_Seal _ hbs (by omega)) (k := ?_); rintro _ h7 _ hle7 ⟨p7, m7, c7, rfl, hm7, rfl⟩)) | refine wMgD2 ?_ | refine wMgD3 ?_ | (refine is_cd ?_; first | refine hd_condA (fun _ => ?_) (fun _ => ?_)) | refine wMgD4 ?_ | refine wkB (fun _ => ?_) | refine wkC (fun _ _ => ?_) | exact tsA | (refine ts_step rfl (fun HF h1 hle => ?_)))
    refine hd_pubN (r := rInt .u8) (hb := h) (p := p7) (by exact aL) (elI .u8 (sealB (wHd m ++ wTo m 7))) (sealB (wHd m ++ wTo m 7)) (by exact aP) (elI_flat _ _).symm (All2.of_map fun x hx => ⟨rfl, sealB_b8 hb8 x hx⟩) hm7.symm (by rw [hm7, sealB_len]; omega) (fun h8 hle8 hs8 => ?_)
    ((repeat (refine hd_undefer (by first | exact .inl rfl | exact .inr rfl) (by exact aP) ?_)); apply hd_res0; (focus (first | exact .inl rfl | exact .inr rfl)); rfl; exact aR)
    refine ⟨p7, m7, c7, by simp only [bytesM, hu, if_true]; rfl, ?_⟩
    simp only [bytesM, hu, if_true, hwm]
    exact hs8
end Go.Proofs.YtmpfeaoofkkhjaaGreat
