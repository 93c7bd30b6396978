/- mesg.Parse. Printed by a generator that was lost; edit this text. -/
import Derived.Test.YtmpfeaoofkkhjaaGreatMgY
namespace Go.Proofs.YtmpfeaoofkkhjaaGreat
open Go Go.GV
attribute [local irreducible] cw Go.GV.SpecM Go.GV.wpList Exit.then Exit.inBlock Go.GV.bodyPost wpPl wpPm wpPn TS rnd rPost YieldsB wpPT ptK
set_option maxRecDepth 10000
set_option maxHeartbeats 8000000
set_option linter.unusedVariables false
set_option linter.unusedSimpArgs false
def parseB (bs : List Int) : MsD × Int := if openE bs ≠ 0 then (MsD.zero, openE bs) else parseM (openB bs)
def aP0 : MsP := ⟨none, 0, 0, none, 0, 0, none, 0, 0, none, 0, 0, none, 0, 0, none, 0, 0⟩
theorem v0P (h : PH) {k fr ic t : Int} (h1 : inR .u8 k) (h2 : inR .u8 fr) (h3 : inR .u16 ic) (h4 : inR .u8 t) : VMsP h aP0 (msH k fr ic t) :=
  ⟨SlR.nil _ _, SlR.nil _ _, SlR.nil _ _, SlR.nil _ _, SlR.nil _ _, SlR.nil _ _, ⟨h1, h2, h3, h4, by simp [msH], by simp [msH], EvR.zero, by simp [msH, inR], MkR.zero, by simp [msH], by simp [msH]⟩⟩

theorem pvMgZ1 {A : Prop} (h : A := by (first | rfl | assumption | (rw [hu]; rfl) | (simp only [decide_eq_true_eq, decide_eq_false_iff_not, beq_eq_false_iff_ne, beq_iff_eq, bne_iff_ne, bne_eq_false_iff_eq]; omega) | fail)) : A := h
theorem nvMgZ1 {A : Prop} (h : A := by (first | decide | (rw [hu]; decide) | fail)) : A := h
theorem SlR_ex {α : Type} {r : Rp α} {h : PH} {p : Option Addr} {n c : Nat} {xs : List α} (hs : SlR r h p n c xs) {x : α} (hx : x ∈ xs) : ∃ cs, r.ok h cs x := by
  obtain ⟨i, hi⟩ := List.mem_iff_getElem?.1 hx
  obtain ⟨cs, _, h2, _⟩ := hs.at hi
  exact ⟨cs, h2⟩
theorem SlD_in {h : PH} {p : Option Addr} {n c : Nat} {xs : List DsT} (hs : SlD h p n c xs) : ∀ x ∈ xs, DsR x := fun x hx => by
  obtain ⟨cs, h1⟩ := SlR_ex hs hx
  obtain ⟨_, _, _, _, h2, h3, h4, h5⟩ := rDs_ok h1
  exact ⟨h3, h4, h5, SlS_in h2⟩
theorem SlM_in {h : PH} {p : Option Addr} {n c : Nat} {xs : List Mk} (hs : SlM h p n c xs) : ∀ x ∈ xs, MmR x := fun x hx => by
  obtain ⟨cs, h1⟩ := SlR_ex hs hx
  exact (rMm_ok h1).2
theorem SlK_in {h : PH} {p : Option Addr} {n c : Nat} {xs : List Mk} (hs : SlK h p n c xs) : ∀ x ∈ xs, MkR x := fun x hx => by
  obtain ⟨cs, h1⟩ := SlR_ex hs hx
  exact (rID_ok h1).2
theorem Rds.fail {α : Type} (o : Option (List Int)) (x : α) : Rds o (fun _ => none) none x := by
  cases o with
  | none => exact ⟨rfl, fun y r h => by cases h⟩
  | some b => exact ⟨rfl, fun y r h => by cases h⟩
theorem parseM_none {b : List Int} {m : MsD} (h : Rds (some b) pMsg none m) : parseM b = (MsD.zero, 10) := by
  have h1 := h.rest
  simp only [Option.bind_some] at h1
  unfold parseM
  cases e : pMsg b with
  | none => rfl
  | some q => rw [e] at h1; cases h1
theorem parseM_some {b r : List Int} {m : MsD} (h : Rds (some b) pMsg (some r) m) : parseM b = if r = [] then (if rightM m then (m, 0) else (MsD.zero, 200)) else (MsD.zero, 10) := by
  have h1 := h.rest
  have h2 := h.val
  simp only [Option.bind_some] at h1 h2
  unfold parseM
  cases e : pMsg b with
  | none => rw [e] at h1; cases h1
  | some q =>
    obtain ⟨y, r'⟩ := q
    rw [e] at h1
    simp only [Option.map_some, Option.some.injEq] at h1
    subst h1
    rw [h2 y r' e]
theorem pMsg_good {b : List Int} {o1 o2 o3 o4 o5 : Option (List Int)} {k fr ic t : Int} {m : MsD} (h1 : Rds (some b) (rdN true 1) o1 k) (h2 : Rds o1 (rdN true 1) o2 fr) (h3 : Rds o2 (rdN true 2) o3 ic) (h4 : Rds o3 (rdN true 1) o4 t) (hk : kdM k = true) (h5 : Rds o4 (pAt k (msH k fr ic t) 7) o5 m) : Rds (some b) pMsg o5 m := by
  rw [pMsg_at]
  exact h1.bind (h2.bind (h3.bind (h4.bind (by rw [if_pos hk]; exact h5))))
theorem pMsg_bad {b : List Int} {o1 o2 o3 o4 : Option (List Int)} {k fr ic t : Int} (h1 : Rds (some b) (rdN true 1) o1 k) (h2 : Rds o1 (rdN true 1) o2 fr) (h3 : Rds o2 (rdN true 2) o3 ic) (h4 : Rds o3 (rdN true 1) o4 t) (hk : kdM k = false) : Rds (some b) pMsg none MsD.zero := by
  rw [pMsg_at]
  exact h1.bind (h2.bind (h3.bind (h4.bind (by rw [if_neg (by rw [hk]; decide)]; exact Rds.fail _ _))))
theorem pF_on0 {k : Int} {m : MsD} {o o' : Option (List Int)} {x : List DsT} (hu : mL k = true) (h : Rds o (pal pDesc) o' x) : Rds o (pF k m 0) o' { m with list := x } := by
  show Rds o (pbi (pif (mL k) (pal pDesc) []) fun y => pu { m with list := y }) o' _
  rw [hu]
  exact Rds.bind (Rds.take _ h) (Rds.pu _ _)
theorem pF_off0 {k : Int} {m : MsD} {o : Option (List Int)} (hu : mL k = false) (hz : m.list = []) : Rds o (pF k m 0) o m := by
  have e : ({ m with list := [] } : MsD) = m := by cases m; simp only at hz; subst hz; rfl
  show Rds o (pbi (pif (mL k) (pal pDesc) []) fun y => pu { m with list := y }) o _
  rw [hu]
  exact Rds.bind (Rds.skip _) (by rw [e]; exact Rds.pu _ _)
theorem pF_on1 {k : Int} {m : MsD} {o o' : Option (List Int)} {x : List Mk} (hu : mT k = true) (h : Rds o (pal pMem) o' x) : Rds o (pF k m 1) o' { m with table := x } := by
  show Rds o (pbi (pif (mT k) (pal pMem) []) fun y => pu { m with table := y }) o' _
  rw [hu]
  exact Rds.bind (Rds.take _ h) (Rds.pu _ _)
theorem pF_off1 {k : Int} {m : MsD} {o : Option (List Int)} (hu : mT k = false) (hz : m.table = []) : Rds o (pF k m 1) o m := by
  have e : ({ m with table := [] } : MsD) = m := by cases m; simp only at hz; subst hz; rfl
  show Rds o (pbi (pif (mT k) (pal pMem) []) fun y => pu { m with table := y }) o _
  rw [hu]
  exact Rds.bind (Rds.skip _) (by rw [e]; exact Rds.pu _ _)
theorem pF_on2 {k : Int} {m : MsD} {o o' : Option (List Int)} {x : EvD} (hu : mE k = true) (h : Rds o (pEv) o' x) : Rds o (pF k m 2) o' { m with ev := x } := by
  show Rds o (pbi (pif (mE k) (pEv) ev0) fun y => pu { m with ev := y }) o' _
  rw [hu]
  exact Rds.bind (Rds.take _ h) (Rds.pu _ _)
theorem pF_off2 {k : Int} {m : MsD} {o : Option (List Int)} (hu : mE k = false) (hz : m.ev = ev0) : Rds o (pF k m 2) o m := by
  have e : ({ m with ev := ev0 } : MsD) = m := by cases m; simp only at hz; subst hz; rfl
  show Rds o (pbi (pif (mE k) (pEv) ev0) fun y => pu { m with ev := y }) o _
  rw [hu]
  exact Rds.bind (Rds.skip _) (by rw [e]; exact Rds.pu _ _)
theorem pF_on3 {k : Int} {m : MsD} {o o' : Option (List Int)} {x : Int} (hu : mH k = true) (h : Rds o (rdN true 1) o' x) : Rds o (pF k m 3) o' { m with hops := x } := by
  show Rds o (pbi (pif (mH k) (rdN true 1) 0) fun y => pu { m with hops := y }) o' _
  rw [hu]
  exact Rds.bind (Rds.take _ h) (Rds.pu _ _)
theorem pF_off3 {k : Int} {m : MsD} {o : Option (List Int)} (hu : mH k = false) (hz : m.hops = 0) : Rds o (pF k m 3) o m := by
  have e : ({ m with hops := 0 } : MsD) = m := by cases m; simp only at hz; subst hz; rfl
  show Rds o (pbi (pif (mH k) (rdN true 1) 0) fun y => pu { m with hops := y }) o _
  rw [hu]
  exact Rds.bind (Rds.skip _) (by rw [e]; exact Rds.pu _ _)
theorem pF_on4 {k : Int} {m : MsD} {o o' : Option (List Int)} {x : Mk} (hu : mO k = true) (h : Rds o (pMark) o' x) : Rds o (pF k m 4) o' { m with origin := x } := by
  show Rds o (pbi (pif (mO k) (pMark) mk0) fun y => pu { m with origin := y }) o' _
  rw [hu]
  exact Rds.bind (Rds.take _ h) (Rds.pu _ _)
theorem pF_off4 {k : Int} {m : MsD} {o : Option (List Int)} (hu : mO k = false) (hz : m.origin = mk0) : Rds o (pF k m 4) o m := by
  have e : ({ m with origin := mk0 } : MsD) = m := by cases m; simp only at hz; subst hz; rfl
  show Rds o (pbi (pif (mO k) (pMark) mk0) fun y => pu { m with origin := y }) o _
  rw [hu]
  exact Rds.bind (Rds.skip _) (by rw [e]; exact Rds.pu _ _)
theorem pF_on5 {k : Int} {m : MsD} {o o' : Option (List Int)} {x : List Mk} (hu : mO k = true) (h : Rds o (pal pMark) o' x) : Rds o (pF k m 5) o' { m with marks := x } := by
  show Rds o (pbi (pif (mO k) (pal pMark) []) fun y => pu { m with marks := y }) o' _
  rw [hu]
  exact Rds.bind (Rds.take _ h) (Rds.pu _ _)
theorem pF_off5 {k : Int} {m : MsD} {o : Option (List Int)} (hu : mO k = false) (hz : m.marks = []) : Rds o (pF k m 5) o m := by
  have e : ({ m with marks := [] } : MsD) = m := by cases m; simp only at hz; subst hz; rfl
  show Rds o (pbi (pif (mO k) (pal pMark) []) fun y => pu { m with marks := y }) o _
  rw [hu]
  exact Rds.bind (Rds.skip _) (by rw [e]; exact Rds.pu _ _)
theorem pF_on6 {k : Int} {m : MsD} {o o' : Option (List Int)} {x : List Mk} (hu : mJ k = true) (h : Rds o (pal pMark) o' x) : Rds o (pF k m 6) o' { m with ids := x } := by
  show Rds o (pbi (pif (mJ k) (pal pMark) []) fun y => pu { m with ids := y }) o' _
  rw [hu]
  exact Rds.bind (Rds.take _ h) (Rds.pu _ _)
theorem pF_off6 {k : Int} {m : MsD} {o : Option (List Int)} (hu : mJ k = false) (hz : m.ids = []) : Rds o (pF k m 6) o m := by
  have e : ({ m with ids := [] } : MsD) = m := by cases m; simp only at hz; subst hz; rfl
  show Rds o (pbi (pif (mJ k) (pal pMark) []) fun y => pu { m with ids := y }) o _
  rw [hu]
  exact Rds.bind (Rds.skip _) (by rw [e]; exact Rds.pu _ _)
/-- What is not read yet is nothing. -/
structure Unr (i : Nat) (m : MsD) : Prop where
  z0 : i ≤ 0 → m.list = []
  z1 : i ≤ 1 → m.table = []
  z2 : i ≤ 2 → m.ev = ev0
  z3 : i ≤ 3 → m.hops = 0
  z4 : i ≤ 4 → m.origin = mk0
  z5 : i ≤ 5 → m.marks = []
  z6 : i ≤ 6 → m.ids = []
theorem Unr.next {i : Nat} {m : MsD} (h : Unr i m) : Unr (i + 1) m := ⟨fun e => h.z0 (by omega), fun e => h.z1 (by omega), fun e => h.z2 (by omega), fun e => h.z3 (by omega), fun e => h.z4 (by omega), fun e => h.z5 (by omega), fun e => h.z6 (by omega)⟩
theorem Unr.on0 {m : MsD} {x : List DsT} (h : Unr 0 m) : Unr 1 { m with list := x } := ⟨fun e => absurd e (by omega), fun e => h.z1 (by omega), fun e => h.z2 (by omega), fun e => h.z3 (by omega), fun e => h.z4 (by omega), fun e => h.z5 (by omega), fun e => h.z6 (by omega)⟩
theorem Unr.on1 {m : MsD} {x : List Mk} (h : Unr 1 m) : Unr 2 { m with table := x } := ⟨fun e => h.z0 (by omega), fun e => absurd e (by omega), fun e => h.z2 (by omega), fun e => h.z3 (by omega), fun e => h.z4 (by omega), fun e => h.z5 (by omega), fun e => h.z6 (by omega)⟩
theorem Unr.on2 {m : MsD} {x : EvD} (h : Unr 2 m) : Unr 3 { m with ev := x } := ⟨fun e => h.z0 (by omega), fun e => h.z1 (by omega), fun e => absurd e (by omega), fun e => h.z3 (by omega), fun e => h.z4 (by omega), fun e => h.z5 (by omega), fun e => h.z6 (by omega)⟩
theorem Unr.on3 {m : MsD} {x : Int} (h : Unr 3 m) : Unr 4 { m with hops := x } := ⟨fun e => h.z0 (by omega), fun e => h.z1 (by omega), fun e => h.z2 (by omega), fun e => absurd e (by omega), fun e => h.z4 (by omega), fun e => h.z5 (by omega), fun e => h.z6 (by omega)⟩
theorem Unr.on4 {m : MsD} {x : Mk} (h : Unr 4 m) : Unr 5 { m with origin := x } := ⟨fun e => h.z0 (by omega), fun e => h.z1 (by omega), fun e => h.z2 (by omega), fun e => h.z3 (by omega), fun e => absurd e (by omega), fun e => h.z5 (by omega), fun e => h.z6 (by omega)⟩
theorem Unr.on5 {m : MsD} {x : List Mk} (h : Unr 5 m) : Unr 6 { m with marks := x } := ⟨fun e => h.z0 (by omega), fun e => h.z1 (by omega), fun e => h.z2 (by omega), fun e => h.z3 (by omega), fun e => h.z4 (by omega), fun e => absurd e (by omega), fun e => h.z6 (by omega)⟩
theorem Unr.on6 {m : MsD} {x : List Mk} (h : Unr 6 m) : Unr 7 { m with ids := x } := ⟨fun e => h.z0 (by omega), fun e => h.z1 (by omega), fun e => h.z2 (by omega), fun e => h.z3 (by omega), fun e => h.z4 (by omega), fun e => h.z5 (by omega), fun e => absurd e (by omega)⟩
theorem errP {h h' : PH} {bs : List Int} {v : Value} {e : Int} (hp : parseB bs = (MsD.zero, e)) (hv : v = .tuple #[.agg (aP0.cs MsD.zero).toArray, .int .i64 e]) : ∃ a : MsP, v = .tuple #[.agg (a.cs (parseB bs).1).toArray, .int .i64 (parseB bs).2] ∧ VMsP (PH.new h h') a (parseB bs).1 := by
  rw [hp]
  exact ⟨aP0, hv, v0P _ (by simp [inR]) (by simp [inR]) (by simp [inR]) (by simp [inR])⟩
theorem zMgZ1 {A : Prop} (h : A := by ((first | (apply OK.plain; rfl; apply OD.of) | (apply OKp.plain; rfl)); (first | (apply od_pickX; exact aX; exact pvMgZ1; exact aX) | (apply od_pickY; exact aX; exact pvMgZ1; exact aX)))) : A := h
theorem zMgZ2 {A : Prop} (h : A := by ((first | (apply OK.plain; rfl; apply OD.of) | (apply OKp.plain; rfl)); (first | (apply od_nil; exact aX) | (apply od_cv; exact aX; (focus (simp only [inR]; omega)))))) : A := h
theorem zMgZ3 {A : Prop} (h : A := by ((first | (apply OK.plain; rfl) | (apply OK.guarded; rfl; rfl; (intro hg; (try have hk := hg.2); (try have hl := hg.2.2); (try have hm := hg.2.2.2)))); (first | (apply od_call; exact aX; infer_instance; exact aE; exact aN; (focus (first | exact mesg_fieldsOf _ _ | exact mesg_Right _ (hVk.mono (PH.new_le _ _))))) ))) : A := h
theorem wMgZ1 {A B : Prop} (k : B) (h : Kx B → A := by intro k; (first | (refine is_pu ?_ (by rfl); first | (apply hd_gon; rfl; rfl; (focus (constructor; exact pvMgZ1; trivial))) | (apply hd_goff; rfl; rfl; (focus exact fun hs => absurd hs.1 (by exact nvMgZ1)); rfl) | (apply hd_gundef; rfl; rfl; rfl) | ((first | apply hd_ok | apply ch_ok | (apply hd_pn_run; rfl; exact aM)); (focus ((first | (apply OK.plain; rfl) | (apply OK.guarded; rfl; rfl; (intro hg))); apply OD.of; apply od_and1; exact aX; exact aX; (focus omega); (focus omega); exact cc)); rfl; rfl) | refine hd_opAB ?_ | ((first | apply hd_ok | apply ch_ok | (apply hd_pn_run; rfl; exact aM)); (focus exact zMgZ2); rfl; rfl) | ((first | apply hd_ok | apply ch_ok | (apply hd_pn_run; rfl; exact aM)); (focus exact zMgZ1); rfl; rfl)) | (refine is_pn ?_; first | refine hd_pn_nil ?_ | ((first | apply hd_ok | apply ch_ok | (apply hd_pn_run; rfl; exact aM)); (focus ((first | (apply OK.plain; rfl) | (apply OK.guarded; rfl; rfl; (intro hg))); apply OD.of; apply od_and1; exact aX; exact aX; (focus omega); (focus omega); exact cc)); rfl; rfl) | refine hd_pnAB ?_ | ((first | apply hd_ok | apply ch_ok | (apply hd_pn_run; rfl; exact aM)); (focus exact zMgZ2); rfl; rfl) | ((first | apply hd_ok | apply ch_ok | (apply hd_pn_run; rfl; exact aM)); (focus exact zMgZ1); rfl; rfl) | (refine hd_pn_op rfl ?_)) | (refine is_co ?_; first | (apply hd_gon; rfl; rfl; (focus (constructor; exact pvMgZ1; trivial))) | (apply hd_goff; rfl; rfl; (focus exact fun hs => absurd hs.1 (by exact nvMgZ1)); rfl) | (apply hd_gundef; rfl; rfl; rfl) | ((first | apply hd_ok | apply ch_ok); (focus exact zMgZ3); rfl; rfl) | refine hd_storeA ?_ | refine hd_copyA ?_) | (refine is_ni ?_; first | (refine is_on ?_; first | refine pn_barA ?_ | refine pn_goA ?_ | refine pt_goA ?_ | refine ts_onA ?_) | refine hd_nil ?_) | refine wkA ?_ | (refine is_ch ?_; refine ch_opAB ?_) | ((first | apply hd_ok | apply ch_ok); (focus exact zMgZ3); rfl; rfl) | ((first | apply hd_ok | apply ch_ok | (apply hd_pn_run; rfl; exact aM)); (focus exact zMgZ2); rfl; rfl) | ((first | apply hd_ok | apply ch_ok | (apply hd_pn_run; rfl; exact aM)); (focus exact zMgZ1); rfl; rfl)); exact k.go) : A := h ⟨k⟩
theorem wMgZ2 {A B : Prop} (k : B) (h : Kx B → A := by intro k; ((refine is_cw ?_; refine is_rg ?_; first | refine hd_draw follows_any (by decide +kernel) ?_)); exact k.go) : A := h ⟨k⟩
theorem wMgZ3 {A B : Prop} (k : B) (h : Kx B → A := by intro k; ((refine is_cw ?_; refine is_cd ?_; first | (refine hd_condT (by exact aX) (by exact pvMgZ1) ?_) | (refine hd_condF (by exact aX) (by exact pvMgZ1) ?_))); exact k.go) : A := h ⟨k⟩
theorem mesg_Parse {p : Option Addr} {n c : Nat} {bs : List Int} (h : PH) (hs : Bs h p n c bs) (hn : n ≤ 60000) : GV.Spec Tryz.prog 15 #[.slice p n c] h fun v h' => ∃ a : MsP, v = .tuple #[.agg (a.cs (parseB bs).1).toArray, .int .i64 (parseB bs).2] ∧ VMsP (PH.new h h') a (parseB bs).1 := by
  have hl := hs.len
  have hol := openB_len bs
  have hon : (openB bs).length ≤ 60000 := by omega
  refine spec_enter (args := [_]) Tryz.func15 rfl Tryz.ntmps15 rfl (fun w l => ?_)
  refine hd_split (c := decide (openE bs = 0)) (fun hu0 => ?_) (fun hu0 => ?_)
  rotate_left
  · simp only [decide_eq_false_iff_not] at hu0
    have hu := True.intro
    repeat' (first | (refine is_cx ?_ (by rfl); first | (refine hd_cA (s := by exact crc_OpenP _ hs (by omega)) (k := ?_); rintro _ h0 hle0 ⟨p0, c0, rfl, hs0⟩)) | refine wMgZ2 ?_ | refine wMgZ3 ?_ | (refine is_cd ?_; first | refine hd_condA (fun _ => ?_) (fun _ => ?_)) | refine wMgZ1 ?_ | refine wkB (fun _ => ?_) | refine wkC (fun _ _ => ?_) | exact tsA | (refine ts_step rfl (fun HF h1 hle => ?_)))
    (apply hd_resS (Hi := []); (focus (first | exact .inl rfl | exact .inr rfl)); rfl; exact aR; exact aS)
    exact ⟨errP (by simp only [parseB, if_pos hu0]) rfl, rfl⟩
  simp only [decide_eq_true_eq] at hu0
  have hu := True.intro

  repeat' (first | (refine is_cx ?_ (by rfl); first | (refine hd_cA (s := by exact crc_OpenP _ hs (by omega)) (k := ?_); rintro _ h0 hle0 ⟨p0, c0, rfl, hs0⟩) | (refine hd_cmA (Hi := [srcB _ _ _ _ _]) (s := by exact src_num1 _ (by (first | assumption | exact Bs.mono (by assumption) (by exact aL))) (by omega)) (k := ?_); rintro _ h1 _ hle1 ⟨xk, rfl, xk_0, xk_1, p1, n1, c1, rem1, sh1, rfl, hs1, hn1, RA⟩)) | (refine is_cw ?_; first | refine hd_stop1 (id := 7) ?_) | refine wMgZ2 ?_ | refine wMgZ3 ?_ | (refine is_cd ?_; first | refine hd_condA (fun _ => ?_) (fun _ => ?_)) | refine wMgZ1 ?_ | refine wkB (fun _ => ?_) | refine wkC (fun _ _ => ?_) | exact tsA | (refine ts_step rfl (fun HF h1 hle => ?_)))
  refine Stop.mk ?_
  repeat' (first | (refine is_cx ?_ (by rfl); first | (refine hd_cA (s := by exact crc_OpenP _ hs (by omega)) (k := ?_); rintro _ h0 hle0 ⟨p0, c0, rfl, hs0⟩) | (refine hd_cmA (Hi := [srcB _ _ _ _ _]) (s := by exact src_num1 _ (by (first | assumption | exact Bs.mono (by assumption) (by exact aL))) (by omega)) (k := ?_); rintro _ h2 _ hle2 ⟨xf, rfl, xf_0, xf_1, p2, n2, c2, rem2, sh2, rfl, hs2, hn2, RB⟩)) | (refine is_cw ?_; first | refine hd_stop1 (id := 8) ?_) | refine wMgZ2 ?_ | refine wMgZ3 ?_ | (refine is_cd ?_; first | refine hd_condA (fun _ => ?_) (fun _ => ?_)) | refine wMgZ1 ?_ | refine wkB (fun _ => ?_) | refine wkC (fun _ _ => ?_) | exact tsA | (refine ts_step rfl (fun HF h1 hle => ?_)))
  refine Stop.mk ?_
  repeat' (first | (refine is_cx ?_ (by rfl); first | (refine hd_cA (s := by exact crc_OpenP _ hs (by omega)) (k := ?_); rintro _ h0 hle0 ⟨p0, c0, rfl, hs0⟩) | (refine hd_cmA (Hi := [srcB _ _ _ _ _]) (s := by exact src_num2 _ (by (first | assumption | exact Bs.mono (by assumption) (by exact aL))) (by omega)) (k := ?_); rintro _ h3 _ hle3 ⟨xi, rfl, xi_0, xi_1, p3, n3, c3, rem3, sh3, rfl, hs3, hn3, RC⟩)) | (refine is_cw ?_; first | refine hd_stop1 (id := 9) ?_) | refine wMgZ2 ?_ | refine wMgZ3 ?_ | (refine is_cd ?_; first | refine hd_condA (fun _ => ?_) (fun _ => ?_)) | refine wMgZ1 ?_ | refine wkB (fun _ => ?_) | refine wkC (fun _ _ => ?_) | exact tsA | (refine ts_step rfl (fun HF h1 hle => ?_)))
  refine Stop.mk ?_
  repeat' (first | (refine is_cx ?_ (by rfl); first | (refine hd_cA (s := by exact crc_OpenP _ hs (by omega)) (k := ?_); rintro _ h0 hle0 ⟨p0, c0, rfl, hs0⟩) | (refine hd_cmA (Hi := [srcB _ _ _ _ _]) (s := by exact src_num1 _ (by (first | assumption | exact Bs.mono (by assumption) (by exact aL))) (by omega)) (k := ?_); rintro _ h4 _ hle4 ⟨xt, rfl, xt_0, xt_1, p4, n4, c4, rem4, sh4, rfl, hs4, hn4, RD⟩)) | (refine is_cw ?_; first | refine hd_stop1 (id := 11) ?_) | refine wMgZ2 ?_ | refine wMgZ3 ?_ | (refine is_cd ?_; first | refine hd_condA (fun _ => ?_) (fun _ => ?_)) | refine wMgZ1 ?_ | refine wkB (fun _ => ?_) | refine wkC (fun _ _ => ?_) | exact tsA | (refine ts_step rfl (fun HF h1 hle => ?_)))
  refine Stop.mk ?_
  refine hd_split (c := kdM xk) (fun hu => ?_) (fun hu => ?_)
  rotate_left
  · repeat' (first | (refine is_cx ?_ (by rfl); first | (refine hd_cA (s := by exact mesg_fields _) (k := ?_); rintro _ h5 hle5 ⟨pL, cL, rfl, hF⟩)) | refine wMgZ2 ?_ | refine wMgZ3 ?_ | (refine is_cd ?_; first | refine hd_condA (fun _ => ?_) (fun _ => ?_)) | refine wMgZ1 ?_ | refine wkB (fun _ => ?_) | refine wkC (fun _ _ => ?_) | exact tsA | (refine ts_step rfl (fun HF h1 hle => ?_)))
    (apply hd_resS (Hi := []); (focus (first | exact .inl rfl | exact .inr rfl)); rfl; exact aR; exact aS)
    exact ⟨errP (by rw [parseB, if_neg (show ¬ openE bs ≠ 0 by omega)]; exact parseM_none (pMsg_bad RA RB RC RD hu)) rfl, rfl⟩
  have hK := hu
  obtain ⟨c0', c1', c2', c3', c4', c5', c6'⟩ := bits_at hK
  obtain ⟨bb0, bb1⟩ := bits_bd hK
  have hle00 : h.le h4 := PH.le_trans hle0 (PH.le_trans hle1 (PH.le_trans hle2 (PH.le_trans hle3 hle4)))
  rename_i bz bS bm
  repeat' (first | (refine is_cx ?_ (by rfl); first | (refine hd_cA (s := by exact mesg_fields _) (k := ?_); rintro _ h5 hle5 ⟨pL, cL, rfl, hF⟩)) | refine wMgZ2 ?_ | refine wMgZ3 ?_ | (refine is_cd ?_; first | refine hd_condA (fun _ => ?_) (fun _ => ?_)) | refine wMgZ1 ?_ | refine wkB (fun _ => ?_) | refine wkC (fun _ _ => ?_) | exact tsA | (refine ts_step rfl (fun HF h1 hle => ?_)))
  generalize bitsM xk = B at *
  refine hd_loopS (ι := Nat × PH × (Option Addr × Nat × Nat × List Int × Bool) × MsD × MsP) (fun i => i.1 ≤ 7 ∧ h5.le i.2.1 ∧ Bs i.2.1 i.2.2.1.1 i.2.2.1.2.1 i.2.2.1.2.2.1 i.2.2.1.2.2.2.1 ∧ i.2.2.1.2.1 ≤ 60000 ∧ Rds (so sh4 rem4) (pAt xk (msH xk xf xi xt) i.1) (so i.2.2.1.2.2.2.2 i.2.2.1.2.2.2.1) i.2.2.2.1 ∧ VMsP (PH.new h i.2.1) i.2.2.2.2 i.2.2.2.1 ∧ Unr i.1 i.2.2.2.1) (fun i => [(2, [], .pointer (some ⟨bz, 0, none⟩)), (6, [], .pointer (some ⟨bS, 0, none⟩)), (7, [], .pointer (some ⟨bm, 0, none⟩)), (8, [], .int .u8 B), (49, [], .slice pL 7 cL), (50, [], .int .i64 7), (51, [], .int .i64 i.1)]) (fun i => [srcB bS i.2.2.1.1 i.2.2.1.2.1 i.2.2.1.2.2.1 i.2.2.1.2.2.2.2, box bm [.int .u8 i.2.2.2.1.kind, .int .u8 i.2.2.2.1.frm, .int .u16 i.2.2.2.1.inc, .int .u8 i.2.2.2.1.to_, .slice i.2.2.2.2.pl i.2.2.2.2.nl i.2.2.2.2.cl, .slice i.2.2.2.2.pt i.2.2.2.2.nt i.2.2.2.2.ct, .int .u8 i.2.2.2.1.ev.1.1, .int .u16 i.2.2.2.1.ev.1.2.1, .int .u32 i.2.2.2.1.ev.1.2.2, .slice i.2.2.2.2.pv i.2.2.2.2.nv i.2.2.2.2.cv, .slice i.2.2.2.2.pd i.2.2.2.2.nd i.2.2.2.2.cd, .int .u8 i.2.2.2.1.hops, .int .u8 i.2.2.2.1.origin.1, .int .u16 i.2.2.2.1.origin.2.1, .int .u32 i.2.2.2.1.origin.2.2, .slice i.2.2.2.2.pm i.2.2.2.2.nm i.2.2.2.2.cm, .slice i.2.2.2.2.pi i.2.2.2.2.ni i.2.2.2.2.ci] 36, box bz [.int .u8 0, .int .u8 0, .int .u16 0, .int .u8 0, .slice none 0 0, .slice none 0 0, .int .u8 0, .int .u16 0, .int .u32 0, .slice none 0 0, .slice none 0 0, .int .u8 0, .int .u8 0, .int .u16 0, .int .u32 0, .slice none 0 0, .slice none 0 0] 36]) (fun i => i.2.1) (fun i => 7 - i.1) (0, h5, (p4, n4, c4, rem4, sh4), msH xk xf xi xt, aP0) ⟨by simp, PH.le_refl _, hs4.mono hle5, by simp only; omega, Rds.pu _ _, v0P _ (by simp only [inR]; omega) (by simp only [inR]; omega) (by simp only [inR]; omega) (by simp only [inR]; omega), ⟨fun _ => rfl, fun _ => rfl, fun _ => rfl, fun _ => rfl, fun _ => rfl, fun _ => rfl, fun _ => rfl⟩⟩ (by exact aU) (fun w hw => by exact inv_only (by exact aS) hw) (fun i hi => ?_)
  obtain ⟨i, hk, ⟨ps, ns, cs, rem, sh⟩, m, a⟩ := i
  obtain ⟨hi7, hlk, hsk, hnk, Rk, hVk, hU⟩ := hi
  dsimp only at hi7 hlk hsk hnk Rk hVk hU ⊢
  have hle0k : h.le hk := PH.le_trans hle00 (PH.le_trans hle5 hlk)
  have hr1 := hVk.r.kind
  have h7 : i = 0 ∨ i = 1 ∨ i = 2 ∨ i = 3 ∨ i = 4 ∨ i = 5 ∨ i = 6 ∨ i = 7 := by omega
  rcases h7 with rfl | rfl | rfl | rfl | rfl | rfl | rfl | rfl
  · have hpub := (hF.mono hlk).at (i := 0) rfl
    have hptr := hF.ptr (by decide)
    have cc := c0'
    refine hd_split (c := mL xk) (fun hu => ?_) (fun hu => ?_)
    · rw [hu] at cc
      simp only [if_true] at cc
      repeat' (first | (refine is_cx ?_ (by rfl); first | (refine hd_cmA (Hi := [srcB _ _ _ _ _, box bm _ _]) (s := by exact list_2 _ hsk hnk) (k := ?_); (focus (rintro _ h6 _ hle6 ⟨xs, q, mm, d, Hs, rfl, hx, hxl, p5, n5, c5, rem5, sh5, hHs, hs6, hn6, R6⟩; cases hHs; skip)))) | refine wMgZ2 ?_ | refine wMgZ3 ?_ | (refine is_cd ?_; first | refine hd_condA (fun _ => ?_) (fun _ => ?_)) | refine wMgZ1 ?_ | refine wkB (fun _ => ?_) | refine wkC (fun _ _ => ?_) | exact tsA | (refine ts_step rfl (fun HF h1 hle => ?_)))
      refine hd_again (1, h6, (p5, n5, c5, rem5, sh5), { m with list := xs }, { a with pl := q, nl := mm, cl := d }) ⟨by dsimp only; omega, PH.le_trans hlk hle6, hs6, by dsimp only; omega, Rk.at (pF_on0 hu R6), { hVk.mono (PH.new_mono hle6) with list := hx.mono (PH.new_back hle0k), r := { hVk.r with list := SlD_in hx } }, hU.on0⟩ (by dsimp only; omega) (by exact aU) (fun w hw2 => ?_)
      dsimp only
      exact inv_only (by exact aS) hw2
    · rw [hu] at cc
      simp only [Bool.false_eq_true, if_false] at cc
      repeat' (first | (refine is_cx ?_ (by rfl); first | (refine hd_cmA (Hi := [srcB _ _ _ _ _, box bm _ _]) (s := by exact list_2 _ hsk hnk) (k := ?_); (focus (rintro _ h6 _ hle6 ⟨xs, q, mm, d, Hs, rfl, hx, hxl, p5, n5, c5, rem5, sh5, hHs, hs6, hn6, R6⟩; cases hHs; skip)))) | refine wMgZ2 ?_ | refine wMgZ3 ?_ | (refine is_cd ?_; first | refine hd_condA (fun _ => ?_) (fun _ => ?_)) | refine wMgZ1 ?_ | refine wkB (fun _ => ?_) | refine wkC (fun _ _ => ?_) | exact tsA | (refine ts_step rfl (fun HF h1 hle => ?_)))
      refine hd_again (1, hk, (ps, ns, cs, rem, sh), m, a) ⟨by dsimp only; omega, hlk, hsk, hnk, Rk.at (pF_off0 hu (hU.z0 (by omega))), hVk, hU.next⟩ (by dsimp only; omega) (by exact aU) (fun w hw2 => ?_)
      exact inv_only (by exact aS) hw2
  · have hpub := (hF.mono hlk).at (i := 1) rfl
    have hptr := hF.ptr (by decide)
    have cc := c1'
    refine hd_split (c := mT xk) (fun hu => ?_) (fun hu => ?_)
    · rw [hu] at cc
      simp only [if_true] at cc
      repeat' (first | (refine is_cx ?_ (by rfl); first | (refine hd_cmA (Hi := [srcB _ _ _ _ _, box bm _ _]) (s := by exact table_2 _ hsk hnk) (k := ?_); (focus (rintro _ h6 _ hle6 ⟨xs, q, mm, d, Hs, rfl, hx, hxl, p5, n5, c5, rem5, sh5, hHs, hs6, hn6, R6⟩; cases hHs; skip)))) | refine wMgZ2 ?_ | refine wMgZ3 ?_ | (refine is_cd ?_; first | refine hd_condA (fun _ => ?_) (fun _ => ?_)) | refine wMgZ1 ?_ | refine wkB (fun _ => ?_) | refine wkC (fun _ _ => ?_) | exact tsA | (refine ts_step rfl (fun HF h1 hle => ?_)))
      refine hd_again (2, h6, (p5, n5, c5, rem5, sh5), { m with table := xs }, { a with pt := q, nt := mm, ct := d }) ⟨by dsimp only; omega, PH.le_trans hlk hle6, hs6, by dsimp only; omega, Rk.at (pF_on1 hu R6), { hVk.mono (PH.new_mono hle6) with table := hx.mono (PH.new_back hle0k), r := { hVk.r with table := SlM_in hx } }, hU.on1⟩ (by dsimp only; omega) (by exact aU) (fun w hw2 => ?_)
      dsimp only
      exact inv_only (by exact aS) hw2
    · rw [hu] at cc
      simp only [Bool.false_eq_true, if_false] at cc
      repeat' (first | (refine is_cx ?_ (by rfl); first | (refine hd_cmA (Hi := [srcB _ _ _ _ _, box bm _ _]) (s := by exact table_2 _ hsk hnk) (k := ?_); (focus (rintro _ h6 _ hle6 ⟨xs, q, mm, d, Hs, rfl, hx, hxl, p5, n5, c5, rem5, sh5, hHs, hs6, hn6, R6⟩; cases hHs; skip)))) | refine wMgZ2 ?_ | refine wMgZ3 ?_ | (refine is_cd ?_; first | refine hd_condA (fun _ => ?_) (fun _ => ?_)) | refine wMgZ1 ?_ | refine wkB (fun _ => ?_) | refine wkC (fun _ _ => ?_) | exact tsA | (refine ts_step rfl (fun HF h1 hle => ?_)))
      refine hd_again (2, hk, (ps, ns, cs, rem, sh), m, a) ⟨by dsimp only; omega, hlk, hsk, hnk, Rk.at (pF_off1 hu (hU.z1 (by omega))), hVk, hU.next⟩ (by dsimp only; omega) (by exact aU) (fun w hw2 => ?_)
      exact inv_only (by exact aS) hw2
  · have hpub := (hF.mono hlk).at (i := 2) rfl
    have hptr := hF.ptr (by decide)
    have cc := c2'
    refine hd_split (c := mE xk) (fun hu => ?_) (fun hu => ?_)
    · rw [hu] at cc
      simp only [if_true] at cc
      repeat' (first | (refine is_cx ?_ (by rfl); first | (refine hd_cmA (Hi := [srcB _ _ _ _ _, box bm _ _]) (s := by exact event_2 _ hsk hnk) (k := ?_); (focus (rintro _ h6 _ hle6 ⟨xs, q, mm, d, q2, mm2, d2, Hs, rfl, hx, hx2, hx3, p5, n5, c5, rem5, sh5, hHs, hs6, hn6, R6⟩; cases hHs; skip)))) | refine wMgZ2 ?_ | refine wMgZ3 ?_ | (refine is_cd ?_; first | refine hd_condA (fun _ => ?_) (fun _ => ?_)) | refine wMgZ1 ?_ | refine wkB (fun _ => ?_) | refine wkC (fun _ _ => ?_) | exact tsA | (refine ts_step rfl (fun HF h1 hle => ?_)))
      refine hd_again (3, h6, (p5, n5, c5, rem5, sh5), { m with ev := xs }, { a with pv := q, nv := mm, cv := d, pd := q2, nd := mm2, cd := d2 }) ⟨by dsimp only; omega, PH.le_trans hlk hle6, hs6, by dsimp only; omega, Rk.at (pF_on2 hu R6), { hVk.mono (PH.new_mono hle6) with vals := hx.mono (PH.new_back hle0k), data := hx2.mono (PH.new_back hle0k), r := { hVk.r with ev := ⟨hx3, hx.inR, hx2.inR⟩ } }, hU.on2⟩ (by dsimp only; omega) (by exact aU) (fun w hw2 => ?_)
      dsimp only
      exact inv_only (by exact aS) hw2
    · rw [hu] at cc
      simp only [Bool.false_eq_true, if_false] at cc
      repeat' (first | (refine is_cx ?_ (by rfl); first | (refine hd_cmA (Hi := [srcB _ _ _ _ _, box bm _ _]) (s := by exact event_2 _ hsk hnk) (k := ?_); (focus (rintro _ h6 _ hle6 ⟨xs, q, mm, d, q2, mm2, d2, Hs, rfl, hx, hx2, hx3, p5, n5, c5, rem5, sh5, hHs, hs6, hn6, R6⟩; cases hHs; skip)))) | refine wMgZ2 ?_ | refine wMgZ3 ?_ | (refine is_cd ?_; first | refine hd_condA (fun _ => ?_) (fun _ => ?_)) | refine wMgZ1 ?_ | refine wkB (fun _ => ?_) | refine wkC (fun _ _ => ?_) | exact tsA | (refine ts_step rfl (fun HF h1 hle => ?_)))
      refine hd_again (3, hk, (ps, ns, cs, rem, sh), m, a) ⟨by dsimp only; omega, hlk, hsk, hnk, Rk.at (pF_off2 hu (hU.z2 (by omega))), hVk, hU.next⟩ (by dsimp only; omega) (by exact aU) (fun w hw2 => ?_)
      exact inv_only (by exact aS) hw2
  · have hpub := (hF.mono hlk).at (i := 3) rfl
    have hptr := hF.ptr (by decide)
    have cc := c3'
    refine hd_split (c := mH xk) (fun hu => ?_) (fun hu => ?_)
    · rw [hu] at cc
      simp only [if_true] at cc
      repeat' (first | (refine is_cx ?_ (by rfl); first | (refine hd_cmA (Hi := [srcB _ _ _ _ _, box bm _ _]) (s := by exact hops_2 _ hsk hnk) (k := ?_); (focus (rintro _ h6 _ hle6 ⟨xs, Hs, rfl, hx, p5, n5, c5, rem5, sh5, hHs, hs6, hn6, R6⟩; cases hHs; skip)))) | refine wMgZ2 ?_ | refine wMgZ3 ?_ | (refine is_cd ?_; first | refine hd_condA (fun _ => ?_) (fun _ => ?_)) | refine wMgZ1 ?_ | refine wkB (fun _ => ?_) | refine wkC (fun _ _ => ?_) | exact tsA | (refine ts_step rfl (fun HF h1 hle => ?_)))
      refine hd_again (4, h6, (p5, n5, c5, rem5, sh5), { m with hops := xs }, a) ⟨by dsimp only; omega, PH.le_trans hlk hle6, hs6, by dsimp only; omega, Rk.at (pF_on3 hu R6), { hVk.mono (PH.new_mono hle6) with r := { hVk.r with hops := hx } }, hU.on3⟩ (by dsimp only; omega) (by exact aU) (fun w hw2 => ?_)
      dsimp only
      exact inv_only (by exact aS) hw2
    · rw [hu] at cc
      simp only [Bool.false_eq_true, if_false] at cc
      repeat' (first | (refine is_cx ?_ (by rfl); first | (refine hd_cmA (Hi := [srcB _ _ _ _ _, box bm _ _]) (s := by exact hops_2 _ hsk hnk) (k := ?_); (focus (rintro _ h6 _ hle6 ⟨xs, Hs, rfl, hx, p5, n5, c5, rem5, sh5, hHs, hs6, hn6, R6⟩; cases hHs; skip)))) | refine wMgZ2 ?_ | refine wMgZ3 ?_ | (refine is_cd ?_; first | refine hd_condA (fun _ => ?_) (fun _ => ?_)) | refine wMgZ1 ?_ | refine wkB (fun _ => ?_) | refine wkC (fun _ _ => ?_) | exact tsA | (refine ts_step rfl (fun HF h1 hle => ?_)))
      refine hd_again (4, hk, (ps, ns, cs, rem, sh), m, a) ⟨by dsimp only; omega, hlk, hsk, hnk, Rk.at (pF_off3 hu (hU.z3 (by omega))), hVk, hU.next⟩ (by dsimp only; omega) (by exact aU) (fun w hw2 => ?_)
      exact inv_only (by exact aS) hw2
  · have hpub := (hF.mono hlk).at (i := 4) rfl
    have hptr := hF.ptr (by decide)
    have cc := c4'
    refine hd_split (c := mO xk) (fun hu => ?_) (fun hu => ?_)
    · rw [hu] at cc
      simp only [if_true] at cc
      repeat' (first | (refine is_cx ?_ (by rfl); first | (refine hd_cmA (Hi := [srcB _ _ _ _ _, box bm _ _]) (s := by exact origin_2 _ hsk hnk) (k := ?_); (focus (rintro _ h6 _ hle6 ⟨xs, Hs, rfl, hx, p5, n5, c5, rem5, sh5, hHs, hs6, hn6, R6⟩; cases hHs; skip)))) | refine wMgZ2 ?_ | refine wMgZ3 ?_ | (refine is_cd ?_; first | refine hd_condA (fun _ => ?_) (fun _ => ?_)) | refine wMgZ1 ?_ | refine wkB (fun _ => ?_) | refine wkC (fun _ _ => ?_) | exact tsA | (refine ts_step rfl (fun HF h1 hle => ?_)))
      refine hd_again (5, h6, (p5, n5, c5, rem5, sh5), { m with origin := xs }, a) ⟨by dsimp only; omega, PH.le_trans hlk hle6, hs6, by dsimp only; omega, Rk.at (pF_on4 hu R6), { hVk.mono (PH.new_mono hle6) with r := { hVk.r with origin := hx } }, hU.on4⟩ (by dsimp only; omega) (by exact aU) (fun w hw2 => ?_)
      dsimp only
      exact inv_only (by exact aS) hw2
    · rw [hu] at cc
      simp only [Bool.false_eq_true, if_false] at cc
      repeat' (first | (refine is_cx ?_ (by rfl); first | (refine hd_cmA (Hi := [srcB _ _ _ _ _, box bm _ _]) (s := by exact origin_2 _ hsk hnk) (k := ?_); (focus (rintro _ h6 _ hle6 ⟨xs, Hs, rfl, hx, p5, n5, c5, rem5, sh5, hHs, hs6, hn6, R6⟩; cases hHs; skip)))) | refine wMgZ2 ?_ | refine wMgZ3 ?_ | (refine is_cd ?_; first | refine hd_condA (fun _ => ?_) (fun _ => ?_)) | refine wMgZ1 ?_ | refine wkB (fun _ => ?_) | refine wkC (fun _ _ => ?_) | exact tsA | (refine ts_step rfl (fun HF h1 hle => ?_)))
      refine hd_again (5, hk, (ps, ns, cs, rem, sh), m, a) ⟨by dsimp only; omega, hlk, hsk, hnk, Rk.at (pF_off4 hu (hU.z4 (by omega))), hVk, hU.next⟩ (by dsimp only; omega) (by exact aU) (fun w hw2 => ?_)
      exact inv_only (by exact aS) hw2
  · have hpub := (hF.mono hlk).at (i := 5) rfl
    have hptr := hF.ptr (by decide)
    have cc := c5'
    refine hd_split (c := mO xk) (fun hu => ?_) (fun hu => ?_)
    · rw [hu] at cc
      simp only [if_true] at cc
      repeat' (first | (refine is_cx ?_ (by rfl); first | (refine hd_cmA (Hi := [srcB _ _ _ _ _, box bm _ _]) (s := by exact marks_2 _ hsk hnk) (k := ?_); (focus (rintro _ h6 _ hle6 ⟨xs, q, mm, d, Hs, rfl, hx, hxl, p5, n5, c5, rem5, sh5, hHs, hs6, hn6, R6⟩; cases hHs; skip)))) | refine wMgZ2 ?_ | refine wMgZ3 ?_ | (refine is_cd ?_; first | refine hd_condA (fun _ => ?_) (fun _ => ?_)) | refine wMgZ1 ?_ | refine wkB (fun _ => ?_) | refine wkC (fun _ _ => ?_) | exact tsA | (refine ts_step rfl (fun HF h1 hle => ?_)))
      refine hd_again (6, h6, (p5, n5, c5, rem5, sh5), { m with marks := xs }, { a with pm := q, nm := mm, cm := d }) ⟨by dsimp only; omega, PH.le_trans hlk hle6, hs6, by dsimp only; omega, Rk.at (pF_on5 hu R6), { hVk.mono (PH.new_mono hle6) with marks := hx.mono (PH.new_back hle0k), r := { hVk.r with marks := SlK_in hx } }, hU.on5⟩ (by dsimp only; omega) (by exact aU) (fun w hw2 => ?_)
      dsimp only
      exact inv_only (by exact aS) hw2
    · rw [hu] at cc
      simp only [Bool.false_eq_true, if_false] at cc
      repeat' (first | (refine is_cx ?_ (by rfl); first | (refine hd_cmA (Hi := [srcB _ _ _ _ _, box bm _ _]) (s := by exact marks_2 _ hsk hnk) (k := ?_); (focus (rintro _ h6 _ hle6 ⟨xs, q, mm, d, Hs, rfl, hx, hxl, p5, n5, c5, rem5, sh5, hHs, hs6, hn6, R6⟩; cases hHs; skip)))) | refine wMgZ2 ?_ | refine wMgZ3 ?_ | (refine is_cd ?_; first | refine hd_condA (fun _ => ?_) (fun _ => ?_)) | refine wMgZ1 ?_ | refine wkB (fun _ => ?_) | refine wkC (fun _ _ => ?_) | exact tsA | (refine ts_step rfl (fun HF h1 hle => ?_)))
      refine hd_again (6, hk, (ps, ns, cs, rem, sh), m, a) ⟨by dsimp only; omega, hlk, hsk, hnk, Rk.at (pF_off5 hu (hU.z5 (by omega))), hVk, hU.next⟩ (by dsimp only; omega) (by exact aU) (fun w hw2 => ?_)
      exact inv_only (by exact aS) hw2
  · have hpub := (hF.mono hlk).at (i := 6) rfl
    have hptr := hF.ptr (by decide)
    have cc := c6'
    refine hd_split (c := mJ xk) (fun hu => ?_) (fun hu => ?_)
    · rw [hu] at cc
      simp only [if_true] at cc
      repeat' (first | (refine is_cx ?_ (by rfl); first | (refine hd_cmA (Hi := [srcB _ _ _ _ _, box bm _ _]) (s := by exact ids_2 _ hsk hnk) (k := ?_); (focus (rintro _ h6 _ hle6 ⟨xs, q, mm, d, Hs, rfl, hx, hxl, p5, n5, c5, rem5, sh5, hHs, hs6, hn6, R6⟩; cases hHs; skip)))) | refine wMgZ2 ?_ | refine wMgZ3 ?_ | (refine is_cd ?_; first | refine hd_condA (fun _ => ?_) (fun _ => ?_)) | refine wMgZ1 ?_ | refine wkB (fun _ => ?_) | refine wkC (fun _ _ => ?_) | exact tsA | (refine ts_step rfl (fun HF h1 hle => ?_)))
      refine hd_again (7, h6, (p5, n5, c5, rem5, sh5), { m with ids := xs }, { a with pi := q, ni := mm, ci := d }) ⟨by dsimp only; omega, PH.le_trans hlk hle6, hs6, by dsimp only; omega, Rk.at (pF_on6 hu R6), { hVk.mono (PH.new_mono hle6) with ids := hx.mono (PH.new_back hle0k), r := { hVk.r with ids := SlK_in hx } }, hU.on6⟩ (by dsimp only; omega) (by exact aU) (fun w hw2 => ?_)
      dsimp only
      exact inv_only (by exact aS) hw2
    · rw [hu] at cc
      simp only [Bool.false_eq_true, if_false] at cc
      repeat' (first | (refine is_cx ?_ (by rfl); first | (refine hd_cmA (Hi := [srcB _ _ _ _ _, box bm _ _]) (s := by exact ids_2 _ hsk hnk) (k := ?_); (focus (rintro _ h6 _ hle6 ⟨xs, q, mm, d, Hs, rfl, hx, hxl, p5, n5, c5, rem5, sh5, hHs, hs6, hn6, R6⟩; cases hHs; skip)))) | refine wMgZ2 ?_ | refine wMgZ3 ?_ | (refine is_cd ?_; first | refine hd_condA (fun _ => ?_) (fun _ => ?_)) | refine wMgZ1 ?_ | refine wkB (fun _ => ?_) | refine wkC (fun _ _ => ?_) | exact tsA | (refine ts_step rfl (fun HF h1 hle => ?_)))
      refine hd_again (7, hk, (ps, ns, cs, rem, sh), m, a) ⟨by dsimp only; omega, hlk, hsk, hnk, Rk.at (pF_off6 hu (hU.z6 (by omega))), hVk, hU.next⟩ (by dsimp only; omega) (by exact aU) (fun w hw2 => ?_)
      exact inv_only (by exact aS) hw2
  · repeat' (first | (refine is_cw ?_; first | refine hd_stop1 (id := 19) ?_) | refine wMgZ2 ?_ | refine wMgZ3 ?_ | (refine is_cd ?_; first | refine hd_condA (fun _ => ?_) (fun _ => ?_)) | refine wMgZ1 ?_ | refine wkB (fun _ => ?_) | refine wkC (fun _ _ => ?_) | exact tsA | (refine ts_step rfl (fun HF h1 hle => ?_)))
    refine Stop.mk ?_
    have hP := fun o (R : Rds (so sh4 rem4) (pAt xk (msH xk xf xi xt) 7) o m) => pMsg_good RA RB RC RD hK R
    have hE : ¬ openE bs ≠ 0 := by omega
    have hlen := hsk.len
    cases sh with
    | true =>
      repeat' (first | refine wMgZ2 ?_ | refine wMgZ3 ?_ | (refine is_cd ?_; first | refine hd_condA (fun _ => ?_) (fun _ => ?_)) | refine wMgZ1 ?_ | refine wkB (fun _ => ?_) | refine wkC (fun _ _ => ?_) | exact tsA | (refine ts_step rfl (fun HF h1 hle => ?_)))
      (apply hd_resS (Hi := []); (focus (first | exact .inl rfl | exact .inr rfl)); rfl; exact aR; exact aS)
      exact ⟨errP (by rw [parseB, if_neg hE]; exact parseM_none (hP _ Rk)) rfl, rfl⟩
    | false =>
      have hM := parseM_some (hP _ Rk)
      refine hd_split (c := decide ((ns : Int) > 0)) (fun hu => ?_) (fun hu => ?_)
      · simp only [decide_eq_true_eq] at hu
        repeat' (first | refine wMgZ2 ?_ | refine wMgZ3 ?_ | (refine is_cd ?_; first | refine hd_condA (fun _ => ?_) (fun _ => ?_)) | refine wMgZ1 ?_ | refine wkB (fun _ => ?_) | refine wkC (fun _ _ => ?_) | exact tsA | (refine ts_step rfl (fun HF h1 hle => ?_)))
        (apply hd_resS (Hi := []); (focus (first | exact .inl rfl | exact .inr rfl)); rfl; exact aR; exact aS)
        exact ⟨errP (by rw [parseB, if_neg hE, hM, if_neg (by intro e; rw [e] at hlen; simp at hlen; omega)]) rfl, rfl⟩
      · simp only [decide_eq_false_iff_not] at hu
        have hr : rem = [] := List.eq_nil_of_length_eq_zero (by omega)
        rw [if_pos hr] at hM
        have hu3 := hu
        refine hd_split (c := rightM m) (fun hu => ?_) (fun hu => ?_)
        · have hu2 := hu
          repeat' (first | refine wMgZ2 ?_ | refine wMgZ3 ?_ | (refine is_cd ?_; first | refine hd_condA (fun _ => ?_) (fun _ => ?_)) | refine wMgZ1 ?_ | refine wkB (fun _ => ?_) | refine wkC (fun _ _ => ?_) | exact tsA | (refine ts_step rfl (fun HF h1 hle => ?_)))
          (apply hd_resS (Hi := []); (focus (first | exact .inl rfl | exact .inr rfl)); rfl; exact aR; exact aS)
          exact ⟨⟨a, by rw [parseB, if_neg hE, hM, if_pos hu2]; rfl, by rw [parseB, if_neg hE, hM, if_pos hu2]; exact hVk⟩, rfl⟩
        · have hu2 := hu
          repeat' (first | refine wMgZ2 ?_ | refine wMgZ3 ?_ | (refine is_cd ?_; first | refine hd_condA (fun _ => ?_) (fun _ => ?_)) | refine wMgZ1 ?_ | refine wkB (fun _ => ?_) | refine wkC (fun _ _ => ?_) | exact tsA | (refine ts_step rfl (fun HF h1 hle => ?_)))
          (apply hd_resS (Hi := []); (focus (first | exact .inl rfl | exact .inr rfl)); rfl; exact aR; exact aS)
          exact ⟨errP (by rw [parseB, if_neg hE, hM, if_neg (by rw [hu2]; decide)]) rfl, rfl⟩

end Go.Proofs.YtmpfeaoofkkhjaaGreat
