/- grapevineref20: what a kind has is read; messages off bytes. Printed by gen_mgtf.py. -/
import Derived.Test.YtmpfeaoofkkhjaaGreatMgTe
import Derived.Test.YtmpfeaoofkkhjaaGreatMgZ
set_option linter.unusedVariables false
namespace Go.GV
open Go
/-- From a state to all states like it. -/
theorem hd_all {C : Ctx} {N : Fr} {L : En} {H : List HE} {h : PH} {R : Act → World → Prop} {ι : Type} (I : ι → Prop) (LL : ι → En) (HH : ι → List HE) (hh : ι → PH) (j : ι) (hI : I j) (hL : Sub L (LL j)) (hH : ∀ w, Inv C H h w → Inv C (HH j) (hh j) w) (next : ∀ j, I j → Hd C N (LL j) (HH j) (hh j) R) : Hd C N L H h R := ⟨fun a w ha hw => (next j hI).all a w (hL.ok ha) (hH w hw)⟩
end Go.GV
namespace Go.Proofs.YtmpfeaoofkkhjaaGreat
open Go Go.GV
attribute [local irreducible] cw Go.GV.SpecM Go.GV.wpList Exit.then Exit.inBlock Go.GV.bodyPost wpPl wpPm wpPn TS rnd rPost YieldsB wpPT ptK
set_option maxRecDepth 10000
set_option maxHeartbeats 8000000
set_option linter.unusedVariables false
set_option linter.unusedSimpArgs false

theorem pvMgTf1 {A : Prop} (h : A := by (first | rfl | assumption | (rw [hu]; rfl) | (simp only [decide_eq_true_eq, decide_eq_false_iff_not, beq_eq_false_iff_ne, beq_iff_eq, bne_iff_ne, bne_eq_false_iff_eq, Bool.or_eq_true, Bool.or_eq_false_iff]; omega) | fail)) : A := h
theorem nvMgTf1 {A : Prop} (h : A := by (first | decide | (rw [hu]; decide) | fail)) : A := h
abbrev PJ := PH × (Option Addr × Nat × Nat × List Int × Bool) × MsD × MsP
structure PtI (h : PH) (n : Nat) (o : Option (List Int)) (k fr ic t : Int) (i : Nat) (j : PJ) : Prop where
  le : h.le j.1
  bs : Bs j.1 j.2.1.1 j.2.1.2.1 j.2.1.2.2.1 j.2.1.2.2.2.1
  n : j.2.1.2.1 ≤ n
  rd : Rds o (pAt k (msH k fr ic t) i) (so j.2.1.2.2.2.2 j.2.1.2.2.2.1) j.2.2.1
  vm : VMsP j.1 j.2.2.2 j.2.2.1
  un : Unr i j.2.2.1
  up : i ≤ 5 → j.2.2.2.pm = none ∧ j.2.2.2.nm = 0 ∧ j.2.2.2.cm = 0
abbrev ptL (b2 b3 b4 b5 b6 : Nat) : En := [(2, [], .pointer (some ⟨b2, 0, none⟩)), (3, [], .pointer (some ⟨b3, 0, none⟩)), (4, [], .pointer (some ⟨b4, 0, none⟩)), (5, [], .pointer (some ⟨b5, 0, none⟩)), (6, [], .pointer (some ⟨b6, 0, none⟩))]
abbrev ptH (b2 b3 b4 b5 b6 : Nat) (k : Int) (j : PJ) : List HE := [box b3 [.int .u8 j.2.2.1.kind, .int .u8 j.2.2.1.frm, .int .u16 j.2.2.1.inc, .int .u8 j.2.2.1.to_, .slice j.2.2.2.pl j.2.2.2.nl j.2.2.2.cl, .slice j.2.2.2.pt j.2.2.2.nt j.2.2.2.ct, .int .u8 j.2.2.1.ev.1.1, .int .u16 j.2.2.1.ev.1.2.1, .int .u32 j.2.2.1.ev.1.2.2, .slice j.2.2.2.pv j.2.2.2.nv j.2.2.2.cv, .slice j.2.2.2.pd j.2.2.2.nd j.2.2.2.cd, .int .u8 j.2.2.1.hops, .int .u8 j.2.2.1.origin.1, .int .u16 j.2.2.1.origin.2.1, .int .u32 j.2.2.1.origin.2.2, .slice j.2.2.2.pm j.2.2.2.nm j.2.2.2.cm, .slice j.2.2.2.pi j.2.2.2.ni j.2.2.2.ci] 36, box b2 [.slice j.2.1.1 j.2.1.2.1 j.2.1.2.2.1, .bool j.2.1.2.2.2.2] 87, box b4 [.int .u8 0, .int .u8 0, .int .u16 0, .int .u8 0, .slice none 0 0, .slice none 0 0, .int .u8 0, .int .u16 0, .int .u32 0, .slice none 0 0, .slice none 0 0, .int .u8 0, .int .u8 0, .int .u16 0, .int .u32 0, .slice none 0 0, .slice none 0 0] 36, box b5 [.slice none 0 0, .bool false] 87, box b6 [.bool (mL k), .bool (mT k), .bool (mE k), .bool (mH k), .bool (mO k), .bool (mO k), .bool (mJ k)] 72]
theorem zMgTf1 {A : Prop} (h : A := by ((first | (apply OK.plain; rfl; apply OD.of) | (apply OKp.plain; rfl)); (first | (apply od_pickX; exact aX; exact pvMgTf1; exact aX) | (apply od_pickY; exact aX; exact pvMgTf1; exact aX)))) : A := h
theorem zMgTf2 {A : Prop} (h : A := by ((first | (apply OK.plain; rfl; apply OD.of) | (apply OKp.plain; rfl)); (first | (apply od_nil; exact aX) | (apply od_cv; exact aX; (focus (simp only [inR]; omega)))))) : A := h
theorem zMgTf3 {A : Prop} (h : A := by ((first | (apply OK.plain; rfl) | (apply OK.guarded; rfl; rfl; (intro hg; (try have hk := hg.2); (try have hl := hg.2.2); (try have hm := hg.2.2.2)))); (first | (apply od_call; exact aX; infer_instance; exact aE; exact aN; (focus (first | exact ref20_has _ _))) ))) : A := h
theorem wMgTf1 {A B : Prop} (k : B) (h : Kx B → A := by intro k; (first | (refine is_pu ?_ (by rfl); first | (apply hd_gon; rfl; rfl; (focus (constructor; exact pvMgTf1; trivial))) | (apply hd_goff; rfl; rfl; (focus exact fun hs => absurd hs.1 (by exact nvMgTf1)); rfl) | (apply hd_gundef; rfl; rfl; rfl) | refine hd_opAB ?_ | ((first | apply hd_ok | apply ch_ok | (apply hd_pn_run; rfl; exact aM)); (focus exact zMgTf2); rfl; rfl) | ((first | apply hd_ok | apply ch_ok | (apply hd_pn_run; rfl; exact aM)); (focus exact zMgTf1); rfl; rfl)) | (refine is_pn ?_; first | refine hd_pn_nil ?_ | (apply hd_pn_runG; rfl; rfl; rfl; (focus (constructor; exact pvMgTf1; trivial)); exact aM; exact opB; rfl; rfl) | (apply hd_pn_offG; rfl; rfl; rfl; (focus exact fun hs => absurd hs.1 (by exact nvMgTf1)); exact aM; rfl; rfl) | (apply hd_pn_undefG; rfl; rfl; rfl; exact aM; rfl; rfl) | refine hd_pnAB ?_ | ((first | apply hd_ok | apply ch_ok | (apply hd_pn_run; rfl; exact aM)); (focus exact zMgTf2); rfl; rfl) | ((first | apply hd_ok | apply ch_ok | (apply hd_pn_run; rfl; exact aM)); (focus exact zMgTf1); rfl; rfl) | (refine hd_pn_op rfl ?_)) | (refine is_co ?_; first | (apply hd_gon; rfl; rfl; (focus (constructor; exact pvMgTf1; trivial))) | (apply hd_goff; rfl; rfl; (focus exact fun hs => absurd hs.1 (by exact nvMgTf1)); rfl) | (apply hd_gundef; rfl; rfl; rfl) | ((first | apply hd_ok | apply ch_ok); (focus exact zMgTf3); rfl; rfl) | refine hd_storeA ?_ | refine hd_copyA ?_) | (refine is_ni ?_; first | (refine is_on ?_; first | refine pn_barA ?_ | refine pn_goA ?_ | refine pt_goA ?_ | refine ts_onA ?_) | refine hd_nil ?_) | refine wkA ?_ | (refine is_ch ?_; refine ch_opAB ?_) | ((first | apply hd_ok | apply ch_ok); (focus exact zMgTf3); rfl; rfl) | ((first | apply hd_ok | apply ch_ok | (apply hd_pn_run; rfl; exact aM)); (focus exact zMgTf2); rfl; rfl) | ((first | apply hd_ok | apply ch_ok | (apply hd_pn_run; rfl; exact aM)); (focus exact zMgTf1); rfl; rfl)); exact k.go) : A := h ⟨k⟩
theorem wMgTf2 {A B : Prop} (k : B) (h : Kx B → A := by intro k; ((refine is_cw ?_; refine is_rg ?_; first | (refine hd_planY (id := 10) _ [] [.one 0 true, .one 1 true, .one 2 true, .one 3 true, .one 4 false, .one 5 false] follows_any (by kernel_rfl) rfl (by kernel_rfl) rfl ?_) | (refine hd_planY (id := 13) _ [] [.one 0 true, .one 1 true, .one 2 true, .one 3 true, .one 4 true, .one 5 true, .one 6 true, .one 7 true, .one 8 true, .one 9 false, .one 10 false] follows_any (by kernel_rfl) rfl (by kernel_rfl) rfl ?_) | (refine hd_planT (id := 19) [(0, 82, 8), (1, 83, 2417851639229258349412352), (0, 84, 2048), (0, 85, 8192), (12, 86, 29014219670751100192948224), (16, 87, 38685626227668133590597632), (32, 88, 77371252455336267181195264), (0, 89, 2048), (0, 90, 8192), (384, 91, 928455029464035206174343168), (512, 92, 1237940039285380274899124224), (1024, 93, 2475880078570760549798248448), (0, 94, 2048), (0, 95, 8192), (12288, 96, 29710560942849126597578981376), (16384, 97, 39614081257132168796771975168), (32768, 98, 79228162514264337593543950336), (67648, 99, 163562827690580868821046788096), (131072, 100, 316912650057057350374175801344), (262146, 101, 633830135817393159265050427392), (1048575, 102, 8), (2097151, 0, 3802951800684688204490109616128)] [19,20,21] [.one 0 true, .one 1 true, .one 2 true, .one 3 true, .one 4 true, .one 5 true, .one 6 true, .one 7 true, .one 8 true, .one 9 true, .one 10 true, .one 11 true, .one 12 true, .one 13 true, .one 14 true, .one 15 true, .one 16 true, .one 17 true, .one 18 false, .one 19 false, .one 20 false, .one 21 false] follows_any (by kernel_rfl) (by kernel_rfl) (by kernel_rfl) rfl ?_) | (refine hd_planY (id := 23) _ [] [.one 0 true, .one 1 true, .one 2 false, .one 3 false] follows_any (by kernel_rfl) rfl (by kernel_rfl) rfl ?_) | refine hd_draw follows_any (by decide +kernel) ?_)); exact k.go) : A := h ⟨k⟩
theorem wMgTf3 {A B : Prop} (k : B) (h : Kx B → A := by intro k; ((refine is_cw ?_; refine is_cd ?_; first | (refine hd_condT (by exact aX) (by exact pvMgTf1) ?_) | (refine hd_condF (by exact aX) (by exact pvMgTf1) ?_))); exact k.go) : A := h ⟨k⟩
theorem wMgTf4 {A B : Prop} (k : B) (h : Kx B → A := by intro k; (first | (refine is_pu ?_ (by rfl); first | (apply hd_gon; rfl; rfl; (focus (constructor; exact pvMgTf1; trivial))) | (apply hd_goff; rfl; rfl; (focus exact fun hs => absurd hs.1 (by exact nvMgTf1)); rfl) | (apply hd_gundef; rfl; rfl; rfl) | refine hd_opAB ?_ | ((first | apply hd_ok | apply ch_ok | (apply hd_pn_run; rfl; exact aM)); (focus exact zMgTf2); rfl; rfl) | ((first | apply hd_ok | apply ch_ok | (apply hd_pn_run; rfl; exact aM)); (focus exact zMgTf1); rfl; rfl)) | (refine is_pn ?_; first | refine hd_pn_nil ?_ | (apply hd_pn_runG; rfl; rfl; rfl; (focus (constructor; exact pvMgTf1; trivial)); exact aM; exact opB; rfl; rfl) | (apply hd_pn_offG; rfl; rfl; rfl; (focus exact fun hs => absurd hs.1 (by exact nvMgTf1)); exact aM; rfl; rfl) | (apply hd_pn_undefG; rfl; rfl; rfl; exact aM; rfl; rfl) | refine hd_pnAB ?_ | ((first | apply hd_ok | apply ch_ok | (apply hd_pn_run; rfl; exact aM)); (focus exact zMgTf2); rfl; rfl) | ((first | apply hd_ok | apply ch_ok | (apply hd_pn_run; rfl; exact aM)); (focus exact zMgTf1); rfl; rfl) | (refine hd_pn_op rfl ?_)) | (refine is_co ?_; first | (apply hd_gon; rfl; rfl; (focus (constructor; exact pvMgTf1; trivial))) | (apply hd_goff; rfl; rfl; (focus exact fun hs => absurd hs.1 (by exact nvMgTf1)); rfl) | (apply hd_gundef; rfl; rfl; rfl) | refine hd_copyA ?_ | ((first | apply hd_ok | apply ch_ok); (focus exact zMgTf3); rfl; rfl) | refine hd_storeA ?_ | refine hd_copyA ?_) | (refine is_ni ?_; first | (refine is_on ?_; first | refine pn_barA ?_ | refine pn_goA ?_ | refine pt_goA ?_ | refine ts_onA ?_) | refine hd_nil ?_) | refine wkA ?_ | (refine is_ch ?_; refine ch_opAB ?_) | ((first | apply hd_ok | apply ch_ok); (focus exact zMgTf3); rfl; rfl) | ((first | apply hd_ok | apply ch_ok | (apply hd_pn_run; rfl; exact aM)); (focus exact zMgTf2); rfl; rfl) | ((first | apply hd_ok | apply ch_ok | (apply hd_pn_run; rfl; exact aM)); (focus exact zMgTf1); rfl; rfl)); exact k.go) : A := h ⟨k⟩
theorem zMgTf4 {A : Prop} (h : A := by (first | assumption | exact Bs.mono (by assumption) (by exact aL))) : A := h
theorem ref20_parts {p : Option Addr} {n c : Nat} {rem : List Int} {sh : Bool} {k fr ic t : Int} (h : PH) (hs : Bs h p n c rem) (hn : n ≤ 60000) (r1 : inR .u8 k) (r2 : inR .u8 fr) (r3 : inR .u16 ic) (r4 : inR .u8 t) : GV.Spec Tryz.prog 39 #[.agg #[.slice p n c, .bool sh], .agg #[.int .u8 k, .int .u8 fr, .int .u16 ic, .int .u8 t, .slice none 0 0, .slice none 0 0, .int .u8 0, .int .u16 0, .int .u32 0, .slice none 0 0, .slice none 0 0, .int .u8 0, .int .u8 0, .int .u16 0, .int .u32 0, .slice none 0 0, .slice none 0 0]] h fun v h' => ∃ (a : MsP) (m : MsD) (p' : Option Addr) (n' c' : Nat) (rem' : List Int) (sh' : Bool), v = .tuple #[.agg (a.cs m).toArray, .agg #[.slice p' n' c', .bool sh']] ∧ VMsP h' a m ∧ Bs h' p' n' c' rem' ∧ n' ≤ n ∧ Rds (so sh rem) (pAt k (msH k fr ic t) 7) (so sh' rem') m := by
  have hu := True.intro
  refine spec_enter (args := [_, _]) Tryz.func39 rfl Tryz.ntmps39 rfl (fun w l => ?_)
  repeat' (first | (refine is_cw ?_; first | refine hd_stop2 (id := 2) ?_) | refine wMgTf2 ?_ | refine wMgTf3 ?_ | (refine is_cd ?_; first | refine hd_condA (fun _ => ?_) (fun _ => ?_)) | refine wMgTf1 ?_ | refine wkB (fun _ => ?_) | refine wkC (fun _ _ => ?_) | exact tsA | (refine ts_step rfl (fun HF h1 hle => ?_)))
  refine Stop.mk ?_
  rename_i b2 b3 b4 b5 b6
  refine hd_sub (L' := ptL b2 b3 b4 b5 b6) (by exact aU) ?_
  clear hu
  refine hd_all (PtI h n (so sh rem) k fr ic t 0) (fun _ => ptL b2 b3 b4 b5 b6) (ptH b2 b3 b4 b5 b6 k) (fun j => j.1) (h, (p, n, c, rem, sh), msH k fr ic t, aP0) ⟨PH.le_refl _, hs, Nat.le_refl _, Rds.pu _ _, v0P h r1 r2 r3 r4, ⟨fun _ => rfl, fun _ => rfl, fun _ => rfl, fun _ => rfl, fun _ => rfl, fun _ => rfl, fun _ => rfl⟩, fun _ => ⟨rfl, rfl, rfl⟩⟩ (by exact aU) (fun w hw => inv_only (by exact aS) hw) (fun j hj => ?_)
  obtain ⟨hk, ⟨pk, nk, ck, remk, shk⟩, m, a⟩ := j
  obtain ⟨hlk, hsk, hnk, Rk, vm, hU, hP⟩ := hj
  dsimp only [ptH, ptL] at hlk hsk hnk Rk vm hU hP ⊢
  refine hd_cut (ι := PJ) (PtI h n (so sh rem) k fr ic t 1) (fun _ => ptL b2 b3 b4 b5 b6) (ptH b2 b3 b4 b5 b6 k) (fun j => j.1) ?_ (fun j hj => ?_)
  · refine hd_split (c := mL k) (fun hu => ?_) (fun hu => ?_)
    rotate_left
    · repeat' (first | refine wMgTf2 ?_ | refine wMgTf3 ?_ | (refine is_cd ?_; first | refine hd_condA (fun _ => ?_) (fun _ => ?_)) | refine wMgTf1 ?_ | refine wkB (fun _ => ?_) | refine wkC (fun _ _ => ?_) | exact tsA | (refine ts_step rfl (fun HF h1 hle => ?_)))
      exact hd_leave (hk, (pk, nk, ck, remk, shk), m, a) ⟨hlk, hsk, hnk, Rk.at (pF_off0 hu (hU.z0 (by omega))), vm, hU.next, fun e => hP (by omega)⟩ (by exact aU) (fun w hw => inv_only (by exact aS) hw)
    · repeat' (first | (refine is_cx ?_ (by rfl); first | (refine hd_cA (s := by exact ref20_list _ (by exact zMgTf4) (by omega)) (k := ?_); rintro _ h5 hle5 ⟨xs, q, mm, d, p5, n5, c5, rem5, sh5, rfl, hx, hxl, hs5, hn5, R5⟩)) | refine wMgTf2 ?_ | refine wMgTf3 ?_ | (refine is_cd ?_; first | refine hd_condA (fun _ => ?_) (fun _ => ?_)) | refine wMgTf1 ?_ | refine wkB (fun _ => ?_) | refine wkC (fun _ _ => ?_) | exact tsA | (refine ts_step rfl (fun HF h1 hle => ?_)))
      exact hd_leave (h5, (p5, n5, c5, rem5, sh5), { m with list := xs }, { a with pl := q, nl := mm, cl := d }) ⟨PH.le_trans hlk hle5, hs5, by dsimp only; omega, Rk.at (pF_on0 hu R5), { vm.mono hle5 with list := hx, r := { vm.r with list := SlD_in hx } }, hU.on0, fun e => hP (by omega)⟩ (by exact aU) (fun w hw => inv_only (by exact aS) hw)
  obtain ⟨hk, ⟨pk, nk, ck, remk, shk⟩, m, a⟩ := j
  obtain ⟨hlk, hsk, hnk, Rk, vm, hU, hP⟩ := hj
  dsimp only [ptH, ptL] at hlk hsk hnk Rk vm hU hP ⊢
  refine hd_cut (ι := PJ) (PtI h n (so sh rem) k fr ic t 2) (fun _ => ptL b2 b3 b4 b5 b6) (ptH b2 b3 b4 b5 b6 k) (fun j => j.1) ?_ (fun j hj => ?_)
  · refine hd_split (c := mT k) (fun hu => ?_) (fun hu => ?_)
    rotate_left
    · repeat' (first | refine wMgTf2 ?_ | refine wMgTf3 ?_ | (refine is_cd ?_; first | refine hd_condA (fun _ => ?_) (fun _ => ?_)) | refine wMgTf1 ?_ | refine wkB (fun _ => ?_) | refine wkC (fun _ _ => ?_) | exact tsA | (refine ts_step rfl (fun HF h1 hle => ?_)))
      exact hd_leave (hk, (pk, nk, ck, remk, shk), m, a) ⟨hlk, hsk, hnk, Rk.at (pF_off1 hu (hU.z1 (by omega))), vm, hU.next, fun e => hP (by omega)⟩ (by exact aU) (fun w hw => inv_only (by exact aS) hw)
    · repeat' (first | (refine is_cx ?_ (by rfl); first | (refine hd_cA (s := by exact ref20_table _ (by exact zMgTf4) (by omega)) (k := ?_); rintro _ h5 hle5 ⟨xs, q, mm, d, p5, n5, c5, rem5, sh5, rfl, hx, hxl, hs5, hn5, R5⟩)) | refine wMgTf2 ?_ | refine wMgTf3 ?_ | (refine is_cd ?_; first | refine hd_condA (fun _ => ?_) (fun _ => ?_)) | refine wMgTf1 ?_ | refine wkB (fun _ => ?_) | refine wkC (fun _ _ => ?_) | exact tsA | (refine ts_step rfl (fun HF h1 hle => ?_)))
      exact hd_leave (h5, (p5, n5, c5, rem5, sh5), { m with table := xs }, { a with pt := q, nt := mm, ct := d }) ⟨PH.le_trans hlk hle5, hs5, by dsimp only; omega, Rk.at (pF_on1 hu R5), { vm.mono hle5 with table := hx, r := { vm.r with table := SlM_in hx } }, hU.on1, fun e => hP (by omega)⟩ (by exact aU) (fun w hw => inv_only (by exact aS) hw)
  obtain ⟨hk, ⟨pk, nk, ck, remk, shk⟩, m, a⟩ := j
  obtain ⟨hlk, hsk, hnk, Rk, vm, hU, hP⟩ := hj
  dsimp only [ptH, ptL] at hlk hsk hnk Rk vm hU hP ⊢
  refine hd_cut (ι := PJ) (PtI h n (so sh rem) k fr ic t 3) (fun _ => ptL b2 b3 b4 b5 b6) (ptH b2 b3 b4 b5 b6 k) (fun j => j.1) ?_ (fun j hj => ?_)
  · refine hd_split (c := mE k) (fun hu => ?_) (fun hu => ?_)
    rotate_left
    · repeat' (first | refine wMgTf2 ?_ | refine wMgTf3 ?_ | (refine is_cd ?_; first | refine hd_condA (fun _ => ?_) (fun _ => ?_)) | refine wMgTf1 ?_ | refine wkB (fun _ => ?_) | refine wkC (fun _ _ => ?_) | exact tsA | (refine ts_step rfl (fun HF h1 hle => ?_)))
      exact hd_leave (hk, (pk, nk, ck, remk, shk), m, a) ⟨hlk, hsk, hnk, Rk.at (pF_off2 hu (hU.z2 (by omega))), vm, hU.next, fun e => hP (by omega)⟩ (by exact aU) (fun w hw => inv_only (by exact aS) hw)
    · repeat' (first | (refine is_cx ?_ (by rfl); first | (refine hd_cA (s := by exact ref20_event _ (by exact zMgTf4) (by omega)) (k := ?_); rintro _ h5 hle5 ⟨xs, q, mm, d, q2, mm2, d2, p5, n5, c5, rem5, sh5, rfl, hx, hx2, hx3, hs5, hn5, R5⟩)) | refine wMgTf2 ?_ | refine wMgTf3 ?_ | (refine is_cd ?_; first | refine hd_condA (fun _ => ?_) (fun _ => ?_)) | refine wMgTf1 ?_ | refine wkB (fun _ => ?_) | refine wkC (fun _ _ => ?_) | exact tsA | (refine ts_step rfl (fun HF h1 hle => ?_)))
      exact hd_leave (h5, (p5, n5, c5, rem5, sh5), { m with ev := xs }, { a with pv := q, nv := mm, cv := d, pd := q2, nd := mm2, cd := d2 }) ⟨PH.le_trans hlk hle5, hs5, by dsimp only; omega, Rk.at (pF_on2 hu R5), { vm.mono hle5 with vals := hx, data := hx2, r := { vm.r with ev := ⟨hx3, hx.inR, hx2.inR⟩ } }, hU.on2, fun e => hP (by omega)⟩ (by exact aU) (fun w hw => inv_only (by exact aS) hw)
  obtain ⟨hk, ⟨pk, nk, ck, remk, shk⟩, m, a⟩ := j
  obtain ⟨hlk, hsk, hnk, Rk, vm, hU, hP⟩ := hj
  dsimp only [ptH, ptL] at hlk hsk hnk Rk vm hU hP ⊢
  refine hd_cut (ι := PJ) (PtI h n (so sh rem) k fr ic t 4) (fun _ => ptL b2 b3 b4 b5 b6) (ptH b2 b3 b4 b5 b6 k) (fun j => j.1) ?_ (fun j hj => ?_)
  · refine hd_split (c := mH k) (fun hu => ?_) (fun hu => ?_)
    rotate_left
    · repeat' (first | refine wMgTf2 ?_ | refine wMgTf3 ?_ | (refine is_cd ?_; first | refine hd_condA (fun _ => ?_) (fun _ => ?_)) | refine wMgTf1 ?_ | refine wkB (fun _ => ?_) | refine wkC (fun _ _ => ?_) | exact tsA | (refine ts_step rfl (fun HF h1 hle => ?_)))
      exact hd_leave (hk, (pk, nk, ck, remk, shk), m, a) ⟨hlk, hsk, hnk, Rk.at (pF_off3 hu (hU.z3 (by omega))), vm, hU.next, fun e => hP (by omega)⟩ (by exact aU) (fun w hw => inv_only (by exact aS) hw)
    · repeat' (first | (refine is_cx ?_ (by rfl); first | (refine hd_cA (s := by exact ref20_take1 _ (by exact zMgTf4) (by omega)) (k := ?_); rintro _ h5 hle5 ⟨xs, p5, n5, c5, rem5, sh5, rfl, xa5, xb5, hs5, hn5, R5⟩)) | (refine is_cw ?_; first | refine hd_stop0 (id := 10) ?_) | refine wMgTf2 ?_ | refine wMgTf3 ?_ | (refine is_cd ?_; first | refine hd_condA (fun _ => ?_) (fun _ => ?_)) | refine wMgTf1 ?_ | refine wkB (fun _ => ?_) | refine wkC (fun _ _ => ?_) | exact tsA | (refine ts_step rfl (fun HF h1 hle => ?_)))
      refine Stop.mk ?_
      refine hd_front (e := box b2 [.slice pk nk ck, .bool shk] 87) (by exact aP) ?_
      refine hd_front (e := box b3 [.int .u8 m.kind, .int .u8 m.frm, .int .u16 m.inc, .int .u8 m.to_, .slice a.pl a.nl a.cl, .slice a.pt a.nt a.ct, .int .u8 m.ev.1.1, .int .u16 m.ev.1.2.1, .int .u32 m.ev.1.2.2, .slice a.pv a.nv a.cv, .slice a.pd a.nd a.cd, .int .u8 m.hops, .int .u8 m.origin.1, .int .u16 m.origin.2.1, .int .u32 m.origin.2.2, .slice a.pm a.nm a.cm, .slice a.pi a.ni a.ci] 36) (by exact aP) ?_
      repeat' (first | (refine is_cx ?_ (by rfl); first | (refine hd_cA (s := by exact ref20_take1 _ (by exact zMgTf4) (by omega)) (k := ?_); rintro _ h5 hle5 ⟨xs, p5, n5, c5, rem5, sh5, rfl, xa5, xb5, hs5, hn5, R5⟩)) | refine wMgTf2 ?_ | refine wMgTf3 ?_ | (refine is_cd ?_; first | refine hd_condA (fun _ => ?_) (fun _ => ?_)) | refine wMgTf1 ?_ | refine wkB (fun _ => ?_) | refine wkC (fun _ _ => ?_) | exact tsA | (refine ts_step rfl (fun HF h1 hle => ?_)))
      exact hd_leave (h5, (p5, n5, c5, rem5, sh5), { m with hops := xs }, a) ⟨PH.le_trans hlk hle5, hs5, by dsimp only; omega, Rk.at (pF_on3 hu R5), { vm.mono hle5 with r := { vm.r with hops := ⟨xa5, show xs ≤ 255 by omega⟩ } }, hU.on3, fun e => hP (by omega)⟩ (by exact aU) (fun w hw => inv_only (by exact aS) hw)
  obtain ⟨hk, ⟨pk, nk, ck, remk, shk⟩, m, a⟩ := j
  obtain ⟨hlk, hsk, hnk, Rk, vm, hU, hP⟩ := hj
  dsimp only [ptH, ptL] at hlk hsk hnk Rk vm hU hP ⊢
  refine hd_cut (ι := PJ) (PtI h n (so sh rem) k fr ic t 5) (fun _ => ptL b2 b3 b4 b5 b6) (ptH b2 b3 b4 b5 b6 k) (fun j => j.1) ?_ (fun j hj => ?_)
  · refine hd_split (c := mO k) (fun hu => ?_) (fun hu => ?_)
    rotate_left
    · repeat' (first | refine wMgTf2 ?_ | refine wMgTf3 ?_ | (refine is_cd ?_; first | refine hd_condA (fun _ => ?_) (fun _ => ?_)) | refine wMgTf1 ?_ | refine wkB (fun _ => ?_) | refine wkC (fun _ _ => ?_) | exact tsA | (refine ts_step rfl (fun HF h1 hle => ?_)))
      exact hd_leave (hk, (pk, nk, ck, remk, shk), m, a) ⟨hlk, hsk, hnk, Rk.at (pF_off4 hu (hU.z4 (by omega))), vm, hU.next, fun e => hP (by omega)⟩ (by exact aU) (fun w hw => inv_only (by exact aS) hw)
    · repeat' (first | (refine is_cx ?_ (by rfl); first | (refine hd_cA (s := by exact ref20_mark _ (by exact zMgTf4) (by omega)) (k := ?_); rintro _ h5 hle5 ⟨xs, p5, n5, c5, rem5, sh5, rfl, hx, hs5, hn5, R5⟩)) | (refine is_cw ?_; first | refine hd_stop0 (id := 13) ?_) | refine wMgTf2 ?_ | refine wMgTf3 ?_ | (refine is_cd ?_; first | refine hd_condA (fun _ => ?_) (fun _ => ?_)) | refine wMgTf1 ?_ | refine wkB (fun _ => ?_) | refine wkC (fun _ _ => ?_) | exact tsA | (refine ts_step rfl (fun HF h1 hle => ?_)))
      refine Stop.mk ?_
      refine hd_front (e := box b2 [.slice pk nk ck, .bool shk] 87) (by exact aP) ?_
      refine hd_front (e := box b3 [.int .u8 m.kind, .int .u8 m.frm, .int .u16 m.inc, .int .u8 m.to_, .slice a.pl a.nl a.cl, .slice a.pt a.nt a.ct, .int .u8 m.ev.1.1, .int .u16 m.ev.1.2.1, .int .u32 m.ev.1.2.2, .slice a.pv a.nv a.cv, .slice a.pd a.nd a.cd, .int .u8 m.hops, .int .u8 m.origin.1, .int .u16 m.origin.2.1, .int .u32 m.origin.2.2, .slice a.pm a.nm a.cm, .slice a.pi a.ni a.ci] 36) (by exact aP) ?_
      repeat' (first | (refine is_cx ?_ (by rfl); first | (refine hd_cA (s := by exact ref20_mark _ (by exact zMgTf4) (by omega)) (k := ?_); rintro _ h5 hle5 ⟨xs, p5, n5, c5, rem5, sh5, rfl, hx, hs5, hn5, R5⟩)) | refine wMgTf2 ?_ | refine wMgTf3 ?_ | (refine is_cd ?_; first | refine hd_condA (fun _ => ?_) (fun _ => ?_)) | refine wMgTf1 ?_ | refine wkB (fun _ => ?_) | refine wkC (fun _ _ => ?_) | exact tsA | (refine ts_step rfl (fun HF h1 hle => ?_)))
      exact hd_leave (h5, (p5, n5, c5, rem5, sh5), { m with origin := xs }, a) ⟨PH.le_trans hlk hle5, hs5, by dsimp only; omega, Rk.at (pF_on4 hu R5), { vm.mono hle5 with r := { vm.r with origin := hx } }, hU.on4, fun e => hP (by omega)⟩ (by exact aU) (fun w hw => inv_only (by exact aS) hw)
  obtain ⟨hk, ⟨pk, nk, ck, remk, shk⟩, m, a⟩ := j
  obtain ⟨hlk, hsk, hnk, Rk, vm, hU, hP⟩ := hj
  dsimp only [ptH, ptL] at hlk hsk hnk Rk vm hU hP ⊢
  refine hd_cut (ι := PJ) (PtI h n (so sh rem) k fr ic t 6) (fun _ => ptL b2 b3 b4 b5 b6) (ptH b2 b3 b4 b5 b6 k) (fun j => j.1) ?_ (fun j hj => ?_)
  · refine hd_split (c := mO k) (fun hu => ?_) (fun hu => ?_)
    rotate_left
    · repeat' (first | refine wMgTf2 ?_ | refine wMgTf3 ?_ | (refine is_cd ?_; first | refine hd_condA (fun _ => ?_) (fun _ => ?_)) | refine wMgTf1 ?_ | refine wkB (fun _ => ?_) | refine wkC (fun _ _ => ?_) | exact tsA | (refine ts_step rfl (fun HF h1 hle => ?_)))
      exact hd_leave (hk, (pk, nk, ck, remk, shk), m, a) ⟨hlk, hsk, hnk, Rk.at (pF_off5 hu (hU.z5 (by omega))), vm, hU.next, fun e => hP (by omega)⟩ (by exact aU) (fun w hw => inv_only (by exact aS) hw)
    · repeat' (first | (refine is_cx ?_ (by rfl); first | (refine hd_cA (s := by exact ref20_ids _ (by exact zMgTf4) (by omega)) (k := ?_); rintro _ h5 hle5 ⟨xs, q, mm, d, p5, n5, c5, rem5, sh5, rfl, hx, hxl, hs5, hn5, R5⟩)) | refine wMgTf2 ?_ | refine wMgTf3 ?_ | (refine is_cd ?_; first | refine hd_condA (fun _ => ?_) (fun _ => ?_)) | refine wMgTf1 ?_ | refine wkB (fun _ => ?_) | refine wkC (fun _ _ => ?_) | exact tsA | (refine ts_step rfl (fun HF h1 hle => ?_)))
      obtain ⟨e1, e2, e3⟩ := hP (by omega)
      have hme : m.marks = [] := hU.z5 (by omega)
      have hxn := hx.len
      rw [e1, e2, e3]
      refine hd_nilrow 32 3 ?_
      rename_i b12
      have hu5 := hu
      clear hu
      refine hd_loopS (ι := Nat × (Option Addr × Nat × List (List Value))) (fun i => i.1 ≤ mm ∧ All2 (rID.ok h5) i.2.2.2 (xs.take i.1)) (fun i => ptL b2 b3 b4 b5 b6 ++ [(11, [], .slice q mm d), (12, [], .pointer (some ⟨b12, 0, none⟩)), (13, [], .int .i64 i.1)]) (fun i => [row i.2.1 i.1 i.2.2.1 32 3 i.2.2.2.flatten, box b3 [.int .u8 m.kind, .int .u8 m.frm, .int .u16 m.inc, .int .u8 m.to_, .slice a.pl a.nl a.cl, .slice a.pt a.nt a.ct, .int .u8 m.ev.1.1, .int .u16 m.ev.1.2.1, .int .u32 m.ev.1.2.2, .slice a.pv a.nv a.cv, .slice a.pd a.nd a.cd, .int .u8 m.hops, .int .u8 m.origin.1, .int .u16 m.origin.2.1, .int .u32 m.origin.2.2, .slice i.2.1 i.1 i.2.2.1, .slice a.pi a.ni a.ci] 36, box b2 [.slice pk nk ck, .bool shk] 87, box b12 [.slice p5 n5 c5, .bool sh5] 87, box b4 [.int .u8 0, .int .u8 0, .int .u16 0, .int .u8 0, .slice none 0 0, .slice none 0 0, .int .u8 0, .int .u16 0, .int .u32 0, .slice none 0 0, .slice none 0 0, .int .u8 0, .int .u8 0, .int .u16 0, .int .u32 0, .slice none 0 0, .slice none 0 0] 36, box b5 [.slice none 0 0, .bool false] 87, box b6 [.bool (mL k), .bool (mT k), .bool (mE k), .bool (mH k), .bool (mO k), .bool (mO k), .bool (mJ k)] 72]) (fun _ => h5) (fun i => mm - i.1) (0, (none, 0, [])) ⟨by simp, trivial⟩ (by exact aU) (fun w hw => inv_only (by exact aS) hw) (fun i hi => ?_)
      obtain ⟨i, pr, cr, css⟩ := i
      obtain ⟨hi0, hall⟩ := hi
      dsimp only at hi0 hall ⊢
      have hcl : css.length = i := by rw [hall.length, List.length_take]; omega
      refine hd_split (c := decide (i < mm)) (fun hlt => ?_) (fun hlt => ?_)
      · simp only [decide_eq_true_eq] at hlt
        have hu : decide ((i : Int) < (mm : Int)) = true := decide_eq_true (by omega)
        obtain ⟨y1, hy1⟩ := get_of hxn hlt
        obtain ⟨cs1, hpub, hok1, hptr⟩ := hx.at hy1
        obtain ⟨rfl, hz⟩ := rID_ok hok1
        have hz2 := hz
        simp only [MkR, inR] at hz2
        repeat' (first | (refine is_cx ?_ (by rfl); first | (apply hd_append; exact aX; exact aX; exact aP; (focus exact Src.row (by exact aH)); rfl; rfl; (focus omega); (focus omega); rfl; (refine fun p9 c9 => ?_)) | refine hd_makeA (fun _ => ?_) | refine hd_litA (fun _ => ?_) | refine hd_appendA (fun _ _ => ?_)) | refine wMgTf2 ?_ | refine wMgTf3 ?_ | (refine is_cd ?_; first | refine hd_condA (fun _ => ?_) (fun _ => ?_)) | refine wMgTf4 ?_ | refine wkB (fun _ => ?_) | refine wkC (fun _ _ => ?_) | exact tsA | (refine ts_step rfl (fun HF h1 hle => ?_)))
        exact hd_again (i + 1, (p9, c9, css ++ [[.int .u8 y1.1, .int .u16 y1.2.1, .int .u32 y1.2.2]])) ⟨by dsimp only; omega, by dsimp only; rw [take_step hy1]; exact All2.snoc hall (rID_mk hz)⟩ (by dsimp only; omega) (by exact aU) (fun w hw => by simp only [List.flatten_append, List.flatten_cons, List.flatten_nil, List.append_nil]; exact inv_only (by exact aS) hw)
      simp only [decide_eq_false_iff_not] at hlt
      have hu : decide ((i : Int) < (mm : Int)) = false := decide_eq_false (by omega)
      have him : i = mm := by omega
      subst him
      rw [List.take_of_length_le (by omega)] at hall
      repeat' (first | refine wMgTf2 ?_ | refine wMgTf3 ?_ | (refine is_cd ?_; first | refine hd_condA (fun _ => ?_) (fun _ => ?_)) | refine wMgTf1 ?_ | refine wkB (fun _ => ?_) | refine wkC (fun _ _ => ?_) | exact tsA | (refine ts_step rfl (fun HF h1 hle => ?_)))
      refine hd_pubR (r := rID) css xs (by exact aP) rfl hall hxn (by omega) (fun h6 hle6 hsl => ?_)
      exact hd_leave (h6, (p5, n5, c5, rem5, sh5), { m with marks := xs }, { a with pm := pr, nm := i, cm := cr }) ⟨by exact aL, hs5.mono hle6, by dsimp only; omega, Rk.at (pF_on5 hu5 R5), { vm.mono (PH.le_trans hle5 hle6) with marks := hsl, r := { vm.r with marks := SlK_in hx } }, hU.on5, fun e => absurd e (by omega)⟩ (by exact aU) (fun w hw => inv_only (by exact aS) hw)
  obtain ⟨hk, ⟨pk, nk, ck, remk, shk⟩, m, a⟩ := j
  obtain ⟨hlk, hsk, hnk, Rk, vm, hU, hP⟩ := hj
  dsimp only [ptH, ptL] at hlk hsk hnk Rk vm hU hP ⊢
  refine hd_cut (ι := PJ) (PtI h n (so sh rem) k fr ic t 7) (fun _ => ptL b2 b3 b4 b5 b6) (ptH b2 b3 b4 b5 b6 k) (fun j => j.1) ?_ (fun j hj => ?_)
  · refine hd_split (c := mJ k) (fun hu => ?_) (fun hu => ?_)
    rotate_left
    · repeat' (first | refine wMgTf2 ?_ | refine wMgTf3 ?_ | (refine is_cd ?_; first | refine hd_condA (fun _ => ?_) (fun _ => ?_)) | refine wMgTf1 ?_ | refine wkB (fun _ => ?_) | refine wkC (fun _ _ => ?_) | exact tsA | (refine ts_step rfl (fun HF h1 hle => ?_)))
      exact hd_leave (hk, (pk, nk, ck, remk, shk), m, a) ⟨hlk, hsk, hnk, Rk.at (pF_off6 hu (hU.z6 (by omega))), vm, hU.next, fun e => hP (by omega)⟩ (by exact aU) (fun w hw => inv_only (by exact aS) hw)
    · repeat' (first | (refine is_cx ?_ (by rfl); first | (refine hd_cA (s := by exact ref20_ids _ (by exact zMgTf4) (by omega)) (k := ?_); rintro _ h5 hle5 ⟨xs, q, mm, d, p5, n5, c5, rem5, sh5, rfl, hx, hxl, hs5, hn5, R5⟩)) | refine wMgTf2 ?_ | refine wMgTf3 ?_ | (refine is_cd ?_; first | refine hd_condA (fun _ => ?_) (fun _ => ?_)) | refine wMgTf1 ?_ | refine wkB (fun _ => ?_) | refine wkC (fun _ _ => ?_) | exact tsA | (refine ts_step rfl (fun HF h1 hle => ?_)))
      exact hd_leave (h5, (p5, n5, c5, rem5, sh5), { m with ids := xs }, { a with pi := q, ni := mm, ci := d }) ⟨PH.le_trans hlk hle5, hs5, by dsimp only; omega, Rk.at (pF_on6 hu R5), { vm.mono hle5 with ids := hx, r := { vm.r with ids := SlK_in hx } }, hU.on6, fun e => hP (by omega)⟩ (by exact aU) (fun w hw => inv_only (by exact aS) hw)
  obtain ⟨hk, ⟨pk, nk, ck, remk, shk⟩, m, a⟩ := j
  obtain ⟨hlk, hsk, hnk, Rk, vm, hU, hP⟩ := hj
  dsimp only [ptH, ptL] at hlk hsk hnk Rk vm hU hP ⊢
  have hu := True.intro
  repeat' (first | (refine is_cw ?_; first | refine hd_stop1 (id := 23) ?_) | refine wMgTf2 ?_ | refine wMgTf3 ?_ | (refine is_cd ?_; first | refine hd_condA (fun _ => ?_) (fun _ => ?_)) | refine wMgTf1 ?_ | refine wkB (fun _ => ?_) | refine wkC (fun _ _ => ?_) | exact tsA | (refine ts_step rfl (fun HF h1 hle => ?_)))
  refine Stop.mk ?_
  refine hd_front (e := box b5 [.slice none 0 0, .bool false] 87) (by exact aP) ?_
  refine hd_front (e := box b4 [.int .u8 0, .int .u8 0, .int .u16 0, .int .u8 0, .slice none 0 0, .slice none 0 0, .int .u8 0, .int .u16 0, .int .u32 0, .slice none 0 0, .slice none 0 0, .int .u8 0, .int .u8 0, .int .u16 0, .int .u32 0, .slice none 0 0, .slice none 0 0] 36) (by exact aP) ?_
  repeat' (first | refine wMgTf2 ?_ | refine wMgTf3 ?_ | (refine is_cd ?_; first | refine hd_condA (fun _ => ?_) (fun _ => ?_)) | refine wMgTf1 ?_ | refine wkB (fun _ => ?_) | refine wkC (fun _ _ => ?_) | exact tsA | (refine ts_step rfl (fun HF h1 hle => ?_)))
  (apply hd_resS (Hi := []); (focus (first | exact .inl rfl | exact .inr rfl)); rfl; exact aR; exact aS)
  exact ⟨⟨a, m, pk, nk, ck, remk, shk, rfl, vm, hsk, hnk, Rk⟩, rfl⟩
theorem errR {h h' : PH} {bs : List Int} {v : Value} {e : Int} (hp : parseB bs = (MsD.zero, e)) (hv : v = .tuple #[.agg (aP0.cs MsD.zero).toArray, .int .i64 e]) : ∃ a : MsP, v = .tuple #[.agg (a.cs (parseB bs).1).toArray, .int .i64 (parseB bs).2] ∧ VMsP h' a (parseB bs).1 := by
  rw [hp]
  exact ⟨aP0, hv, v0P _ (by simp [inR]) (by simp [inR]) (by simp [inR]) (by simp [inR])⟩
theorem zMgTf5 {A : Prop} (h : A := by ((first | (apply OK.plain; rfl) | (apply OK.guarded; rfl; rfl; (intro hg; (try have hk := hg.2); (try have hl := hg.2.2); (try have hm := hg.2.2.2)))); (first | (apply od_call; exact aX; infer_instance; exact aE; exact aN; (focus (first | exact ref20_Right _ vm))) ))) : A := h
theorem wMgTf5 {A B : Prop} (k : B) (h : Kx B → A := by intro k; (first | (refine is_pu ?_ (by rfl); first | (apply hd_gon; rfl; rfl; (focus (constructor; exact pvMgTf1; trivial))) | (apply hd_goff; rfl; rfl; (focus exact fun hs => absurd hs.1 (by exact nvMgTf1)); rfl) | (apply hd_gundef; rfl; rfl; rfl) | refine hd_opAB ?_ | ((first | apply hd_ok | apply ch_ok | (apply hd_pn_run; rfl; exact aM)); (focus exact zMgTf2); rfl; rfl) | ((first | apply hd_ok | apply ch_ok | (apply hd_pn_run; rfl; exact aM)); (focus exact zMgTf1); rfl; rfl)) | (refine is_pn ?_; first | refine hd_pn_nil ?_ | (apply hd_pn_runG; rfl; rfl; rfl; (focus (constructor; exact pvMgTf1; trivial)); exact aM; exact opB; rfl; rfl) | (apply hd_pn_offG; rfl; rfl; rfl; (focus exact fun hs => absurd hs.1 (by exact nvMgTf1)); exact aM; rfl; rfl) | (apply hd_pn_undefG; rfl; rfl; rfl; exact aM; rfl; rfl) | refine hd_pnAB ?_ | ((first | apply hd_ok | apply ch_ok | (apply hd_pn_run; rfl; exact aM)); (focus exact zMgTf2); rfl; rfl) | ((first | apply hd_ok | apply ch_ok | (apply hd_pn_run; rfl; exact aM)); (focus exact zMgTf1); rfl; rfl) | (refine hd_pn_op rfl ?_)) | (refine is_co ?_; first | (apply hd_gon; rfl; rfl; (focus (constructor; exact pvMgTf1; trivial))) | (apply hd_goff; rfl; rfl; (focus exact fun hs => absurd hs.1 (by exact nvMgTf1)); rfl) | (apply hd_gundef; rfl; rfl; rfl) | ((first | apply hd_ok | apply ch_ok); (focus exact zMgTf5); rfl; rfl) | refine hd_storeA ?_ | refine hd_copyA ?_) | (refine is_ni ?_; first | (refine is_on ?_; first | refine pn_barA ?_ | refine pn_goA ?_ | refine pt_goA ?_ | refine ts_onA ?_) | refine hd_nil ?_) | refine wkA ?_ | (refine is_ch ?_; refine ch_opAB ?_) | ((first | apply hd_ok | apply ch_ok); (focus exact zMgTf5); rfl; rfl) | ((first | apply hd_ok | apply ch_ok | (apply hd_pn_run; rfl; exact aM)); (focus exact zMgTf2); rfl; rfl) | ((first | apply hd_ok | apply ch_ok | (apply hd_pn_run; rfl; exact aM)); (focus exact zMgTf1); rfl; rfl)); exact k.go) : A := h ⟨k⟩
theorem wMgTf6 {A B : Prop} (k : B) (h : Kx B → A := by intro k; ((refine is_cw ?_; refine is_rg ?_; first | refine hd_draw follows_any (by decide +kernel) ?_)); exact k.go) : A := h ⟨k⟩
theorem ref20_Parse {p : Option Addr} {n c : Nat} {bs : List Int} (h : PH) (hs : Bs h p n c bs) (hn : n ≤ 60000) : GV.Spec Tryz.prog 16 #[.slice p n c] h fun v h' => ∃ a : MsP, v = .tuple #[.agg (a.cs (parseB bs).1).toArray, .int .i64 (parseB bs).2] ∧ VMsP h' a (parseB bs).1 := by
  have hl := hs.len
  have hol := openB_len bs
  have hon : (openB bs).length ≤ 60000 := by omega
  refine spec_enter (args := [_]) Tryz.func16 rfl Tryz.ntmps16 rfl (fun w l => ?_)
  refine hd_split (c := decide (openE bs = 0)) (fun hu0 => ?_) (fun hu0 => ?_)
  rotate_left
  · simp only [decide_eq_false_iff_not] at hu0
    have hu := True.intro
    repeat' (first | (refine is_cx ?_ (by rfl); first | (refine hd_cA (s := by exact ref2_OpenP _ hs (by omega)) (k := ?_); rintro _ h0 hle0 ⟨p0, c0, rfl, hs0⟩)) | refine wMgTf6 ?_ | refine wMgTf3 ?_ | (refine is_cd ?_; first | refine hd_condA (fun _ => ?_) (fun _ => ?_)) | refine wMgTf5 ?_ | refine wkB (fun _ => ?_) | refine wkC (fun _ _ => ?_) | exact tsA | (refine ts_step rfl (fun HF h1 hle => ?_)))
    (apply hd_resS (Hi := []); (focus (first | exact .inl rfl | exact .inr rfl)); rfl; exact aR; exact aS)
    exact ⟨errR (h := h) (by simp only [parseB, if_pos hu0]) rfl, rfl⟩
  simp only [decide_eq_true_eq] at hu0
  have hu := True.intro
  repeat' (first | (refine is_cx ?_ (by rfl); first | (refine hd_cA (s := by exact ref2_OpenP _ hs (by omega)) (k := ?_); rintro _ h0 hle0 ⟨p0, c0, rfl, hs0⟩) | (refine hd_cA (s := by exact ref20_take1 _ (by exact zMgTf4) (by omega)) (k := ?_); rintro _ h1 hle1 ⟨xk, p1, n1, c1, rem1, sh1, rfl, xk_0, xk_1, hs1, hn1, R1⟩)) | (refine is_cw ?_; first | refine hd_stop1 (id := 6) ?_) | refine wMgTf6 ?_ | refine wMgTf3 ?_ | (refine is_cd ?_; first | refine hd_condA (fun _ => ?_) (fun _ => ?_)) | refine wMgTf5 ?_ | refine wkB (fun _ => ?_) | refine wkC (fun _ _ => ?_) | exact tsA | (refine ts_step rfl (fun HF h1 hle => ?_)))
  refine Stop.mk ?_
  repeat' (first | (refine is_cx ?_ (by rfl); first | (refine hd_cA (s := by exact ref20_take1 _ (by exact zMgTf4) (by omega)) (k := ?_); rintro _ h2 hle2 ⟨xf, p2, n2, c2, rem2, sh2, rfl, xf_0, xf_1, hs2, hn2, R2⟩)) | (refine is_cw ?_; first | refine hd_stop1 (id := 7) ?_) | refine wMgTf6 ?_ | refine wMgTf3 ?_ | (refine is_cd ?_; first | refine hd_condA (fun _ => ?_) (fun _ => ?_)) | refine wMgTf5 ?_ | refine wkB (fun _ => ?_) | refine wkC (fun _ _ => ?_) | exact tsA | (refine ts_step rfl (fun HF h1 hle => ?_)))
  refine Stop.mk ?_
  repeat' (first | (refine is_cx ?_ (by rfl); first | (refine hd_cA (s := by exact ref20_take2 _ (by exact zMgTf4) (by omega)) (k := ?_); rintro _ h3 hle3 ⟨xi, p3, n3, c3, rem3, sh3, rfl, xi_0, xi_1, hs3, hn3, R3⟩)) | (refine is_cw ?_; first | refine hd_stop1 (id := 8) ?_) | refine wMgTf6 ?_ | refine wMgTf3 ?_ | (refine is_cd ?_; first | refine hd_condA (fun _ => ?_) (fun _ => ?_)) | refine wMgTf5 ?_ | refine wkB (fun _ => ?_) | refine wkC (fun _ _ => ?_) | exact tsA | (refine ts_step rfl (fun HF h1 hle => ?_)))
  refine Stop.mk ?_
  repeat' (first | (refine is_cx ?_ (by rfl); first | (refine hd_cA (s := by exact ref20_take1 _ (by exact zMgTf4) (by omega)) (k := ?_); rintro _ h4 hle4 ⟨xt, p4, n4, c4, rem4, sh4, rfl, xt_0, xt_1, hs4, hn4, R4⟩)) | (refine is_cw ?_; first | refine hd_stop1 (id := 9) ?_) | refine wMgTf6 ?_ | refine wMgTf3 ?_ | (refine is_cd ?_; first | refine hd_condA (fun _ => ?_) (fun _ => ?_)) | refine wMgTf5 ?_ | refine wkB (fun _ => ?_) | refine wkC (fun _ _ => ?_) | exact tsA | (refine ts_step rfl (fun HF h1 hle => ?_)))
  refine Stop.mk ?_
  have xk_2 : xk < 256 := xk_1
  have xf_2 : xf < 256 := xf_1
  have xi_2 : xi < 65536 := xi_1
  have xt_2 : xt < 256 := xt_1
  repeat' (first | (refine is_cx ?_ (by rfl); first | (refine hd_cA (s := by exact ref20_parts _ (by exact zMgTf4) (by omega) ⟨by omega, show xk ≤ 255 by omega⟩ ⟨by omega, show xf ≤ 255 by omega⟩ ⟨by omega, show xi ≤ 65535 by omega⟩ ⟨by omega, show xt ≤ 255 by omega⟩) (k := ?_); rintro _ h5 hle5 ⟨a, m, p5, n5, c5, rem5, sh5, rfl, vm, hs5, hn5, R5⟩)) | (refine is_cw ?_; first | refine hd_stop2 (id := 10) ?_) | refine wMgTf6 ?_ | refine wMgTf3 ?_ | (refine is_cd ?_; first | refine hd_condA (fun _ => ?_) (fun _ => ?_)) | refine wMgTf5 ?_ | refine wkB (fun _ => ?_) | refine wkC (fun _ _ => ?_) | exact tsA | (refine ts_step rfl (fun HF h1 hle => ?_)))
  refine Stop.mk ?_
  clear hu
  have hE : ¬ openE bs ≠ 0 := by omega
  have hlen := hs5.len
  cases sh5 with
  | true =>
    have hu := True.intro
    repeat' (first | refine wMgTf6 ?_ | refine wMgTf3 ?_ | (refine is_cd ?_; first | refine hd_condA (fun _ => ?_) (fun _ => ?_)) | refine wMgTf5 ?_ | refine wkB (fun _ => ?_) | refine wkC (fun _ _ => ?_) | exact tsA | (refine ts_step rfl (fun HF h1 hle => ?_)))
    (apply hd_resS (Hi := []); (focus (first | exact .inl rfl | exact .inr rfl)); rfl; exact aR; exact aS)
    refine ⟨errR (h := h) (by
      rw [parseB, if_neg hE]
      cases hK : kdM xk with
      | false => exact parseM_none (pMsg_bad R1 R2 R3 R4 hK)
      | true => exact parseM_none (pMsg_good R1 R2 R3 R4 hK R5)) rfl, rfl⟩
  | false =>
    have hbad : kdM xk = false → parseB bs = (MsD.zero, 10) := fun hK => by rw [parseB, if_neg hE]; exact parseM_none (pMsg_bad R1 R2 R3 R4 hK)
    have hgood : kdM xk = true → parseB bs = if rem5 = [] then (if rightM m then (m, 0) else (MsD.zero, 200)) else (MsD.zero, 10) := fun hK => by rw [parseB, if_neg hE]; exact parseM_some (pMsg_good R1 R2 R3 R4 hK R5)
    refine hd_split (c := decide ((n5 : Int) > 0)) (fun hu => ?_) (fun hu => ?_)
    · simp only [decide_eq_true_eq] at hu
      repeat' (first | refine wMgTf6 ?_ | refine wMgTf3 ?_ | (refine is_cd ?_; first | refine hd_condA (fun _ => ?_) (fun _ => ?_)) | refine wMgTf5 ?_ | refine wkB (fun _ => ?_) | refine wkC (fun _ _ => ?_) | exact tsA | (refine ts_step rfl (fun HF h1 hle => ?_)))
      (apply hd_resS (Hi := []); (focus (first | exact .inl rfl | exact .inr rfl)); rfl; exact aR; exact aS)
      refine ⟨errR (h := h) (by
        cases hK : kdM xk with
        | false => exact hbad hK
        | true => rw [hgood hK, if_neg (by intro e; rw [e] at hlen; simp at hlen; omega)]) rfl, rfl⟩
    simp only [decide_eq_false_iff_not] at hu
    have hr : rem5 = [] := List.eq_nil_of_length_eq_zero (by omega)
    refine hd_split (c := decide (xk < 1)) (fun hu1 => ?_) (fun hu1 => ?_)
    · simp only [decide_eq_true_eq] at hu1
      repeat' (first | refine wMgTf6 ?_ | refine wMgTf3 ?_ | (refine is_cd ?_; first | refine hd_condA (fun _ => ?_) (fun _ => ?_)) | refine wMgTf5 ?_ | refine wkB (fun _ => ?_) | refine wkC (fun _ _ => ?_) | exact tsA | (refine ts_step rfl (fun HF h1 hle => ?_)))
      (apply hd_resS (Hi := []); (focus (first | exact .inl rfl | exact .inr rfl)); rfl; exact aR; exact aS)
      exact ⟨errR (h := h) (hbad (by simp only [kdM, Bool.and_eq_false_iff, decide_eq_false_iff_not]; omega)) rfl, rfl⟩
    simp only [decide_eq_false_iff_not] at hu1
    refine hd_split (c := decide (xk > 12)) (fun hu2 => ?_) (fun hu2 => ?_)
    · simp only [decide_eq_true_eq] at hu2
      repeat' (first | refine wMgTf6 ?_ | refine wMgTf3 ?_ | (refine is_cd ?_; first | refine hd_condA (fun _ => ?_) (fun _ => ?_)) | refine wMgTf5 ?_ | refine wkB (fun _ => ?_) | refine wkC (fun _ _ => ?_) | exact tsA | (refine ts_step rfl (fun HF h1 hle => ?_)))
      (apply hd_resS (Hi := []); (focus (first | exact .inl rfl | exact .inr rfl)); rfl; exact aR; exact aS)
      exact ⟨errR (h := h) (hbad (by simp only [kdM, Bool.and_eq_false_iff, decide_eq_false_iff_not]; omega)) rfl, rfl⟩
    simp only [decide_eq_false_iff_not] at hu2
    have hK : kdM xk = true := by simp only [kdM, Bool.and_eq_true, decide_eq_true_eq]; omega
    have hM := hgood hK
    rw [if_pos hr] at hM
    have hu3 := hu
    refine hd_split (c := rightM m) (fun hu => ?_) (fun hu => ?_)
    · have hR := hu
      repeat' (first | refine wMgTf6 ?_ | refine wMgTf3 ?_ | (refine is_cd ?_; first | refine hd_condA (fun _ => ?_) (fun _ => ?_)) | refine wMgTf5 ?_ | refine wkB (fun _ => ?_) | refine wkC (fun _ _ => ?_) | exact tsA | (refine ts_step rfl (fun HF h1 hle => ?_)))
      (apply hd_resS (Hi := []); (focus (first | exact .inl rfl | exact .inr rfl)); rfl; exact aR; exact aS)
      exact ⟨⟨a, by rw [hM, if_pos hR]; rfl, by rw [hM, if_pos hR]; exact vm⟩, rfl⟩
    · have hR := hu
      repeat' (first | refine wMgTf6 ?_ | refine wMgTf3 ?_ | (refine is_cd ?_; first | refine hd_condA (fun _ => ?_) (fun _ => ?_)) | refine wMgTf5 ?_ | refine wkB (fun _ => ?_) | refine wkC (fun _ _ => ?_) | exact tsA | (refine ts_step rfl (fun HF h1 hle => ?_)))
      (apply hd_resS (Hi := []); (focus (first | exact .inl rfl | exact .inr rfl)); rfl; exact aR; exact aS)
      exact ⟨errR (h := h) (by rw [hM, if_neg (by rw [hR]; decide)]) rfl, rfl⟩
end Go.Proofs.YtmpfeaoofkkhjaaGreat
