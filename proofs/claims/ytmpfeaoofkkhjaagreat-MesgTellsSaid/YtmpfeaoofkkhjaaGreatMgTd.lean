/- grapevineref20's reader: numbers, marks, tables, ids. Printed by gen_mgtd.py. -/
import Derived.Test.YtmpfeaoofkkhjaaGreatMgTc
set_option linter.unusedVariables false
namespace Go.GV
open Go
section
variable {P : Program} {C : Ctx} {N : Fr} {L : En} {H H' : List HE} {h : PH} {Q : Exit → Act → World → Prop}
theorem hd_front {R : Act → World → Prop} {e : HE} (hpk : Pick H e H') (next : Hd C N L (e :: H') h R) : Hd C N L H h R := hd_inv (fun _ hw => hw.pick hpk) next
/-- Drawn orders in which the first two private blocks may change. -/
theorem hd_planY {ρ : Option Nat} {H0 : List HE} {e1 e2 : HE} {id : Nat} {l : List Oper} (T : List Row3) (B : List Nat) (pl : List PI) (hm : P.follows .mixedOrders = true) (hs : Region.noSelect l.toArray = true) (hT : tableOf l = T) (hp : planT T B [] pl 0 = true)
    (hn : Nat.beq (sizeN pl) l.length = true) (hx : Hd C N L (e1 :: e2 :: H0) h (wpPn P l.toArray (Q .normal) B pl (SS C H0 h))) : Hd C N L (e1 :: e2 :: H0) h (cw ρ P (Code.region id l.toArray true) Q) :=
  ⟨fun a _ ha hw => wp_planN hm hs (plan_eq B [] (fun i hi => by cases hi) pl _ 0 (Same.zero _) (by rw [hT]; exact hp)) hn (hx.all a _ ha hw.drawn)⟩
end
end Go.GV
namespace Go.Proofs.YtmpfeaoofkkhjaaGreat
open Go Go.GV
attribute [local irreducible] cw Go.GV.SpecM Go.GV.wpList Exit.then Exit.inBlock Go.GV.bodyPost wpPl wpPm wpPn TS rnd rPost YieldsB wpPT ptK
set_option maxRecDepth 10000
set_option maxHeartbeats 8000000
set_option linter.unusedVariables false
set_option linter.unusedSimpArgs false

theorem pvMgTd1 {A : Prop} (h : A := by (first | rfl | assumption | (rw [hu]; rfl) | (simp only [decide_eq_true_eq, decide_eq_false_iff_not, beq_eq_false_iff_ne, beq_iff_eq]; omega) | fail)) : A := h
theorem nvMgTd1 {A : Prop} (h : A := by (first | decide | (rw [hu]; decide) | fail)) : A := h
theorem tk_ok {rem : List Int} {K : Nat} (h1 : 1 ≤ K) (h8 : K ≤ 8) : takOk rem K = decide (K ≤ rem.length) := by
  rw [Bool.eq_iff_iff]; simp [takOk]; omega
theorem zMgTd2 {A : Prop} (h : A := by ((first | (apply OK.plain; rfl; apply OD.of) | (apply OKp.plain; rfl)); (first | (apply od_pickX; exact aX; exact pvMgTd1; exact aX) | (apply od_pickY; exact aX; exact pvMgTd1; exact aX)))) : A := h
theorem zMgTd3 {A : Prop} (h : A := by ((first | (apply OK.plain; rfl; apply OD.of) | (apply OKp.plain; rfl)); (first | (apply od_nil; exact aX) | (apply od_cv; exact aX; (focus (simp only [inR]; omega)))))) : A := h
theorem zMgTd4 {A : Prop} (h : A := by ((first | (apply OK.plain; rfl) | (apply OK.guarded; rfl; rfl; (intro hg; (try have hk := hg.2); (try have hl := hg.2.2); (try have hm := hg.2.2.2)))); (first | (apply od_call; exact aX; infer_instance; exact aE; exact aN; (focus (first | fail))) ))) : A := h
theorem wMgTd1 {A B : Prop} (k : B) (h : Kx B → A := by intro k; (first | (refine is_pu ?_ (by rfl); first | (apply hd_gon; rfl; rfl; (focus (constructor; exact pvMgTd1; trivial))) | (apply hd_goff; rfl; rfl; (focus exact fun hs => absurd hs.1 (by exact nvMgTd1)); rfl) | (apply hd_gundef; rfl; rfl; rfl) | refine hd_opAB ?_ | ((first | apply hd_ok | apply ch_ok | (apply hd_pn_run; rfl; exact aM)); (focus exact zMgTd3); rfl; rfl) | ((first | apply hd_ok | apply ch_ok | (apply hd_pn_run; rfl; exact aM)); (focus exact zMgTd2); rfl; rfl)) | (refine is_pn ?_; first | refine hd_pn_nil ?_ | (apply hd_pn_runG; rfl; rfl; rfl; (focus (constructor; exact pvMgTd1; trivial)); exact aM; exact opB; rfl; rfl) | (apply hd_pn_offG; rfl; rfl; rfl; (focus exact fun hs => absurd hs.1 (by exact nvMgTd1)); exact aM; rfl; rfl) | (apply hd_pn_undefG; rfl; rfl; rfl; exact aM; rfl; rfl) | refine hd_pnAB ?_ | ((first | apply hd_ok | apply ch_ok | (apply hd_pn_run; rfl; exact aM)); (focus exact zMgTd3); rfl; rfl) | ((first | apply hd_ok | apply ch_ok | (apply hd_pn_run; rfl; exact aM)); (focus exact zMgTd2); rfl; rfl) | (refine hd_pn_op rfl ?_)) | (refine is_co ?_; first | (apply hd_gon; rfl; rfl; (focus (constructor; exact pvMgTd1; trivial))) | (apply hd_goff; rfl; rfl; (focus exact fun hs => absurd hs.1 (by exact nvMgTd1)); rfl) | (apply hd_gundef; rfl; rfl; rfl) | ((first | apply hd_ok | apply ch_ok); (focus exact zMgTd4); rfl; rfl) | refine hd_storeA ?_ | refine hd_copyA ?_) | (refine is_ni ?_; first | (refine is_on ?_; first | refine pn_barA ?_ | refine pn_goA ?_ | refine pt_goA ?_ | refine ts_onA ?_) | refine hd_nil ?_) | refine wkA ?_ | (refine is_ch ?_; refine ch_opAB ?_) | ((first | apply hd_ok | apply ch_ok); (focus exact zMgTd4); rfl; rfl) | ((first | apply hd_ok | apply ch_ok | (apply hd_pn_run; rfl; exact aM)); (focus exact zMgTd3); rfl; rfl) | ((first | apply hd_ok | apply ch_ok | (apply hd_pn_run; rfl; exact aM)); (focus exact zMgTd2); rfl; rfl)); exact k.go) : A := h ⟨k⟩
theorem wMgTd2 {A B : Prop} (k : B) (h : Kx B → A := by intro k; ((refine is_cw ?_; refine is_rg ?_; first | refine hd_draw follows_any (by decide +kernel) ?_)); exact k.go) : A := h ⟨k⟩
theorem wMgTd3 {A B : Prop} (k : B) (h : Kx B → A := by intro k; ((refine is_cw ?_; refine is_cd ?_; first | (refine hd_condT (by exact aX) (by exact pvMgTd1) ?_) | (refine hd_condF (by exact aX) (by exact pvMgTd1) ?_))); exact k.go) : A := h ⟨k⟩
theorem ref20_take1 {p : Option Addr} {n c : Nat} {rem : List Int} {sh : Bool} (h : PH) (hs : Bs h p n c rem) (hn : n ≤ 60000) : GV.Spec Tryz.prog 38 #[.agg #[.slice p n c, .bool sh], .int .i64 1] h fun v h' => ∃ x p' n' c' rem' sh', v = .tuple #[.int .u64 x, .agg #[.slice p' n' c', .bool sh']] ∧ 0 ≤ x ∧ x < 256 ∧ Bs h' p' n' c' rem' ∧ n' ≤ n ∧ Rds (so sh rem) (rdN true 1) (so sh' rem') x := by
  have hl := hs.len
  have hok := tk_ok (rem := rem) (K := 1) (by omega) (by omega)
  have hu := True.intro
  refine spec_enter (args := [_, _]) Tryz.func38 rfl Tryz.ntmps38 rfl (fun w l => ?_)
  cases sh with
  | true =>
    repeat' (first | (refine is_cx ?_ (by rfl); first | (refine hd_cA (s := by exact ref_TakeP _ _ hs (by omega)) (k := ?_); rintro _ h1 hle1 ⟨p1, c1, rfl, hb1⟩)) | refine wMgTd2 ?_ | refine wMgTd3 ?_ | (refine is_cd ?_; first | refine hd_condA (fun _ => ?_) (fun _ => ?_)) | refine wMgTd1 ?_ | refine wkB (fun _ => ?_) | refine wkC (fun _ _ => ?_) | exact tsA | (refine ts_step rfl (fun HF h1 hle => ?_)))
    (apply hd_resS (Hi := []); (focus (first | exact .inl rfl | exact .inr rfl)); rfl; exact aR; exact aS)
    exact ⟨⟨0, none, 0, 0, [], true, rfl, by omega, by omega, SlR.nil _ _, by omega, Rds.none_ _ _⟩, rfl⟩
  | false =>
    refine hd_split (c := takOk rem (1 : Int)) (fun hu => ?_) (fun hu => ?_)
    · repeat' (first | (refine is_cx ?_ (by rfl); first | (refine hd_cA (s := by exact ref_TakeP _ _ hs (by omega)) (k := ?_); rintro _ h1 hle1 ⟨p1, c1, rfl, hb1⟩)) | refine wMgTd2 ?_ | refine wMgTd3 ?_ | (refine is_cd ?_; first | refine hd_condA (fun _ => ?_) (fun _ => ?_)) | refine wMgTd1 ?_ | refine wkB (fun _ => ?_) | refine wkC (fun _ _ => ?_) | exact tsA | (refine ts_step rfl (fun HF h1 hle => ?_)))
      (apply hd_resS (Hi := []); (focus (first | exact .inl rfl | exact .inr rfl)); rfl; exact aR; exact aS)
      have hk : 1 ≤ rem.length := by have := hok.symm.trans hu; simpa using this
      have hb8 : B8 rem := hs.inR
      have hnb := num_bound hb8 1 hk
      have e1 : takN rem (1 : Int) = num (rem.take 1) := by unfold takN; rw [if_pos hu]; rfl
      have e2 : takR rem (1 : Int) = rem.drop 1 := by unfold takR; rw [if_pos hu]; rfl
      have hlt : (takR rem (1 : Int)).length ≤ n := by rw [e2]; simp; omega
      exact ⟨⟨_, _, _, _, takR rem (1 : Int), false, rfl, by rw [e1]; exact hnb.1, by rw [e1]; simpa using hnb.2, hb1, hlt, by rw [e1, e2]; exact rds_num hk⟩, rfl⟩
    · repeat' (first | (refine is_cx ?_ (by rfl); first | (refine hd_cA (s := by exact ref_TakeP _ _ hs (by omega)) (k := ?_); rintro _ h1 hle1 ⟨p1, c1, rfl, hb1⟩)) | refine wMgTd2 ?_ | refine wMgTd3 ?_ | (refine is_cd ?_; first | refine hd_condA (fun _ => ?_) (fun _ => ?_)) | refine wMgTd1 ?_ | refine wkB (fun _ => ?_) | refine wkC (fun _ _ => ?_) | exact tsA | (refine ts_step rfl (fun HF h1 hle => ?_)))
      (apply hd_resS (Hi := []); (focus (first | exact .inl rfl | exact .inr rfl)); rfl; exact aR; exact aS)
      have hk : rem.length < 1 := by have := hok.symm.trans hu; simpa using this
      exact ⟨⟨0, none, 0, 0, [], true, rfl, by omega, by omega, SlR.nil _ _, by omega, rds_few hk⟩, rfl⟩
theorem ref20_take2 {p : Option Addr} {n c : Nat} {rem : List Int} {sh : Bool} (h : PH) (hs : Bs h p n c rem) (hn : n ≤ 60000) : GV.Spec Tryz.prog 38 #[.agg #[.slice p n c, .bool sh], .int .i64 2] h fun v h' => ∃ x p' n' c' rem' sh', v = .tuple #[.int .u64 x, .agg #[.slice p' n' c', .bool sh']] ∧ 0 ≤ x ∧ x < 65536 ∧ Bs h' p' n' c' rem' ∧ n' ≤ n ∧ Rds (so sh rem) (rdN true 2) (so sh' rem') x := by
  have hl := hs.len
  have hok := tk_ok (rem := rem) (K := 2) (by omega) (by omega)
  have hu := True.intro
  refine spec_enter (args := [_, _]) Tryz.func38 rfl Tryz.ntmps38 rfl (fun w l => ?_)
  cases sh with
  | true =>
    repeat' (first | (refine is_cx ?_ (by rfl); first | (refine hd_cA (s := by exact ref_TakeP _ _ hs (by omega)) (k := ?_); rintro _ h1 hle1 ⟨p1, c1, rfl, hb1⟩)) | refine wMgTd2 ?_ | refine wMgTd3 ?_ | (refine is_cd ?_; first | refine hd_condA (fun _ => ?_) (fun _ => ?_)) | refine wMgTd1 ?_ | refine wkB (fun _ => ?_) | refine wkC (fun _ _ => ?_) | exact tsA | (refine ts_step rfl (fun HF h1 hle => ?_)))
    (apply hd_resS (Hi := []); (focus (first | exact .inl rfl | exact .inr rfl)); rfl; exact aR; exact aS)
    exact ⟨⟨0, none, 0, 0, [], true, rfl, by omega, by omega, SlR.nil _ _, by omega, Rds.none_ _ _⟩, rfl⟩
  | false =>
    refine hd_split (c := takOk rem (2 : Int)) (fun hu => ?_) (fun hu => ?_)
    · repeat' (first | (refine is_cx ?_ (by rfl); first | (refine hd_cA (s := by exact ref_TakeP _ _ hs (by omega)) (k := ?_); rintro _ h1 hle1 ⟨p1, c1, rfl, hb1⟩)) | refine wMgTd2 ?_ | refine wMgTd3 ?_ | (refine is_cd ?_; first | refine hd_condA (fun _ => ?_) (fun _ => ?_)) | refine wMgTd1 ?_ | refine wkB (fun _ => ?_) | refine wkC (fun _ _ => ?_) | exact tsA | (refine ts_step rfl (fun HF h1 hle => ?_)))
      (apply hd_resS (Hi := []); (focus (first | exact .inl rfl | exact .inr rfl)); rfl; exact aR; exact aS)
      have hk : 2 ≤ rem.length := by have := hok.symm.trans hu; simpa using this
      have hb8 : B8 rem := hs.inR
      have hnb := num_bound hb8 2 hk
      have e1 : takN rem (2 : Int) = num (rem.take 2) := by unfold takN; rw [if_pos hu]; rfl
      have e2 : takR rem (2 : Int) = rem.drop 2 := by unfold takR; rw [if_pos hu]; rfl
      have hlt : (takR rem (2 : Int)).length ≤ n := by rw [e2]; simp; omega
      exact ⟨⟨_, _, _, _, takR rem (2 : Int), false, rfl, by rw [e1]; exact hnb.1, by rw [e1]; simpa using hnb.2, hb1, hlt, by rw [e1, e2]; exact rds_num hk⟩, rfl⟩
    · repeat' (first | (refine is_cx ?_ (by rfl); first | (refine hd_cA (s := by exact ref_TakeP _ _ hs (by omega)) (k := ?_); rintro _ h1 hle1 ⟨p1, c1, rfl, hb1⟩)) | refine wMgTd2 ?_ | refine wMgTd3 ?_ | (refine is_cd ?_; first | refine hd_condA (fun _ => ?_) (fun _ => ?_)) | refine wMgTd1 ?_ | refine wkB (fun _ => ?_) | refine wkC (fun _ _ => ?_) | exact tsA | (refine ts_step rfl (fun HF h1 hle => ?_)))
      (apply hd_resS (Hi := []); (focus (first | exact .inl rfl | exact .inr rfl)); rfl; exact aR; exact aS)
      have hk : rem.length < 2 := by have := hok.symm.trans hu; simpa using this
      exact ⟨⟨0, none, 0, 0, [], true, rfl, by omega, by omega, SlR.nil _ _, by omega, rds_few hk⟩, rfl⟩
theorem ref20_take4 {p : Option Addr} {n c : Nat} {rem : List Int} {sh : Bool} (h : PH) (hs : Bs h p n c rem) (hn : n ≤ 60000) : GV.Spec Tryz.prog 38 #[.agg #[.slice p n c, .bool sh], .int .i64 4] h fun v h' => ∃ x p' n' c' rem' sh', v = .tuple #[.int .u64 x, .agg #[.slice p' n' c', .bool sh']] ∧ 0 ≤ x ∧ x < 4294967296 ∧ Bs h' p' n' c' rem' ∧ n' ≤ n ∧ Rds (so sh rem) (rdN true 4) (so sh' rem') x := by
  have hl := hs.len
  have hok := tk_ok (rem := rem) (K := 4) (by omega) (by omega)
  have hu := True.intro
  refine spec_enter (args := [_, _]) Tryz.func38 rfl Tryz.ntmps38 rfl (fun w l => ?_)
  cases sh with
  | true =>
    repeat' (first | (refine is_cx ?_ (by rfl); first | (refine hd_cA (s := by exact ref_TakeP _ _ hs (by omega)) (k := ?_); rintro _ h1 hle1 ⟨p1, c1, rfl, hb1⟩)) | refine wMgTd2 ?_ | refine wMgTd3 ?_ | (refine is_cd ?_; first | refine hd_condA (fun _ => ?_) (fun _ => ?_)) | refine wMgTd1 ?_ | refine wkB (fun _ => ?_) | refine wkC (fun _ _ => ?_) | exact tsA | (refine ts_step rfl (fun HF h1 hle => ?_)))
    (apply hd_resS (Hi := []); (focus (first | exact .inl rfl | exact .inr rfl)); rfl; exact aR; exact aS)
    exact ⟨⟨0, none, 0, 0, [], true, rfl, by omega, by omega, SlR.nil _ _, by omega, Rds.none_ _ _⟩, rfl⟩
  | false =>
    refine hd_split (c := takOk rem (4 : Int)) (fun hu => ?_) (fun hu => ?_)
    · repeat' (first | (refine is_cx ?_ (by rfl); first | (refine hd_cA (s := by exact ref_TakeP _ _ hs (by omega)) (k := ?_); rintro _ h1 hle1 ⟨p1, c1, rfl, hb1⟩)) | refine wMgTd2 ?_ | refine wMgTd3 ?_ | (refine is_cd ?_; first | refine hd_condA (fun _ => ?_) (fun _ => ?_)) | refine wMgTd1 ?_ | refine wkB (fun _ => ?_) | refine wkC (fun _ _ => ?_) | exact tsA | (refine ts_step rfl (fun HF h1 hle => ?_)))
      (apply hd_resS (Hi := []); (focus (first | exact .inl rfl | exact .inr rfl)); rfl; exact aR; exact aS)
      have hk : 4 ≤ rem.length := by have := hok.symm.trans hu; simpa using this
      have hb8 : B8 rem := hs.inR
      have hnb := num_bound hb8 4 hk
      have e1 : takN rem (4 : Int) = num (rem.take 4) := by unfold takN; rw [if_pos hu]; rfl
      have e2 : takR rem (4 : Int) = rem.drop 4 := by unfold takR; rw [if_pos hu]; rfl
      have hlt : (takR rem (4 : Int)).length ≤ n := by rw [e2]; simp; omega
      exact ⟨⟨_, _, _, _, takR rem (4 : Int), false, rfl, by rw [e1]; exact hnb.1, by rw [e1]; simpa using hnb.2, hb1, hlt, by rw [e1, e2]; exact rds_num hk⟩, rfl⟩
    · repeat' (first | (refine is_cx ?_ (by rfl); first | (refine hd_cA (s := by exact ref_TakeP _ _ hs (by omega)) (k := ?_); rintro _ h1 hle1 ⟨p1, c1, rfl, hb1⟩)) | refine wMgTd2 ?_ | refine wMgTd3 ?_ | (refine is_cd ?_; first | refine hd_condA (fun _ => ?_) (fun _ => ?_)) | refine wMgTd1 ?_ | refine wkB (fun _ => ?_) | refine wkC (fun _ _ => ?_) | exact tsA | (refine ts_step rfl (fun HF h1 hle => ?_)))
      (apply hd_resS (Hi := []); (focus (first | exact .inl rfl | exact .inr rfl)); rfl; exact aR; exact aS)
      have hk : rem.length < 4 := by have := hok.symm.trans hu; simpa using this
      exact ⟨⟨0, none, 0, 0, [], true, rfl, by omega, by omega, SlR.nil _ _, by omega, rds_few hk⟩, rfl⟩
theorem wMgTd4 {A B : Prop} (k : B) (h : Kx B → A := by intro k; ((refine is_cw ?_; refine is_rg ?_; first | (refine hd_planY (id := 4) _ [] [.one 0 true, .one 1 true, .one 2 true, .one 3 true, .one 4 true, .one 5 true, .one 6 true, .one 7 true, .one 8 false, .one 9 false] follows_any (by kernel_rfl) rfl (by kernel_rfl) rfl ?_) | refine hd_draw follows_any (by decide +kernel) ?_)); exact k.go) : A := h ⟨k⟩
theorem zMgTd1 {A : Prop} (h : A := by (first | assumption | exact Bs.mono (by assumption) (by exact aL))) : A := h
theorem ref20_mark {p : Option Addr} {n c : Nat} {rem : List Int} {sh : Bool} (h : PH) (hs : Bs h p n c rem) (hn : n ≤ 60000) : GV.Spec Tryz.prog 58 #[.agg #[.slice p n c, .bool sh]] h fun v h' => ∃ (x : Mk) (p' : Option Addr) (n' c' : Nat) (rem' : List Int) (sh' : Bool), v = .tuple #[.agg #[.int .u8 x.1, .int .u16 x.2.1, .int .u32 x.2.2], .agg #[.slice p' n' c', .bool sh']] ∧ MkR x ∧ Bs h' p' n' c' rem' ∧ n' ≤ n ∧ Rds (so sh rem) pMark (so sh' rem') x := by
  have hu := True.intro
  refine spec_enter (args := [_]) Tryz.func58 rfl Tryz.ntmps58 rfl (fun w l => ?_)
  repeat' (first | (refine is_cx ?_ (by rfl); first | (refine hd_cA (s := by exact ref20_take1 _ (by exact zMgTd1) (by omega)) (k := ?_); rintro _ h1 hle1 ⟨x1, p1, n1, c1, rem1, sh1, rfl, xa1, xb1, hs1, hn1, R1⟩)) | (refine is_cw ?_; first | refine hd_stop1 (id := 2) ?_) | refine wMgTd4 ?_ | refine wMgTd3 ?_ | (refine is_cd ?_; first | refine hd_condA (fun _ => ?_) (fun _ => ?_)) | refine wMgTd1 ?_ | refine wkB (fun _ => ?_) | refine wkC (fun _ _ => ?_) | exact tsA | (refine ts_step rfl (fun HF h1 hle => ?_)))
  refine Stop.mk ?_
  repeat' (first | (refine is_cx ?_ (by rfl); first | (refine hd_cA (s := by exact ref20_take2 _ (by exact zMgTd1) (by omega)) (k := ?_); rintro _ h2 hle2 ⟨x2, p2, n2, c2, rem2, sh2, rfl, xa2, xb2, hs2, hn2, R2⟩)) | (refine is_cw ?_; first | refine hd_stop1 (id := 3) ?_) | refine wMgTd4 ?_ | refine wMgTd3 ?_ | (refine is_cd ?_; first | refine hd_condA (fun _ => ?_) (fun _ => ?_)) | refine wMgTd1 ?_ | refine wkB (fun _ => ?_) | refine wkC (fun _ _ => ?_) | exact tsA | (refine ts_step rfl (fun HF h1 hle => ?_)))
  refine Stop.mk ?_
  repeat' (first | (refine is_cx ?_ (by rfl); first | (refine hd_cA (s := by exact ref20_take4 _ (by exact zMgTd1) (by omega)) (k := ?_); rintro _ h4 hle4 ⟨x4, p4, n4, c4, rem4, sh4, rfl, xa4, xb4, hs4, hn4, R4⟩)) | (refine is_cw ?_; first | refine hd_stop1 (id := 4) ?_) | refine wMgTd4 ?_ | refine wMgTd3 ?_ | (refine is_cd ?_; first | refine hd_condA (fun _ => ?_) (fun _ => ?_)) | refine wMgTd1 ?_ | refine wkB (fun _ => ?_) | refine wkC (fun _ _ => ?_) | exact tsA | (refine ts_step rfl (fun HF h1 hle => ?_)))
  refine Stop.mk ?_
  rename_i b1 b2 b3
  refine hd_front (e := box b2 [.int .u8 0, .int .u16 0, .int .u32 0] 27) (by exact aP) ?_
  refine hd_front (e := box b3 [.slice none 0 0, .bool false] 87) (by exact aP) ?_
  repeat' (first | (refine is_cx ?_ (by rfl); first | (refine hd_cA (s := by exact ref20_take4 _ (by exact zMgTd1) (by omega)) (k := ?_); rintro _ h4 hle4 ⟨x4, p4, n4, c4, rem4, sh4, rfl, xa4, xb4, hs4, hn4, R4⟩)) | refine wMgTd4 ?_ | refine wMgTd3 ?_ | (refine is_cd ?_; first | refine hd_condA (fun _ => ?_) (fun _ => ?_)) | refine wMgTd1 ?_ | refine wkB (fun _ => ?_) | refine wkC (fun _ _ => ?_) | exact tsA | (refine ts_step rfl (fun HF h1 hle => ?_)))
  (apply hd_resS (Hi := []); (focus (first | exact .inl rfl | exact .inr rfl)); rfl; exact aR; exact aS)
  exact ⟨⟨(x1, x2, x4), p4, n4, c4, rem4, sh4, rfl, ⟨⟨xa1, show x1 ≤ 255 by omega⟩, ⟨xa2, show x2 ≤ 65535 by omega⟩, ⟨xa4, show x4 ≤ 4294967295 by omega⟩⟩, hs4, by omega, R1.bind (R2.bind (R4.bind (Rds.pu _ _)))⟩, rfl⟩
theorem wMgTd5 {A B : Prop} (k : B) (h : Kx B → A := by intro k; ((refine is_cw ?_; refine is_rg ?_; first | (refine hd_planT (id := 11) [(0, 54, 32), (0, 55, 2), (1, 3, 9007199254740992), (7, 0, 18014398509481992)] [3] [.one 0 true, .one 1 true, .one 2 true, .one 3 false] follows_any (by kernel_rfl) (by kernel_rfl) (by kernel_rfl) rfl ?_) | refine hd_draw follows_any (by decide +kernel) ?_)); exact k.go) : A := h ⟨k⟩
theorem wMgTd6 {A B : Prop} (k : B) (h : Kx B → A := by intro k; (first | (refine is_pu ?_ (by rfl); first | (apply hd_gon; rfl; rfl; (focus (constructor; exact pvMgTd1; trivial))) | (apply hd_goff; rfl; rfl; (focus exact fun hs => absurd hs.1 (by exact nvMgTd1)); rfl) | (apply hd_gundef; rfl; rfl; rfl) | refine hd_opAB ?_ | ((first | apply hd_ok | apply ch_ok | (apply hd_pn_run; rfl; exact aM)); (focus exact zMgTd3); rfl; rfl) | ((first | apply hd_ok | apply ch_ok | (apply hd_pn_run; rfl; exact aM)); (focus exact zMgTd2); rfl; rfl)) | (refine is_pn ?_; first | refine hd_pn_nil ?_ | (apply hd_pn_runG; rfl; rfl; rfl; (focus (constructor; exact pvMgTd1; trivial)); exact aM; exact opB; rfl; rfl) | (apply hd_pn_offG; rfl; rfl; rfl; (focus exact fun hs => absurd hs.1 (by exact nvMgTd1)); exact aM; rfl; rfl) | (apply hd_pn_undefG; rfl; rfl; rfl; exact aM; rfl; rfl) | refine hd_pnAB ?_ | ((first | apply hd_ok | apply ch_ok | (apply hd_pn_run; rfl; exact aM)); (focus exact zMgTd3); rfl; rfl) | ((first | apply hd_ok | apply ch_ok | (apply hd_pn_run; rfl; exact aM)); (focus exact zMgTd2); rfl; rfl) | (refine hd_pn_op rfl ?_)) | (refine is_co ?_; first | (apply hd_gon; rfl; rfl; (focus (constructor; exact pvMgTd1; trivial))) | (apply hd_goff; rfl; rfl; (focus exact fun hs => absurd hs.1 (by exact nvMgTd1)); rfl) | (apply hd_gundef; rfl; rfl; rfl) | refine hd_copyA ?_ | ((first | apply hd_ok | apply ch_ok); (focus exact zMgTd4); rfl; rfl) | refine hd_storeA ?_ | refine hd_copyA ?_) | (refine is_ni ?_; first | (refine is_on ?_; first | refine pn_barA ?_ | refine pn_goA ?_ | refine pt_goA ?_ | refine ts_onA ?_) | refine hd_nil ?_) | refine wkA ?_ | (refine is_ch ?_; refine ch_opAB ?_) | ((first | apply hd_ok | apply ch_ok); (focus exact zMgTd4); rfl; rfl) | ((first | apply hd_ok | apply ch_ok | (apply hd_pn_run; rfl; exact aM)); (focus exact zMgTd3); rfl; rfl) | ((first | apply hd_ok | apply ch_ok | (apply hd_pn_run; rfl; exact aM)); (focus exact zMgTd2); rfl; rfl)); exact k.go) : A := h ⟨k⟩
theorem ref20_table {p : Option Addr} {n c : Nat} {rem : List Int} {sh : Bool} (h : PH) (hs : Bs h p n c rem) (hn : n ≤ 60000) : GV.Spec Tryz.prog 56 #[.agg #[.slice p n c, .bool sh]] h fun v h' => ∃ (xs : List Mk) (q : Option Addr) (m d : Nat) (p' : Option Addr) (n' c' : Nat) (rem' : List Int) (sh' : Bool), v = .tuple #[.slice q m d, .agg #[.slice p' n' c', .bool sh']] ∧ SlR rMm h' q m d xs ∧ xs.length ≤ 255 ∧ Bs h' p' n' c' rem' ∧ n' ≤ n ∧ Rds (so sh rem) (pal pMem) (so sh' rem') xs := by
  have hu := True.intro
  refine spec_enter (args := [_]) Tryz.func56 rfl Tryz.ntmps56 rfl (fun w l => ?_)
  repeat' (first | (refine is_cx ?_ (by rfl); first | (refine hd_cA (s := by exact ref20_take1 _ (by exact zMgTd1) (by omega)) (k := ?_); rintro _ h1 hle1 ⟨x1, p1, n1, c1, rem1, sh1, rfl, xa1, xb1, hs1, hn1, R1⟩)) | refine wMgTd5 ?_ | refine wMgTd3 ?_ | (refine is_cd ?_; first | refine hd_condA (fun _ => ?_) (fun _ => ?_)) | refine wMgTd1 ?_ | refine wkB (fun _ => ?_) | refine wkC (fun _ _ => ?_) | exact tsA | (refine ts_step rfl (fun HF h1 hle => ?_)))
  rename_i b1 b3
  obtain ⟨N, rfl⟩ : ∃ N : Nat, x1 = (N : Int) := ⟨x1.toNat, by omega⟩
  have hN : N ≤ 255 := by omega
  have R0 := R1
  refine hd_nilrow 46 3 ?_
  refine hd_loopS (ι := Nat × PH × (Option Addr × Nat × Nat × List Int × Bool) × (Option Addr × Nat × List (List Value) × List Mk)) (fun i => i.1 ≤ N ∧ h.le i.2.1 ∧ Bs i.2.1 i.2.2.1.1 i.2.2.1.2.1 i.2.2.1.2.2.1 i.2.2.1.2.2.2.1 ∧ i.2.2.1.2.1 ≤ n ∧ All2 (rMm.ok i.2.1) i.2.2.2.2.2.1 i.2.2.2.2.2.2 ∧ i.2.2.2.2.2.2.length = i.1 ∧ Rds (so sh1 rem1) (pli pMem i.1) (so i.2.2.1.2.2.2.2 i.2.2.1.2.2.2.1) i.2.2.2.2.2.2)
    (fun i => [(1, [], .pointer (some ⟨b1, 0, none⟩)), (3, [], .pointer (some ⟨b3, 0, none⟩)), (4, [], .int .u64 N), (5, [], .slice i.2.2.2.1 i.1 i.2.2.2.2.1), (6, [], .int .i64 i.1)]) (fun i => [row i.2.2.2.1 i.1 i.2.2.2.2.1 46 3 i.2.2.2.2.2.1.flatten, box b1 [.slice i.2.2.1.1 i.2.2.1.2.1 i.2.2.1.2.2.1, .bool i.2.2.1.2.2.2.2] 87, box b3 [.slice none 0 0, .bool false] 87]) (fun i => i.2.1) (fun i => N - i.1) (0, h1, (p1, n1, c1, rem1, sh1), (none, 0, [], [])) ⟨by simp, hle1, hs1, hn1, trivial, rfl, Rds.pu _ _⟩ (by exact aU) (fun w hw => inv_only (by exact aS) hw) (fun i hi => ?_)
  obtain ⟨i, hk, ⟨pk, nk, ck, remk, shk⟩, pr, cr, css, xs⟩ := i
  obtain ⟨hiN, hlk, hsk, hnk, hall, hlx, RL⟩ := hi
  dsimp only at hiN hlk hsk hnk hall hlx RL ⊢
  refine hd_split (c := decide (i < N)) (fun hlt => ?_) (fun hlt => ?_)
  · simp only [decide_eq_true_eq] at hlt
    have hu : decide ((i : Int) < (N : Int)) = true := decide_eq_true (by omega)
    cases shk with
    | true =>
      repeat' (first | (refine is_cx ?_ (by rfl); first | (refine hd_cA (s := by exact ref20_take1 _ (by exact zMgTd1) (by omega)) (k := ?_); rintro _ h1 hle1 ⟨x1, p1, n1, c1, rem1, sh1, rfl, xa1, xb1, hs1, hn1, R1⟩)) | refine wMgTd5 ?_ | refine wMgTd3 ?_ | (refine is_cd ?_; first | refine hd_condA (fun _ => ?_) (fun _ => ?_)) | refine wMgTd1 ?_ | refine wkB (fun _ => ?_) | refine wkC (fun _ _ => ?_) | exact tsA | (refine ts_step rfl (fun HF h1 hle => ?_)))
      refine hd_pubR (r := rMm) css xs (by exact aP) rfl hall hlx (by omega) (fun h5 hle5 hsl => ?_)
      repeat' (first | (refine is_cx ?_ (by rfl); first | (refine hd_cA (s := by exact ref20_take1 _ (by exact zMgTd1) (by omega)) (k := ?_); rintro _ h1 hle1 ⟨x1, p1, n1, c1, rem1, sh1, rfl, xa1, xb1, hs1, hn1, R1⟩)) | refine wMgTd5 ?_ | refine wMgTd3 ?_ | (refine is_cd ?_; first | refine hd_condA (fun _ => ?_) (fun _ => ?_)) | refine wMgTd1 ?_ | refine wkB (fun _ => ?_) | refine wkC (fun _ _ => ?_) | exact tsA | (refine ts_step rfl (fun HF h1 hle => ?_)))
      (apply hd_resS (Hi := []); (focus (first | exact .inl rfl | exact .inr rfl)); rfl; exact aR; exact aS)
      exact ⟨⟨xs, _, _, _, pk, nk, ck, remk, true, rfl, hsl, by omega, hsk.mono hle5, hnk, R0.bind (by rw [Int.toNat_natCast]; exact RL.short hiN xs)⟩, rfl⟩
    | false =>
      repeat' (first | (refine is_cx ?_ (by rfl); first | (refine hd_cA (s := by exact ref20_take2 _ (by exact zMgTd1) (by omega)) (k := ?_); rintro _ h2 hle2 ⟨x2, p2, n2, c2, rem2, sh2, rfl, xa2, xb2, hs2, hn2, R2⟩)) | (refine is_cw ?_; first | refine hd_stop1 (id := 7) ?_) | refine wMgTd5 ?_ | refine wMgTd3 ?_ | (refine is_cd ?_; first | refine hd_condA (fun _ => ?_) (fun _ => ?_)) | refine wMgTd1 ?_ | refine wkB (fun _ => ?_) | refine wkC (fun _ _ => ?_) | exact tsA | (refine ts_step rfl (fun HF h1 hle => ?_)))
      refine Stop.mk ?_
      repeat' (first | (refine is_cx ?_ (by rfl); first | (refine hd_cA (s := by exact ref20_take1 _ (by exact zMgTd1) (by omega)) (k := ?_); rintro _ h3 hle3 ⟨x3, p3, n3, c3, rem3, sh3, rfl, xa3, xb3, hs3, hn3, R3⟩)) | (refine is_cw ?_; first | refine hd_stop1 (id := 8) ?_) | refine wMgTd5 ?_ | refine wMgTd3 ?_ | (refine is_cd ?_; first | refine hd_condA (fun _ => ?_) (fun _ => ?_)) | refine wMgTd1 ?_ | refine wkB (fun _ => ?_) | refine wkC (fun _ _ => ?_) | exact tsA | (refine ts_step rfl (fun HF h1 hle => ?_)))
      refine Stop.mk ?_
      repeat' (first | (refine is_cx ?_ (by rfl); first | (refine hd_cA (s := by exact ref20_take1 _ (by exact zMgTd1) (by omega)) (k := ?_); rintro _ h4 hle4 ⟨x4, p4, n4, c4, rem4, sh4, rfl, xa4, xb4, hs4, hn4, R4⟩) | (apply hd_append; exact aX; exact aX; exact aP; (focus exact Src.row (by exact aH)); rfl; rfl; (focus omega); (focus omega); rfl; (refine fun p9 c9 => ?_)) | refine hd_makeA (fun _ => ?_) | refine hd_litA (fun _ => ?_) | refine hd_appendA (fun _ _ => ?_)) | refine wMgTd5 ?_ | refine wMgTd3 ?_ | (refine is_cd ?_; first | refine hd_condA (fun _ => ?_) (fun _ => ?_)) | refine wMgTd6 ?_ | refine wkB (fun _ => ?_) | refine wkC (fun _ _ => ?_) | exact tsA | (refine ts_step rfl (fun HF h1 hle => ?_)))
      exact hd_again (i + 1, h4, (p4, n4, c4, rem4, sh4), (p9, c9, css ++ [[.int .u16 x2, .int .u8 x3, .int .u8 x4]], xs ++ [(x2, x3, x4)])) ⟨by dsimp only; omega, by exact aL, hs4, by dsimp only; omega, All2.snoc (hall.mono fun _ _ => rMm.mono (by exact aL)) (rMm_mk (x := (x2, x3, x4)) ⟨⟨xa2, show x2 ≤ 65535 by omega⟩, ⟨xa3, show x3 ≤ 255 by omega⟩, ⟨xa4, show x4 ≤ 255 by omega⟩⟩), by dsimp only; simp [hlx], RL.snoc (R2.bind (R3.bind (R4.bind (Rds.pu _ _))))⟩ (by dsimp only; omega) (by exact aU) (fun w hw => by simp only [List.flatten_append, List.flatten_cons, List.flatten_nil, List.append_nil]; exact inv_only (by exact aS) hw)
  · simp only [decide_eq_false_iff_not] at hlt
    have hu : decide ((i : Int) < (N : Int)) = false := decide_eq_false (by omega)
    have hiN2 : N = i := by omega
    repeat' (first | (refine is_cx ?_ (by rfl); first | (refine hd_cA (s := by exact ref20_take1 _ (by exact zMgTd1) (by omega)) (k := ?_); rintro _ h4 hle4 ⟨x4, p4, n4, c4, rem4, sh4, rfl, xa4, xb4, hs4, hn4, R4⟩) | (apply hd_append; exact aX; exact aX; exact aP; (focus exact Src.row (by exact aH)); rfl; rfl; (focus omega); (focus omega); rfl; (refine fun p9 c9 => ?_)) | refine hd_makeA (fun _ => ?_) | refine hd_litA (fun _ => ?_) | refine hd_appendA (fun _ _ => ?_)) | refine wMgTd5 ?_ | refine wMgTd3 ?_ | (refine is_cd ?_; first | refine hd_condA (fun _ => ?_) (fun _ => ?_)) | refine wMgTd6 ?_ | refine wkB (fun _ => ?_) | refine wkC (fun _ _ => ?_) | exact tsA | (refine ts_step rfl (fun HF h1 hle => ?_)))
    refine hd_pubR (r := rMm) css xs (by exact aP) rfl hall hlx (by omega) (fun h5 hle5 hsl => ?_)
    repeat' (first | (refine is_cx ?_ (by rfl); first | (refine hd_cA (s := by exact ref20_take1 _ (by exact zMgTd1) (by omega)) (k := ?_); rintro _ h4 hle4 ⟨x4, p4, n4, c4, rem4, sh4, rfl, xa4, xb4, hs4, hn4, R4⟩) | (apply hd_append; exact aX; exact aX; exact aP; (focus exact Src.row (by exact aH)); rfl; rfl; (focus omega); (focus omega); rfl; (refine fun p9 c9 => ?_)) | refine hd_makeA (fun _ => ?_) | refine hd_litA (fun _ => ?_) | refine hd_appendA (fun _ _ => ?_)) | refine wMgTd5 ?_ | refine wMgTd3 ?_ | (refine is_cd ?_; first | refine hd_condA (fun _ => ?_) (fun _ => ?_)) | refine wMgTd6 ?_ | refine wkB (fun _ => ?_) | refine wkC (fun _ _ => ?_) | exact tsA | (refine ts_step rfl (fun HF h1 hle => ?_)))
    (apply hd_resS (Hi := []); (focus (first | exact .inl rfl | exact .inr rfl)); rfl; exact aR; exact aS)
    exact ⟨⟨xs, _, _, _, pk, nk, ck, remk, shk, rfl, hsl, by omega, hsk.mono hle5, hnk, R0.bind (by rw [Int.toNat_natCast, hiN2]; exact RL)⟩, rfl⟩
theorem wMgTd7 {A B : Prop} (k : B) (h : Kx B → A := by intro k; ((refine is_cw ?_; refine is_rg ?_; first | (refine hd_planT (id := 9) [(0, 36, 32), (0, 37, 2), (1, 3, 34359738368), (7, 0, 68719476744)] [3] [.one 0 true, .one 1 true, .one 2 true, .one 3 false] follows_any (by kernel_rfl) (by kernel_rfl) (by kernel_rfl) rfl ?_) | refine hd_draw follows_any (by decide +kernel) ?_)); exact k.go) : A := h ⟨k⟩
theorem ref20_ids {p : Option Addr} {n c : Nat} {rem : List Int} {sh : Bool} (h : PH) (hs : Bs h p n c rem) (hn : n ≤ 60000) : GV.Spec Tryz.prog 59 #[.agg #[.slice p n c, .bool sh]] h fun v h' => ∃ (xs : List Mk) (q : Option Addr) (m d : Nat) (p' : Option Addr) (n' c' : Nat) (rem' : List Int) (sh' : Bool), v = .tuple #[.slice q m d, .agg #[.slice p' n' c', .bool sh']] ∧ SlR rID h' q m d xs ∧ xs.length ≤ 255 ∧ Bs h' p' n' c' rem' ∧ n' ≤ n ∧ Rds (so sh rem) (pal pMark) (so sh' rem') xs := by
  have hu := True.intro
  refine spec_enter (args := [_]) Tryz.func59 rfl Tryz.ntmps59 rfl (fun w l => ?_)
  repeat' (first | (refine is_cx ?_ (by rfl); first | (refine hd_cA (s := by exact ref20_take1 _ (by exact zMgTd1) (by omega)) (k := ?_); rintro _ h1 hle1 ⟨x1, p1, n1, c1, rem1, sh1, rfl, xa1, xb1, hs1, hn1, R1⟩)) | refine wMgTd7 ?_ | refine wMgTd3 ?_ | (refine is_cd ?_; first | refine hd_condA (fun _ => ?_) (fun _ => ?_)) | refine wMgTd1 ?_ | refine wkB (fun _ => ?_) | refine wkC (fun _ _ => ?_) | exact tsA | (refine ts_step rfl (fun HF h1 hle => ?_)))
  rename_i b1 b3
  obtain ⟨N, rfl⟩ : ∃ N : Nat, x1 = (N : Int) := ⟨x1.toNat, by omega⟩
  have hN : N ≤ 255 := by omega
  have R0 := R1
  refine hd_nilrow 27 3 ?_
  refine hd_loopS (ι := Nat × PH × (Option Addr × Nat × Nat × List Int × Bool) × (Option Addr × Nat × List (List Value) × List Mk)) (fun i => i.1 ≤ N ∧ h.le i.2.1 ∧ Bs i.2.1 i.2.2.1.1 i.2.2.1.2.1 i.2.2.1.2.2.1 i.2.2.1.2.2.2.1 ∧ i.2.2.1.2.1 ≤ n ∧ All2 (rID.ok i.2.1) i.2.2.2.2.2.1 i.2.2.2.2.2.2 ∧ i.2.2.2.2.2.2.length = i.1 ∧ Rds (so sh1 rem1) (pli pMark i.1) (so i.2.2.1.2.2.2.2 i.2.2.1.2.2.2.1) i.2.2.2.2.2.2)
    (fun i => [(1, [], .pointer (some ⟨b1, 0, none⟩)), (3, [], .pointer (some ⟨b3, 0, none⟩)), (4, [], .int .u64 N), (5, [], .slice i.2.2.2.1 i.1 i.2.2.2.2.1), (6, [], .int .i64 i.1)]) (fun i => [row i.2.2.2.1 i.1 i.2.2.2.2.1 27 3 i.2.2.2.2.2.1.flatten, box b1 [.slice i.2.2.1.1 i.2.2.1.2.1 i.2.2.1.2.2.1, .bool i.2.2.1.2.2.2.2] 87, box b3 [.slice none 0 0, .bool false] 87]) (fun i => i.2.1) (fun i => N - i.1) (0, h1, (p1, n1, c1, rem1, sh1), (none, 0, [], [])) ⟨by simp, hle1, hs1, hn1, trivial, rfl, Rds.pu _ _⟩ (by exact aU) (fun w hw => inv_only (by exact aS) hw) (fun i hi => ?_)
  obtain ⟨i, hk, ⟨pk, nk, ck, remk, shk⟩, pr, cr, css, xs⟩ := i
  obtain ⟨hiN, hlk, hsk, hnk, hall, hlx, RL⟩ := hi
  dsimp only at hiN hlk hsk hnk hall hlx RL ⊢
  refine hd_split (c := decide (i < N)) (fun hlt => ?_) (fun hlt => ?_)
  · simp only [decide_eq_true_eq] at hlt
    have hu : decide ((i : Int) < (N : Int)) = true := decide_eq_true (by omega)
    cases shk with
    | true =>
      repeat' (first | (refine is_cx ?_ (by rfl); first | (refine hd_cA (s := by exact ref20_take1 _ (by exact zMgTd1) (by omega)) (k := ?_); rintro _ h1 hle1 ⟨x1, p1, n1, c1, rem1, sh1, rfl, xa1, xb1, hs1, hn1, R1⟩)) | refine wMgTd7 ?_ | refine wMgTd3 ?_ | (refine is_cd ?_; first | refine hd_condA (fun _ => ?_) (fun _ => ?_)) | refine wMgTd1 ?_ | refine wkB (fun _ => ?_) | refine wkC (fun _ _ => ?_) | exact tsA | (refine ts_step rfl (fun HF h1 hle => ?_)))
      refine hd_pubR (r := rID) css xs (by exact aP) rfl hall hlx (by omega) (fun h5 hle5 hsl => ?_)
      repeat' (first | (refine is_cx ?_ (by rfl); first | (refine hd_cA (s := by exact ref20_take1 _ (by exact zMgTd1) (by omega)) (k := ?_); rintro _ h1 hle1 ⟨x1, p1, n1, c1, rem1, sh1, rfl, xa1, xb1, hs1, hn1, R1⟩)) | refine wMgTd7 ?_ | refine wMgTd3 ?_ | (refine is_cd ?_; first | refine hd_condA (fun _ => ?_) (fun _ => ?_)) | refine wMgTd1 ?_ | refine wkB (fun _ => ?_) | refine wkC (fun _ _ => ?_) | exact tsA | (refine ts_step rfl (fun HF h1 hle => ?_)))
      (apply hd_resS (Hi := []); (focus (first | exact .inl rfl | exact .inr rfl)); rfl; exact aR; exact aS)
      exact ⟨⟨xs, _, _, _, pk, nk, ck, remk, true, rfl, hsl, by omega, hsk.mono hle5, hnk, R0.bind (by rw [Int.toNat_natCast]; exact RL.short hiN xs)⟩, rfl⟩
    | false =>
      repeat' (first | (refine is_cx ?_ (by rfl); first | (refine hd_cA (s := by exact ref20_mark _ (by exact zMgTd1) (by omega)) (k := ?_); rintro _ h4 hle4 ⟨x4, p4, n4, c4, rem4, sh4, rfl, hr4, hs4, hn4, R4⟩) | (apply hd_append; exact aX; exact aX; exact aP; (focus exact Src.row (by exact aH)); rfl; rfl; (focus omega); (focus omega); rfl; (refine fun p9 c9 => ?_)) | refine hd_makeA (fun _ => ?_) | refine hd_litA (fun _ => ?_) | refine hd_appendA (fun _ _ => ?_)) | refine wMgTd7 ?_ | refine wMgTd3 ?_ | (refine is_cd ?_; first | refine hd_condA (fun _ => ?_) (fun _ => ?_)) | refine wMgTd6 ?_ | refine wkB (fun _ => ?_) | refine wkC (fun _ _ => ?_) | exact tsA | (refine ts_step rfl (fun HF h1 hle => ?_)))
      exact hd_again (i + 1, h4, (p4, n4, c4, rem4, sh4), (p9, c9, css ++ [[.int .u8 x4.1, .int .u16 x4.2.1, .int .u32 x4.2.2]], xs ++ [x4])) ⟨by dsimp only; omega, by exact aL, hs4, by dsimp only; omega, All2.snoc (hall.mono fun _ _ => rID.mono (by exact aL)) (rID_mk hr4), by dsimp only; simp [hlx], RL.snoc R4⟩ (by dsimp only; omega) (by exact aU) (fun w hw => by simp only [List.flatten_append, List.flatten_cons, List.flatten_nil, List.append_nil]; exact inv_only (by exact aS) hw)
  · simp only [decide_eq_false_iff_not] at hlt
    have hu : decide ((i : Int) < (N : Int)) = false := decide_eq_false (by omega)
    have hiN2 : N = i := by omega
    repeat' (first | (refine is_cx ?_ (by rfl); first | (refine hd_cA (s := by exact ref20_mark _ (by exact zMgTd1) (by omega)) (k := ?_); rintro _ h4 hle4 ⟨x4, p4, n4, c4, rem4, sh4, rfl, hr4, hs4, hn4, R4⟩) | (apply hd_append; exact aX; exact aX; exact aP; (focus exact Src.row (by exact aH)); rfl; rfl; (focus omega); (focus omega); rfl; (refine fun p9 c9 => ?_)) | refine hd_makeA (fun _ => ?_) | refine hd_litA (fun _ => ?_) | refine hd_appendA (fun _ _ => ?_)) | refine wMgTd7 ?_ | refine wMgTd3 ?_ | (refine is_cd ?_; first | refine hd_condA (fun _ => ?_) (fun _ => ?_)) | refine wMgTd6 ?_ | refine wkB (fun _ => ?_) | refine wkC (fun _ _ => ?_) | exact tsA | (refine ts_step rfl (fun HF h1 hle => ?_)))
    refine hd_pubR (r := rID) css xs (by exact aP) rfl hall hlx (by omega) (fun h5 hle5 hsl => ?_)
    repeat' (first | (refine is_cx ?_ (by rfl); first | (refine hd_cA (s := by exact ref20_mark _ (by exact zMgTd1) (by omega)) (k := ?_); rintro _ h4 hle4 ⟨x4, p4, n4, c4, rem4, sh4, rfl, hr4, hs4, hn4, R4⟩) | (apply hd_append; exact aX; exact aX; exact aP; (focus exact Src.row (by exact aH)); rfl; rfl; (focus omega); (focus omega); rfl; (refine fun p9 c9 => ?_)) | refine hd_makeA (fun _ => ?_) | refine hd_litA (fun _ => ?_) | refine hd_appendA (fun _ _ => ?_)) | refine wMgTd7 ?_ | refine wMgTd3 ?_ | (refine is_cd ?_; first | refine hd_condA (fun _ => ?_) (fun _ => ?_)) | refine wMgTd6 ?_ | refine wkB (fun _ => ?_) | refine wkC (fun _ _ => ?_) | exact tsA | (refine ts_step rfl (fun HF h1 hle => ?_)))
    (apply hd_resS (Hi := []); (focus (first | exact .inl rfl | exact .inr rfl)); rfl; exact aR; exact aS)
    exact ⟨⟨xs, _, _, _, pk, nk, ck, remk, shk, rfl, hsl, by omega, hsk.mono hle5, hnk, R0.bind (by rw [Int.toNat_natCast, hiN2]; exact RL)⟩, rfl⟩
end Go.Proofs.YtmpfeaoofkkhjaaGreat
