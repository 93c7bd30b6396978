/- What package mesg reads: numbers in rows. -/
import Derived.Test.YtmpfeaoofkkhjaaGreatMgS
namespace Go.Proofs.YtmpfeaoofkkhjaaGreat
open Go Go.GV
attribute [local irreducible] cw Go.GV.SpecM Go.GV.wpList Exit.then Exit.inBlock Go.GV.bodyPost wpPl wpPm wpPn TS rnd rPost YieldsB wpPT ptK
set_option maxRecDepth 10000
set_option maxHeartbeats 8000000
set_option linter.unusedVariables false
set_option linter.unusedSimpArgs false
theorem wire_Signed4 (x : Int) (h : PH) (h0 : 0 ≤ x) (h1 : x < 4294967296) : Det Tryz.prog 158 #[.int .u64 x] h (.int .i32 (x - 2147483648)) := by
  have h2 := wire_Signed x h (by simp only [inR]; omega)
  rw [Int.emod_eq_of_lt h0 h1] at h2
  exact h2

theorem pvMgT1 {A : Prop} (h : A := by (first | rfl | assumption | (simp only [decide_eq_true_eq, decide_eq_false_iff_not, beq_eq_false_iff_ne, beq_iff_eq]; omega) | fail)) : A := h
theorem nvMgT1 {A : Prop} (h : A := by (first | decide | fail)) : A := h
theorem zMgT2 {A : Prop} (h : A := by ((first | (apply OK.plain; rfl; apply OD.of) | (apply OKp.plain; rfl)); (first | (apply od_pickX; exact aX; exact pvMgT1; exact aX) | (apply od_pickY; exact aX; exact pvMgT1; exact aX)))) : A := h
theorem zMgT3 {A : Prop} (h : A := by ((first | (apply OK.plain; rfl; apply OD.of) | (apply OKp.plain; rfl)); (first | (apply od_nil; exact aX) | (apply od_cv; exact aX; (focus (simp only [inR]; omega)))))) : A := h
theorem zMgT4 {A : Prop} (h : A := by ((first | (apply OK.plain; rfl) | (apply OK.guarded; rfl; rfl; (intro hg; (try have hk := hg.2); (try have hl := hg.2.2); (try have hm := hg.2.2.2)))); (first | (apply od_call; exact aX; infer_instance; exact aE; exact aN; (focus (first | exact wire_Signed4 _ _ hx0 hx1))) ))) : A := h
theorem wMgT1 {A B : Prop} (k : B) (h : Kx B → A := by intro k; (first | (refine is_pu ?_ (by rfl); first | (apply hd_gon; rfl; rfl; (focus (constructor; exact pvMgT1; trivial))) | (apply hd_goff; rfl; rfl; (focus exact fun hs => absurd hs.1 (by exact nvMgT1)); rfl) | (apply hd_gundef; rfl; rfl; rfl) | refine hd_opAB ?_ | ((first | apply hd_ok | apply ch_ok | (apply hd_pn_run; rfl; exact aM)); (focus exact zMgT3); rfl; rfl) | ((first | apply hd_ok | apply ch_ok | (apply hd_pn_run; rfl; exact aM)); (focus exact zMgT2); rfl; rfl)) | (refine is_pn ?_; first | refine hd_pn_nil ?_ | refine hd_pnAB ?_ | ((first | apply hd_ok | apply ch_ok | (apply hd_pn_run; rfl; exact aM)); (focus exact zMgT3); rfl; rfl) | ((first | apply hd_ok | apply ch_ok | (apply hd_pn_run; rfl; exact aM)); (focus exact zMgT2); rfl; rfl) | (refine hd_pn_op rfl ?_)) | (refine is_co ?_; first | (apply hd_gon; rfl; rfl; (focus (constructor; exact pvMgT1; trivial))) | (apply hd_goff; rfl; rfl; (focus exact fun hs => absurd hs.1 (by exact nvMgT1)); rfl) | (apply hd_gundef; rfl; rfl; rfl) | ((first | apply hd_ok | apply ch_ok); (focus exact zMgT4); rfl; rfl) | refine hd_storeA ?_ | refine hd_copyA ?_) | (refine is_ni ?_; first | (refine is_on ?_; first | refine pn_barA ?_ | refine pn_goA ?_ | refine pt_goA ?_ | refine ts_onA ?_) | refine hd_nil ?_) | refine wkA ?_ | (refine is_ch ?_; refine ch_opAB ?_) | ((first | apply hd_ok | apply ch_ok); (focus exact zMgT4); rfl; rfl) | ((first | apply hd_ok | apply ch_ok | (apply hd_pn_run; rfl; exact aM)); (focus exact zMgT3); rfl; rfl) | ((first | apply hd_ok | apply ch_ok | (apply hd_pn_run; rfl; exact aM)); (focus exact zMgT2); rfl; rfl)); exact k.go) : A := h ⟨k⟩
theorem wMgT2 {A B : Prop} (k : B) (h : Kx B → A := by intro k; ((refine is_cw ?_; refine is_rg ?_; first | refine hd_draw follows_any (by decide +kernel) ?_)); exact k.go) : A := h ⟨k⟩
theorem wMgT3 {A B : Prop} (k : B) (h : Kx B → A := by intro k; ((refine is_cw ?_; refine is_cd ?_; first | (refine hd_condT (by exact aX) (by exact pvMgT1) ?_) | (refine hd_condF (by exact aX) (by exact pvMgT1) ?_))); exact k.go) : A := h ⟨k⟩
theorem zMgT1 {A : Prop} (h : A := by (first | assumption | exact Bs.mono (by assumption) (by exact aL))) : A := h
theorem take_Val {b : Nat} {p : Option Addr} {n c : Nat} {rem : List Int} {sh : Bool} (h : PH) (hs : Bs h p n c rem) (hn : n ≤ 60000) : SpecM Tryz.prog 149 #[.pointer (some ⟨b, 0, none⟩)] h [srcB b p n c sh] fun v h' Ho => ∃ x, v = .int .i32 x ∧ inR .i32 x ∧ TkP h' b n (so sh rem) pVal x Ho := by
  refine spec_enter (args := [_]) Tryz.func149 rfl Tryz.ntmps149 rfl (fun w l => ?_)
  repeat' (first | (refine is_cx ?_ (by rfl); first | (refine hd_cmA (Hi := [srcB _ _ _ _ _]) (s := by (first | exact src_num1 _ (by exact zMgT1) (by omega) | exact src_num2 _ (by exact zMgT1) (by omega) | exact src_num4 _ (by exact zMgT1) (by omega))) (k := ?_); rintro _ h1 _ hle1 ⟨x1, rfl, hx0, hx1, p1, n1, c1, rem1, sh1, rfl, hs1, hn1, R1⟩)) | refine wMgT2 ?_ | refine wMgT3 ?_ | (refine is_cd ?_; first | refine hd_condA (fun _ => ?_) (fun _ => ?_)) | refine wMgT1 ?_ | refine wkB (fun _ => ?_) | refine wkC (fun _ _ => ?_) | exact tsA | (refine ts_step rfl (fun HF h1 hle => ?_)))
  (apply hd_resS (Hi := [srcB b p1 n1 c1 sh1]); (focus (first | exact .inl rfl | exact .inr rfl)); rfl; exact aR; exact aS)
  exact ⟨_, rfl, by simp only [inR]; omega, _, _, _, _, _, rfl, hs1, hn1, R1.bind (Rds.pu _ _)⟩
theorem take_Mark {b : Nat} {p : Option Addr} {n c : Nat} {rem : List Int} {sh : Bool} (h : PH) (hs : Bs h p n c rem) (hn : n ≤ 60000) : SpecM Tryz.prog 106 #[.pointer (some ⟨b, 0, none⟩)] h [srcB b p n c sh] fun v h' Ho => ∃ x : Mk, v = .agg #[.int .u8 x.1, .int .u16 x.2.1, .int .u32 x.2.2] ∧ MkR x ∧ TkP h' b n (so sh rem) pMark x Ho := by
  refine spec_enter (args := [_]) Tryz.func106 rfl Tryz.ntmps106 rfl (fun w l => ?_)
  repeat' (first | (refine is_cx ?_ (by rfl); first | (refine hd_cmA (Hi := [srcB _ _ _ _ _]) (s := by (first | exact src_num1 _ (by exact zMgT1) (by omega) | exact src_num2 _ (by exact zMgT1) (by omega) | exact src_num4 _ (by exact zMgT1) (by omega))) (k := ?_); rintro _ h1 _ hle1 ⟨x1, rfl, hx0, hx1, p1, n1, c1, rem1, sh1, rfl, hs1, hn1, R1⟩)) | (refine is_cw ?_; first | refine hd_stop1 (id := 3) ?_) | refine wMgT2 ?_ | refine wMgT3 ?_ | (refine is_cd ?_; first | refine hd_condA (fun _ => ?_) (fun _ => ?_)) | refine wMgT1 ?_ | refine wkB (fun _ => ?_) | refine wkC (fun _ _ => ?_) | exact tsA | (refine ts_step rfl (fun HF h1 hle => ?_)))
  refine Stop.mk ?_
  have RA := R1
  have a0 := hx0
  have a1 := hx1
  have na := hn1
  repeat' (first | (refine is_cx ?_ (by rfl); first | (refine hd_cmA (Hi := [srcB _ _ _ _ _]) (s := by (first | exact src_num1 _ (by exact zMgT1) (by omega) | exact src_num2 _ (by exact zMgT1) (by omega) | exact src_num4 _ (by exact zMgT1) (by omega))) (k := ?_); rintro _ h1 _ hle1 ⟨x1, rfl, hx0, hx1, p1, n1, c1, rem1, sh1, rfl, hs1, hn1, R1⟩)) | (refine is_cw ?_; first | refine hd_stop1 (id := 4) ?_) | refine wMgT2 ?_ | refine wMgT3 ?_ | (refine is_cd ?_; first | refine hd_condA (fun _ => ?_) (fun _ => ?_)) | refine wMgT1 ?_ | refine wkB (fun _ => ?_) | refine wkC (fun _ _ => ?_) | exact tsA | (refine ts_step rfl (fun HF h1 hle => ?_)))
  refine Stop.mk ?_
  have RB := R1
  have b0 := hx0
  have b1 := hx1
  have nb := hn1
  repeat' (first | (refine is_cx ?_ (by rfl); first | (refine hd_cmA (Hi := [srcB _ _ _ _ _]) (s := by (first | exact src_num1 _ (by exact zMgT1) (by omega) | exact src_num2 _ (by exact zMgT1) (by omega) | exact src_num4 _ (by exact zMgT1) (by omega))) (k := ?_); rintro _ h1 _ hle1 ⟨x1, rfl, hx0, hx1, p1, n1, c1, rem1, sh1, rfl, hs1, hn1, R1⟩)) | refine wMgT2 ?_ | refine wMgT3 ?_ | (refine is_cd ?_; first | refine hd_condA (fun _ => ?_) (fun _ => ?_)) | refine wMgT1 ?_ | refine wkB (fun _ => ?_) | refine wkC (fun _ _ => ?_) | exact tsA | (refine ts_step rfl (fun HF h1 hle => ?_)))
  (apply hd_resS (Hi := [srcB b p1 n1 c1 sh1]); (focus (first | exact .inl rfl | exact .inr rfl)); rfl; exact aR; exact aS)
  exact ⟨(_, _, _), rfl, ⟨by simp only [inR]; omega, by simp only [inR]; omega, by simp only [inR]; omega⟩, _, _, _, _, _, rfl, hs1, by omega, RA.bind (RB.bind (R1.bind (Rds.pu _ _)))⟩
theorem take_Mem {b : Nat} {p : Option Addr} {n c : Nat} {rem : List Int} {sh : Bool} (h : PH) (hs : Bs h p n c rem) (hn : n ≤ 60000) : SpecM Tryz.prog 81 #[.pointer (some ⟨b, 0, none⟩)] h [srcB b p n c sh] fun v h' Ho => ∃ x : Mk, v = .agg #[.int .u16 x.1, .int .u8 x.2.1, .int .u8 x.2.2] ∧ MmR x ∧ TkP h' b n (so sh rem) pMem x Ho := by
  refine spec_enter (args := [_]) Tryz.func81 rfl Tryz.ntmps81 rfl (fun w l => ?_)
  repeat' (first | (refine is_cx ?_ (by rfl); first | (refine hd_cmA (Hi := [srcB _ _ _ _ _]) (s := by (first | exact src_num1 _ (by exact zMgT1) (by omega) | exact src_num2 _ (by exact zMgT1) (by omega) | exact src_num4 _ (by exact zMgT1) (by omega))) (k := ?_); rintro _ h1 _ hle1 ⟨x1, rfl, hx0, hx1, p1, n1, c1, rem1, sh1, rfl, hs1, hn1, R1⟩)) | (refine is_cw ?_; first | refine hd_stop1 (id := 3) ?_) | refine wMgT2 ?_ | refine wMgT3 ?_ | (refine is_cd ?_; first | refine hd_condA (fun _ => ?_) (fun _ => ?_)) | refine wMgT1 ?_ | refine wkB (fun _ => ?_) | refine wkC (fun _ _ => ?_) | exact tsA | (refine ts_step rfl (fun HF h1 hle => ?_)))
  refine Stop.mk ?_
  have RA := R1
  have a0 := hx0
  have a1 := hx1
  have na := hn1
  repeat' (first | (refine is_cx ?_ (by rfl); first | (refine hd_cmA (Hi := [srcB _ _ _ _ _]) (s := by (first | exact src_num1 _ (by exact zMgT1) (by omega) | exact src_num2 _ (by exact zMgT1) (by omega) | exact src_num4 _ (by exact zMgT1) (by omega))) (k := ?_); rintro _ h1 _ hle1 ⟨x1, rfl, hx0, hx1, p1, n1, c1, rem1, sh1, rfl, hs1, hn1, R1⟩)) | (refine is_cw ?_; first | refine hd_stop1 (id := 4) ?_) | refine wMgT2 ?_ | refine wMgT3 ?_ | (refine is_cd ?_; first | refine hd_condA (fun _ => ?_) (fun _ => ?_)) | refine wMgT1 ?_ | refine wkB (fun _ => ?_) | refine wkC (fun _ _ => ?_) | exact tsA | (refine ts_step rfl (fun HF h1 hle => ?_)))
  refine Stop.mk ?_
  have RB := R1
  have b0 := hx0
  have b1 := hx1
  have nb := hn1
  repeat' (first | (refine is_cx ?_ (by rfl); first | (refine hd_cmA (Hi := [srcB _ _ _ _ _]) (s := by (first | exact src_num1 _ (by exact zMgT1) (by omega) | exact src_num2 _ (by exact zMgT1) (by omega) | exact src_num4 _ (by exact zMgT1) (by omega))) (k := ?_); rintro _ h1 _ hle1 ⟨x1, rfl, hx0, hx1, p1, n1, c1, rem1, sh1, rfl, hs1, hn1, R1⟩)) | refine wMgT2 ?_ | refine wMgT3 ?_ | (refine is_cd ?_; first | refine hd_condA (fun _ => ?_) (fun _ => ?_)) | refine wMgT1 ?_ | refine wkB (fun _ => ?_) | refine wkC (fun _ _ => ?_) | exact tsA | (refine ts_step rfl (fun HF h1 hle => ?_)))
  (apply hd_resS (Hi := [srcB b p1 n1 c1 sh1]); (focus (first | exact .inl rfl | exact .inr rfl)); rfl; exact aR; exact aS)
  exact ⟨(_, _, _), rfl, ⟨by simp only [inR]; omega, by simp only [inR]; omega, by simp only [inR]; omega⟩, _, _, _, _, _, rfl, hs1, by omega, RA.bind (RB.bind (R1.bind (Rds.pu _ _)))⟩
theorem zMgT5 {A : Prop} (h : A := by ((first | (apply OK.plain; rfl) | (apply OK.guarded; rfl; rfl; (intro hg; (try have hk := hg.2); (try have hl := hg.2.2); (try have hm := hg.2.2.2)))); (first | (apply od_call; exact aX; infer_instance; exact aE; exact aN; (focus (first | fail))) ))) : A := h
theorem wMgT4 {A B : Prop} (k : B) (h : Kx B → A := by intro k; (first | (refine is_pu ?_ (by rfl); first | (apply hd_gon; rfl; rfl; (focus (constructor; exact pvMgT1; trivial))) | (apply hd_goff; rfl; rfl; (focus exact fun hs => absurd hs.1 (by exact nvMgT1)); rfl) | (apply hd_gundef; rfl; rfl; rfl) | refine hd_opAB ?_ | ((first | apply hd_ok | apply ch_ok | (apply hd_pn_run; rfl; exact aM)); (focus exact zMgT3); rfl; rfl) | ((first | apply hd_ok | apply ch_ok | (apply hd_pn_run; rfl; exact aM)); (focus exact zMgT2); rfl; rfl)) | (refine is_pn ?_; first | refine hd_pn_nil ?_ | refine hd_pnAB ?_ | ((first | apply hd_ok | apply ch_ok | (apply hd_pn_run; rfl; exact aM)); (focus exact zMgT3); rfl; rfl) | ((first | apply hd_ok | apply ch_ok | (apply hd_pn_run; rfl; exact aM)); (focus exact zMgT2); rfl; rfl) | (refine hd_pn_op rfl ?_)) | (refine is_co ?_; first | (apply hd_gon; rfl; rfl; (focus (constructor; exact pvMgT1; trivial))) | (apply hd_goff; rfl; rfl; (focus exact fun hs => absurd hs.1 (by exact nvMgT1)); rfl) | (apply hd_gundef; rfl; rfl; rfl) | ((first | apply hd_ok | apply ch_ok); (focus exact zMgT5); rfl; rfl) | refine hd_storeA ?_ | refine hd_copyA ?_) | (refine is_ni ?_; first | (refine is_on ?_; first | refine pn_barA ?_ | refine pn_goA ?_ | refine pt_goA ?_ | refine ts_onA ?_) | refine hd_nil ?_) | refine wkA ?_ | (refine is_ch ?_; refine ch_opAB ?_) | ((first | apply hd_ok | apply ch_ok); (focus exact zMgT5); rfl; rfl) | ((first | apply hd_ok | apply ch_ok | (apply hd_pn_run; rfl; exact aM)); (focus exact zMgT3); rfl; rfl) | ((first | apply hd_ok | apply ch_ok | (apply hd_pn_run; rfl; exact aM)); (focus exact zMgT2); rfl; rfl)); exact k.go) : A := h ⟨k⟩
theorem take_ID {b : Nat} {p : Option Addr} {n c : Nat} {rem : List Int} {sh : Bool} (h : PH) (hs : Bs h p n c rem) (hn : n ≤ 60000) : SpecM Tryz.prog 125 #[.pointer (some ⟨b, 0, none⟩)] h [srcB b p n c sh] fun v h' Ho => ∃ x : Mk, v = .agg #[.int .u8 x.1, .int .u16 x.2.1, .int .u32 x.2.2] ∧ MkR x ∧ TkP h' b n (so sh rem) pMark x Ho := by
  refine spec_enter (args := [_]) Tryz.func125 rfl Tryz.ntmps125 rfl (fun w l => ?_)
  repeat' (first | (refine is_cx ?_ (by rfl); first | (refine hd_cmA (Hi := [srcB _ _ _ _ _]) (s := by (first | exact take_Mark _ (by exact zMgT1) (by omega) | exact take_Val _ (by exact zMgT1) (by omega))) (k := ?_); rintro _ h1 _ hle1 ⟨x1, rfl, hr1, p1, n1, c1, rem1, sh1, rfl, hs1, hn1, R1⟩)) | refine wMgT2 ?_ | refine wMgT3 ?_ | (refine is_cd ?_; first | refine hd_condA (fun _ => ?_) (fun _ => ?_)) | refine wMgT4 ?_ | refine wkB (fun _ => ?_) | refine wkC (fun _ _ => ?_) | exact tsA | (refine ts_step rfl (fun HF h1 hle => ?_)))
  (apply hd_resS (Hi := [srcB b p1 n1 c1 sh1]); (focus (first | exact .inl rfl | exact .inr rfl)); rfl; exact aR; exact aS)
  exact ⟨_, rfl, hr1, _, _, _, _, _, rfl, hs1, hn1, R1⟩
theorem take_Span {b : Nat} {p : Option Addr} {n c : Nat} {rem : List Int} {sh : Bool} (h : PH) (hs : Bs h p n c rem) (hn : n ≤ 60000) : SpecM Tryz.prog 139 #[.pointer (some ⟨b, 0, none⟩)] h [srcB b p n c sh] fun v h' Ho => ∃ x : Sp, v = .agg #[.int .i32 x.1, .int .i32 x.2] ∧ (inR .i32 x.1 ∧ inR .i32 x.2) ∧ TkP h' b n (so sh rem) pSpan x Ho := by
  refine spec_enter (args := [_]) Tryz.func139 rfl Tryz.ntmps139 rfl (fun w l => ?_)
  repeat' (first | (refine is_cx ?_ (by rfl); first | (refine hd_cmA (Hi := [srcB _ _ _ _ _]) (s := by (first | exact take_Mark _ (by exact zMgT1) (by omega) | exact take_Val _ (by exact zMgT1) (by omega))) (k := ?_); rintro _ h1 _ hle1 ⟨x1, rfl, hr1, p1, n1, c1, rem1, sh1, rfl, hs1, hn1, R1⟩)) | (refine is_cw ?_; first | refine hd_stop1 (id := 2) ?_) | refine wMgT2 ?_ | refine wMgT3 ?_ | (refine is_cd ?_; first | refine hd_condA (fun _ => ?_) (fun _ => ?_)) | refine wMgT4 ?_ | refine wkB (fun _ => ?_) | refine wkC (fun _ _ => ?_) | exact tsA | (refine ts_step rfl (fun HF h1 hle => ?_)))
  refine Stop.mk ?_
  have RA := R1
  have ra := hr1
  have na := hn1
  repeat' (first | (refine is_cx ?_ (by rfl); first | (refine hd_cmA (Hi := [srcB _ _ _ _ _]) (s := by (first | exact take_Mark _ (by exact zMgT1) (by omega) | exact take_Val _ (by exact zMgT1) (by omega))) (k := ?_); rintro _ h1 _ hle1 ⟨x1, rfl, hr1, p1, n1, c1, rem1, sh1, rfl, hs1, hn1, R1⟩)) | refine wMgT2 ?_ | refine wMgT3 ?_ | (refine is_cd ?_; first | refine hd_condA (fun _ => ?_) (fun _ => ?_)) | refine wMgT4 ?_ | refine wkB (fun _ => ?_) | refine wkC (fun _ _ => ?_) | exact tsA | (refine ts_step rfl (fun HF h1 hle => ?_)))
  (apply hd_resS (Hi := [srcB b p1 n1 c1 sh1]); (focus (first | exact .inl rfl | exact .inr rfl)); rfl; exact aR; exact aS)
  exact ⟨(_, _), rfl, ⟨ra, hr1⟩, _, _, _, _, _, rfl, hs1, by omega, RA.bind (R1.bind (Rds.pu _ _))⟩
end Go.Proofs.YtmpfeaoofkkhjaaGreat
