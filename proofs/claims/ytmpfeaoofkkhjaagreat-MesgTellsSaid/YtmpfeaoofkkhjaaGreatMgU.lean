/- What package mesg reads: lists. Printed by gen_mgu.py. -/
import Derived.Test.YtmpfeaoofkkhjaaGreatMgT
namespace Go.Proofs.YtmpfeaoofkkhjaaGreat
open Go Go.GV
attribute [local irreducible] cw Go.GV.SpecM Go.GV.wpList Exit.then Exit.inBlock Go.GV.bodyPost wpPl wpPm wpPn TS rnd rPost YieldsB wpPT ptK
set_option maxRecDepth 10000
set_option maxHeartbeats 8000000
set_option linter.unusedVariables false
set_option linter.unusedSimpArgs false
theorem pli_fail {α : Type} {f : Pa α} {o : Option (List Int)} {i : Nat} (h : o.bind (pli f i) = none) : ∀ k, o.bind (pli f (i + k)) = none
  | 0 => h
  | k + 1 => by
    have ih := pli_fail h k
    cases o with
    | none => rfl
    | some b =>
      simp only [Option.bind_some] at ih ⊢
      rw [show i + (k + 1) = (i + k) + 1 from rfl]
      simp only [pli, pbi, ih, Option.bind_none]
theorem Rds.short {α : Type} {f : Pa α} {o : Option (List Int)} {i N : Nat} {xs : List α} (h : Rds o (pli f i) none xs) (hi : i ≤ N) (ys : List α) : Rds o (pli f N) none ys := by
  have h1 := h.rest
  simp only [Option.map_eq_none_iff] at h1
  obtain ⟨k, rfl⟩ := Nat.le.dest hi
  have h2 := pli_fail h1 k
  exact ⟨by rw [h2]; rfl, fun y r e => by rw [h2] at e; cases e⟩
theorem Rds.snoc {α : Type} {f : Pa α} {o o1 o2 : Option (List Int)} {i : Nat} {xs : List α} {x : α} (h : Rds o (pli f i) o1 xs) (h2 : Rds o1 f o2 x) : Rds o (pli f (i + 1)) o2 (xs ++ [x]) := h.bind (h2.bind (Rds.pu _ _))

theorem pvMgU1 {A : Prop} (h : A := by (first | rfl | assumption | (rw [hu]; rfl) | (simp only [decide_eq_true_eq, decide_eq_false_iff_not, beq_eq_false_iff_ne, beq_iff_eq]; omega) | fail)) : A := h
theorem nvMgU1 {A : Prop} (h : A := by (first | decide | fail)) : A := h
theorem zMgU1 {A : Prop} (h : A := by ((first | (apply OK.plain; rfl; apply OD.of) | (apply OKp.plain; rfl)); (first | (apply od_pickX; exact aX; exact pvMgU1; exact aX) | (apply od_pickY; exact aX; exact pvMgU1; exact aX)))) : A := h
theorem zMgU3 {A : Prop} (h : A := by ((first | (apply OK.plain; rfl) | (apply OK.guarded; rfl; rfl; (intro hg; (try have hk := hg.2); (try have hl := hg.2.2); (try have hm := hg.2.2.2)))); (first | (apply od_call; exact aX; infer_instance; exact aE; exact aN; (focus (first | fail))) ))) : A := h
theorem zMgU4 {A : Prop} (h : A := by ((first | (apply OK.plain; rfl; apply OD.of) | (apply OKp.plain; rfl)); (first | (apply od_nil; exact aX)))) : A := h
theorem wMgU1 {A B : Prop} (k : B) (h : Kx B → A := by intro k; (first | (refine is_pu ?_ (by rfl); first | (apply hd_gon; rfl; rfl; (focus (constructor; exact pvMgU1; trivial))) | (apply hd_goff; rfl; rfl; (focus exact fun hs => absurd hs.1 (by exact nvMgU1)); rfl) | (apply hd_gundef; rfl; rfl; rfl) | refine hd_opAB ?_ | ((first | apply hd_ok | apply ch_ok | (apply hd_pn_run; rfl; exact aM)); (focus exact zMgU4); rfl; rfl) | ((first | apply hd_ok | apply ch_ok | (apply hd_pn_run; rfl; exact aM)); (focus exact zMgU1); rfl; rfl)) | (refine is_pn ?_; first | refine hd_pn_nil ?_ | refine hd_pnAB ?_ | ((first | apply hd_ok | apply ch_ok | (apply hd_pn_run; rfl; exact aM)); (focus exact zMgU4); rfl; rfl) | ((first | apply hd_ok | apply ch_ok | (apply hd_pn_run; rfl; exact aM)); (focus exact zMgU1); rfl; rfl) | (refine hd_pn_op rfl ?_)) | (refine is_co ?_; first | (apply hd_gon; rfl; rfl; (focus (constructor; exact pvMgU1; trivial))) | (apply hd_goff; rfl; rfl; (focus exact fun hs => absurd hs.1 (by exact nvMgU1)); rfl) | (apply hd_gundef; rfl; rfl; rfl) | ((first | apply hd_ok | apply ch_ok); (focus exact zMgU3); rfl; rfl) | refine hd_storeA ?_ | refine hd_copyA ?_) | (refine is_ni ?_; first | (refine is_on ?_; first | refine pn_barA ?_ | refine pn_goA ?_ | refine pt_goA ?_ | refine ts_onA ?_) | refine hd_nil ?_) | refine wkA ?_ | (refine is_ch ?_; refine ch_opAB ?_) | ((first | apply hd_ok | apply ch_ok); (focus exact zMgU3); rfl; rfl) | ((first | apply hd_ok | apply ch_ok | (apply hd_pn_run; rfl; exact aM)); (focus exact zMgU4); rfl; rfl) | ((first | apply hd_ok | apply ch_ok | (apply hd_pn_run; rfl; exact aM)); (focus exact zMgU1); rfl; rfl)); exact k.go) : A := h ⟨k⟩
theorem wMgU2 {A B : Prop} (k : B) (h : Kx B → A := by intro k; ((refine is_cw ?_; refine is_rg ?_; first | refine hd_draw follows_any (by decide +kernel) ?_)); exact k.go) : A := h ⟨k⟩
theorem wMgU3 {A B : Prop} (k : B) (h : Kx B → A := by intro k; ((refine is_cw ?_; refine is_cd ?_; first | (refine hd_condT (by exact aX) (by exact pvMgU1) ?_) | (refine hd_condF (by exact aX) (by exact pvMgU1) ?_))); exact k.go) : A := h ⟨k⟩
theorem wMgU4 {A B : Prop} (k : B) (h : Kx B → A := by intro k; (first | (refine is_pu ?_ (by rfl); first | (apply hd_gon; rfl; rfl; (focus (constructor; exact pvMgU1; trivial))) | (apply hd_goff; rfl; rfl; (focus exact fun hs => absurd hs.1 (by exact nvMgU1)); rfl) | (apply hd_gundef; rfl; rfl; rfl) | refine hd_opAB ?_ | ((first | apply hd_ok | apply ch_ok | (apply hd_pn_run; rfl; exact aM)); (focus exact zMgU4); rfl; rfl) | ((first | apply hd_ok | apply ch_ok | (apply hd_pn_run; rfl; exact aM)); (focus exact zMgU1); rfl; rfl)) | (refine is_pn ?_; first | refine hd_pn_nil ?_ | refine hd_pnAB ?_ | ((first | apply hd_ok | apply ch_ok | (apply hd_pn_run; rfl; exact aM)); (focus exact zMgU4); rfl; rfl) | ((first | apply hd_ok | apply ch_ok | (apply hd_pn_run; rfl; exact aM)); (focus exact zMgU1); rfl; rfl) | (refine hd_pn_op rfl ?_)) | (refine is_co ?_; first | (apply hd_gon; rfl; rfl; (focus (constructor; exact pvMgU1; trivial))) | (apply hd_goff; rfl; rfl; (focus exact fun hs => absurd hs.1 (by exact nvMgU1)); rfl) | (apply hd_gundef; rfl; rfl; rfl) | refine hd_copyA ?_ | ((first | apply hd_ok | apply ch_ok); (focus exact zMgU3); rfl; rfl) | refine hd_storeA ?_ | refine hd_copyA ?_) | (refine is_ni ?_; first | (refine is_on ?_; first | refine pn_barA ?_ | refine pn_goA ?_ | refine pt_goA ?_ | refine ts_onA ?_) | refine hd_nil ?_) | refine wkA ?_ | (refine is_ch ?_; refine ch_opAB ?_) | ((first | apply hd_ok | apply ch_ok); (focus exact zMgU3); rfl; rfl) | ((first | apply hd_ok | apply ch_ok | (apply hd_pn_run; rfl; exact aM)); (focus exact zMgU4); rfl; rfl) | ((first | apply hd_ok | apply ch_ok | (apply hd_pn_run; rfl; exact aM)); (focus exact zMgU1); rfl; rfl)); exact k.go) : A := h ⟨k⟩
theorem zMgU2 {A : Prop} (h : A := by (first | assumption | exact Bs.mono (by assumption) (by exact aL))) : A := h
theorem takeAll_Mark {b : Nat} {p : Option Addr} {n c : Nat} {rem : List Int} {sh : Bool} (h : PH) (hs : Bs h p n c rem) (hn : n ≤ 60000) : SpecM Tryz.prog 114 #[.pointer (some ⟨b, 0, none⟩), .func (.func 106) #[] #[]] h [srcB b p n c sh] fun v h' Ho => ∃ (xs : List Mk) (p' : Option Addr) (n' c' : Nat), v = .slice p' n' c' ∧ SlR rID (PH.new h h') p' n' c' xs ∧ xs.length ≤ 255 ∧ TkP h' b n (so sh rem) (pal pMark) xs Ho := by
  refine spec_enter (args := [_, _]) Tryz.func114 rfl Tryz.ntmps114 rfl (fun w l => ?_)
  repeat' (first | (refine is_cx ?_ (by rfl); first | (refine hd_cmA (Hi := [srcB _ _ _ _ _]) (s := by exact src_num1 _ (by exact zMgU2) (by omega)) (k := ?_); rintro _ h1 _ hle1 ⟨x1, rfl, hx0, hx1, p1, n1, c1, rem1, sh1, rfl, hs1, hn1, R1⟩)) | refine wMgU2 ?_ | refine wMgU3 ?_ | (refine is_cd ?_; first | refine hd_condA (fun _ => ?_) (fun _ => ?_)) | refine wMgU1 ?_ | refine wkB (fun _ => ?_) | refine wkC (fun _ _ => ?_) | exact tsA | (refine ts_step rfl (fun HF h1 hle => ?_)))
  obtain ⟨N, rfl⟩ : ∃ N : Nat, x1 = (N : Int) := ⟨x1.toNat, by omega⟩
  have hN : N ≤ 255 := by omega
  have R0 := R1
  refine hd_nilrow 32 3 ?_
  refine hd_loopS (ι := Nat × PH × (Option Addr × Nat × Nat × List Int × Bool) × (Option Addr × Nat × List (List Value) × List Mk)) (fun i => i.1 ≤ N ∧ h.le i.2.1 ∧ Bs i.2.1 i.2.2.1.1 i.2.2.1.2.1 i.2.2.1.2.2.1 i.2.2.1.2.2.2.1 ∧ i.2.2.1.2.1 ≤ n ∧ All2 (rID.ok (PH.new h i.2.1)) i.2.2.2.2.2.1 i.2.2.2.2.2.2 ∧ i.2.2.2.2.2.2.length = i.1 ∧ Rds (so sh1 rem1) (pli pMark i.1) (so i.2.2.1.2.2.2.2 i.2.2.1.2.2.2.1) i.2.2.2.2.2.2)
    (fun i => [(0, [], .pointer (some ⟨b, 0, none⟩)), (1, [], .func (.func 106) #[] #[]), (5, [], .slice i.2.2.2.1 i.1 i.2.2.2.2.1), (6, [], .int .u64 ((N : Int) - i.1))]) (fun i => [row i.2.2.2.1 i.1 i.2.2.2.2.1 32 3 i.2.2.2.2.2.1.flatten, srcB b i.2.2.1.1 i.2.2.1.2.1 i.2.2.1.2.2.1 i.2.2.1.2.2.2.2]) (fun i => i.2.1) (fun i => N - i.1) (0, h1, (p1, n1, c1, rem1, sh1), (none, 0, [], [])) ⟨by simp, hle1, hs1, hn1, trivial, rfl, Rds.pu _ _⟩ (by simp only [Int.natCast_zero, Int.sub_zero]; exact aU) (fun w hw => inv_only (by exact aS) hw) (fun i hi => ?_)
  obtain ⟨i, hk, ⟨pk, nk, ck, remk, shk⟩, pr, cr, css, xs⟩ := i
  obtain ⟨hiN, hlk, hsk, hnk, hall, hlx, RL⟩ := hi
  dsimp only at hiN hlk hsk hnk hall hlx RL ⊢
  have hu := True.intro
  refine hd_split (c := decide (i < N)) (fun hlt => ?_) (fun hlt => ?_)
  · simp only [decide_eq_true_eq] at hlt
    cases shk with
    | true =>
      repeat' (first | (refine is_cx ?_ (by rfl); first | (refine hd_cmA (Hi := [srcB _ _ _ _ _]) (s := by exact src_num1 _ (by exact zMgU2) (by omega)) (k := ?_); rintro _ h1 _ hle1 ⟨x1, rfl, hx0, hx1, p1, n1, c1, rem1, sh1, rfl, hs1, hn1, R1⟩)) | refine wMgU2 ?_ | refine wMgU3 ?_ | (refine is_cd ?_; first | refine hd_condA (fun _ => ?_) (fun _ => ?_)) | refine wMgU1 ?_ | refine wkB (fun _ => ?_) | refine wkC (fun _ _ => ?_) | exact tsA | (refine ts_step rfl (fun HF h1 hle => ?_)))
      refine hd_pubN (r := rID) (hb := h) hlk css xs (by exact aP) rfl hall hlx (by omega) (fun h5 hle5 hsl => ?_)
      (apply hd_resS (Hi := [srcB b pk nk ck true]); (focus (first | exact .inl rfl | exact .inr rfl)); rfl; exact aR; exact aS)
      exact ⟨xs, _, _, _, rfl, hsl, by omega, pk, nk, ck, remk, true, rfl, hsk.mono hle5, hnk, R0.bind (by rw [Int.toNat_natCast]; exact RL.short hiN xs)⟩
    | false =>
      repeat' (first | (refine is_cx ?_ (by rfl); first | (refine hd_cmA (Hi := [srcB _ _ _ _ _]) (s := by exact take_Mark _ hsk (by omega)) (k := ?_); rintro _ h1 _ hle1 ⟨x1, rfl, hr1, p1, n1, c1, rem1, sh1, rfl, hs1, hn1, R1⟩) | (apply hd_append; exact aX; exact aX; exact aP; (focus exact Src.row (by exact aH)); rfl; rfl; (focus omega); (focus omega); rfl; (refine fun p3 c3 => ?_)) | refine hd_makeA (fun _ => ?_) | refine hd_litA (fun _ => ?_) | refine hd_appendA (fun _ _ => ?_)) | refine wMgU2 ?_ | refine wMgU3 ?_ | (refine is_cd ?_; first | refine hd_condA (fun _ => ?_) (fun _ => ?_)) | refine wMgU4 ?_ | refine wkB (fun _ => ?_) | refine wkC (fun _ _ => ?_) | exact tsA | (refine ts_step rfl (fun HF h1 hle => ?_)))
      rw [show (N : Int) - i - 1 = (N : Int) - ((i + 1 : Nat) : Int) by omega]
      exact hd_again (i + 1, h1, (p1, n1, c1, rem1, sh1), (p3, c3, css ++ [[.int .u8 x1.1, .int .u16 x1.2.1, .int .u32 x1.2.2]], xs ++ [x1])) ⟨by dsimp only; omega, PH.le_trans hlk hle1, hs1, by dsimp only; omega, All2.snoc (hall.mono fun _ _ => rID.mono (PH.new_mono hle1)) (rID_mk hr1), by dsimp only; simp [hlx], RL.snoc R1⟩ (by dsimp only; omega) (by exact aU) (fun w hw => by simp only [List.flatten_append, List.flatten_cons, List.flatten_nil, List.append_nil]; exact inv_only (by exact aS) hw)
  · simp only [decide_eq_false_iff_not] at hlt
    have hu : decide (0 < (N : Int) - i) = false := decide_eq_false (by omega)
    have hiN2 : N = i := by omega
    subst hiN2
    repeat' (first | (refine is_cx ?_ (by rfl); first | (refine hd_cmA (Hi := [srcB _ _ _ _ _]) (s := by exact take_Mark _ hsk (by omega)) (k := ?_); rintro _ h1 _ hle1 ⟨x1, rfl, hr1, p1, n1, c1, rem1, sh1, rfl, hs1, hn1, R1⟩) | (apply hd_append; exact aX; exact aX; exact aP; (focus exact Src.row (by exact aH)); rfl; rfl; (focus omega); (focus omega); rfl; (refine fun p3 c3 => ?_)) | refine hd_makeA (fun _ => ?_) | refine hd_litA (fun _ => ?_) | refine hd_appendA (fun _ _ => ?_)) | refine wMgU2 ?_ | refine wMgU3 ?_ | (refine is_cd ?_; first | refine hd_condA (fun _ => ?_) (fun _ => ?_)) | refine wMgU4 ?_ | refine wkB (fun _ => ?_) | refine wkC (fun _ _ => ?_) | exact tsA | (refine ts_step rfl (fun HF h1 hle => ?_)))
    refine hd_pubN (r := rID) (hb := h) hlk css xs (by exact aP) rfl hall hlx (by omega) (fun h5 hle5 hsl => ?_)
    (apply hd_resS (Hi := [srcB b pk nk ck shk]); (focus (first | exact .inl rfl | exact .inr rfl)); rfl; exact aR; exact aS)
    exact ⟨xs, _, _, _, rfl, hsl, by omega, pk, nk, ck, remk, shk, rfl, hsk.mono hle5, hnk, R0.bind (by rw [Int.toNat_natCast]; exact RL)⟩
theorem takeAll_ID {b : Nat} {p : Option Addr} {n c : Nat} {rem : List Int} {sh : Bool} (h : PH) (hs : Bs h p n c rem) (hn : n ≤ 60000) : SpecM Tryz.prog 124 #[.pointer (some ⟨b, 0, none⟩), .func (.func 125) #[] #[]] h [srcB b p n c sh] fun v h' Ho => ∃ (xs : List Mk) (p' : Option Addr) (n' c' : Nat), v = .slice p' n' c' ∧ SlR rID (PH.new h h') p' n' c' xs ∧ xs.length ≤ 255 ∧ TkP h' b n (so sh rem) (pal pMark) xs Ho := by
  refine spec_enter (args := [_, _]) Tryz.func124 rfl Tryz.ntmps124 rfl (fun w l => ?_)
  repeat' (first | (refine is_cx ?_ (by rfl); first | (refine hd_cmA (Hi := [srcB _ _ _ _ _]) (s := by exact src_num1 _ (by exact zMgU2) (by omega)) (k := ?_); rintro _ h1 _ hle1 ⟨x1, rfl, hx0, hx1, p1, n1, c1, rem1, sh1, rfl, hs1, hn1, R1⟩)) | refine wMgU2 ?_ | refine wMgU3 ?_ | (refine is_cd ?_; first | refine hd_condA (fun _ => ?_) (fun _ => ?_)) | refine wMgU1 ?_ | refine wkB (fun _ => ?_) | refine wkC (fun _ _ => ?_) | exact tsA | (refine ts_step rfl (fun HF h1 hle => ?_)))
  obtain ⟨N, rfl⟩ : ∃ N : Nat, x1 = (N : Int) := ⟨x1.toNat, by omega⟩
  have hN : N ≤ 255 := by omega
  have R0 := R1
  refine hd_nilrow 27 3 ?_
  refine hd_loopS (ι := Nat × PH × (Option Addr × Nat × Nat × List Int × Bool) × (Option Addr × Nat × List (List Value) × List Mk)) (fun i => i.1 ≤ N ∧ h.le i.2.1 ∧ Bs i.2.1 i.2.2.1.1 i.2.2.1.2.1 i.2.2.1.2.2.1 i.2.2.1.2.2.2.1 ∧ i.2.2.1.2.1 ≤ n ∧ All2 (rID.ok (PH.new h i.2.1)) i.2.2.2.2.2.1 i.2.2.2.2.2.2 ∧ i.2.2.2.2.2.2.length = i.1 ∧ Rds (so sh1 rem1) (pli pMark i.1) (so i.2.2.1.2.2.2.2 i.2.2.1.2.2.2.1) i.2.2.2.2.2.2)
    (fun i => [(0, [], .pointer (some ⟨b, 0, none⟩)), (1, [], .func (.func 125) #[] #[]), (5, [], .slice i.2.2.2.1 i.1 i.2.2.2.2.1), (6, [], .int .u64 ((N : Int) - i.1))]) (fun i => [row i.2.2.2.1 i.1 i.2.2.2.2.1 27 3 i.2.2.2.2.2.1.flatten, srcB b i.2.2.1.1 i.2.2.1.2.1 i.2.2.1.2.2.1 i.2.2.1.2.2.2.2]) (fun i => i.2.1) (fun i => N - i.1) (0, h1, (p1, n1, c1, rem1, sh1), (none, 0, [], [])) ⟨by simp, hle1, hs1, hn1, trivial, rfl, Rds.pu _ _⟩ (by simp only [Int.natCast_zero, Int.sub_zero]; exact aU) (fun w hw => inv_only (by exact aS) hw) (fun i hi => ?_)
  obtain ⟨i, hk, ⟨pk, nk, ck, remk, shk⟩, pr, cr, css, xs⟩ := i
  obtain ⟨hiN, hlk, hsk, hnk, hall, hlx, RL⟩ := hi
  dsimp only at hiN hlk hsk hnk hall hlx RL ⊢
  have hu := True.intro
  refine hd_split (c := decide (i < N)) (fun hlt => ?_) (fun hlt => ?_)
  · simp only [decide_eq_true_eq] at hlt
    cases shk with
    | true =>
      repeat' (first | (refine is_cx ?_ (by rfl); first | (refine hd_cmA (Hi := [srcB _ _ _ _ _]) (s := by exact src_num1 _ (by exact zMgU2) (by omega)) (k := ?_); rintro _ h1 _ hle1 ⟨x1, rfl, hx0, hx1, p1, n1, c1, rem1, sh1, rfl, hs1, hn1, R1⟩)) | refine wMgU2 ?_ | refine wMgU3 ?_ | (refine is_cd ?_; first | refine hd_condA (fun _ => ?_) (fun _ => ?_)) | refine wMgU1 ?_ | refine wkB (fun _ => ?_) | refine wkC (fun _ _ => ?_) | exact tsA | (refine ts_step rfl (fun HF h1 hle => ?_)))
      refine hd_pubN (r := rID) (hb := h) hlk css xs (by exact aP) rfl hall hlx (by omega) (fun h5 hle5 hsl => ?_)
      (apply hd_resS (Hi := [srcB b pk nk ck true]); (focus (first | exact .inl rfl | exact .inr rfl)); rfl; exact aR; exact aS)
      exact ⟨xs, _, _, _, rfl, hsl, by omega, pk, nk, ck, remk, true, rfl, hsk.mono hle5, hnk, R0.bind (by rw [Int.toNat_natCast]; exact RL.short hiN xs)⟩
    | false =>
      repeat' (first | (refine is_cx ?_ (by rfl); first | (refine hd_cmA (Hi := [srcB _ _ _ _ _]) (s := by exact take_ID _ hsk (by omega)) (k := ?_); rintro _ h1 _ hle1 ⟨x1, rfl, hr1, p1, n1, c1, rem1, sh1, rfl, hs1, hn1, R1⟩) | (apply hd_append; exact aX; exact aX; exact aP; (focus exact Src.row (by exact aH)); rfl; rfl; (focus omega); (focus omega); rfl; (refine fun p3 c3 => ?_)) | refine hd_makeA (fun _ => ?_) | refine hd_litA (fun _ => ?_) | refine hd_appendA (fun _ _ => ?_)) | refine wMgU2 ?_ | refine wMgU3 ?_ | (refine is_cd ?_; first | refine hd_condA (fun _ => ?_) (fun _ => ?_)) | refine wMgU4 ?_ | refine wkB (fun _ => ?_) | refine wkC (fun _ _ => ?_) | exact tsA | (refine ts_step rfl (fun HF h1 hle => ?_)))
      rw [show (N : Int) - i - 1 = (N : Int) - ((i + 1 : Nat) : Int) by omega]
      exact hd_again (i + 1, h1, (p1, n1, c1, rem1, sh1), (p3, c3, css ++ [[.int .u8 x1.1, .int .u16 x1.2.1, .int .u32 x1.2.2]], xs ++ [x1])) ⟨by dsimp only; omega, PH.le_trans hlk hle1, hs1, by dsimp only; omega, All2.snoc (hall.mono fun _ _ => rID.mono (PH.new_mono hle1)) (rID_mk hr1), by dsimp only; simp [hlx], RL.snoc R1⟩ (by dsimp only; omega) (by exact aU) (fun w hw => by simp only [List.flatten_append, List.flatten_cons, List.flatten_nil, List.append_nil]; exact inv_only (by exact aS) hw)
  · simp only [decide_eq_false_iff_not] at hlt
    have hu : decide (0 < (N : Int) - i) = false := decide_eq_false (by omega)
    have hiN2 : N = i := by omega
    subst hiN2
    repeat' (first | (refine is_cx ?_ (by rfl); first | (refine hd_cmA (Hi := [srcB _ _ _ _ _]) (s := by exact take_ID _ hsk (by omega)) (k := ?_); rintro _ h1 _ hle1 ⟨x1, rfl, hr1, p1, n1, c1, rem1, sh1, rfl, hs1, hn1, R1⟩) | (apply hd_append; exact aX; exact aX; exact aP; (focus exact Src.row (by exact aH)); rfl; rfl; (focus omega); (focus omega); rfl; (refine fun p3 c3 => ?_)) | refine hd_makeA (fun _ => ?_) | refine hd_litA (fun _ => ?_) | refine hd_appendA (fun _ _ => ?_)) | refine wMgU2 ?_ | refine wMgU3 ?_ | (refine is_cd ?_; first | refine hd_condA (fun _ => ?_) (fun _ => ?_)) | refine wMgU4 ?_ | refine wkB (fun _ => ?_) | refine wkC (fun _ _ => ?_) | exact tsA | (refine ts_step rfl (fun HF h1 hle => ?_)))
    refine hd_pubN (r := rID) (hb := h) hlk css xs (by exact aP) rfl hall hlx (by omega) (fun h5 hle5 hsl => ?_)
    (apply hd_resS (Hi := [srcB b pk nk ck shk]); (focus (first | exact .inl rfl | exact .inr rfl)); rfl; exact aR; exact aS)
    exact ⟨xs, _, _, _, rfl, hsl, by omega, pk, nk, ck, remk, shk, rfl, hsk.mono hle5, hnk, R0.bind (by rw [Int.toNat_natCast]; exact RL)⟩
theorem takeAll_Mem {b : Nat} {p : Option Addr} {n c : Nat} {rem : List Int} {sh : Bool} (h : PH) (hs : Bs h p n c rem) (hn : n ≤ 60000) : SpecM Tryz.prog 80 #[.pointer (some ⟨b, 0, none⟩), .func (.func 81) #[] #[]] h [srcB b p n c sh] fun v h' Ho => ∃ (xs : List Mk) (p' : Option Addr) (n' c' : Nat), v = .slice p' n' c' ∧ SlR rMm (PH.new h h') p' n' c' xs ∧ xs.length ≤ 255 ∧ TkP h' b n (so sh rem) (pal pMem) xs Ho := by
  refine spec_enter (args := [_, _]) Tryz.func80 rfl Tryz.ntmps80 rfl (fun w l => ?_)
  repeat' (first | (refine is_cx ?_ (by rfl); first | (refine hd_cmA (Hi := [srcB _ _ _ _ _]) (s := by exact src_num1 _ (by exact zMgU2) (by omega)) (k := ?_); rintro _ h1 _ hle1 ⟨x1, rfl, hx0, hx1, p1, n1, c1, rem1, sh1, rfl, hs1, hn1, R1⟩)) | refine wMgU2 ?_ | refine wMgU3 ?_ | (refine is_cd ?_; first | refine hd_condA (fun _ => ?_) (fun _ => ?_)) | refine wMgU1 ?_ | refine wkB (fun _ => ?_) | refine wkC (fun _ _ => ?_) | exact tsA | (refine ts_step rfl (fun HF h1 hle => ?_)))
  obtain ⟨N, rfl⟩ : ∃ N : Nat, x1 = (N : Int) := ⟨x1.toNat, by omega⟩
  have hN : N ≤ 255 := by omega
  have R0 := R1
  refine hd_nilrow 46 3 ?_
  refine hd_loopS (ι := Nat × PH × (Option Addr × Nat × Nat × List Int × Bool) × (Option Addr × Nat × List (List Value) × List Mk)) (fun i => i.1 ≤ N ∧ h.le i.2.1 ∧ Bs i.2.1 i.2.2.1.1 i.2.2.1.2.1 i.2.2.1.2.2.1 i.2.2.1.2.2.2.1 ∧ i.2.2.1.2.1 ≤ n ∧ All2 (rMm.ok (PH.new h i.2.1)) i.2.2.2.2.2.1 i.2.2.2.2.2.2 ∧ i.2.2.2.2.2.2.length = i.1 ∧ Rds (so sh1 rem1) (pli pMem i.1) (so i.2.2.1.2.2.2.2 i.2.2.1.2.2.2.1) i.2.2.2.2.2.2)
    (fun i => [(0, [], .pointer (some ⟨b, 0, none⟩)), (1, [], .func (.func 81) #[] #[]), (5, [], .slice i.2.2.2.1 i.1 i.2.2.2.2.1), (6, [], .int .u64 ((N : Int) - i.1))]) (fun i => [row i.2.2.2.1 i.1 i.2.2.2.2.1 46 3 i.2.2.2.2.2.1.flatten, srcB b i.2.2.1.1 i.2.2.1.2.1 i.2.2.1.2.2.1 i.2.2.1.2.2.2.2]) (fun i => i.2.1) (fun i => N - i.1) (0, h1, (p1, n1, c1, rem1, sh1), (none, 0, [], [])) ⟨by simp, hle1, hs1, hn1, trivial, rfl, Rds.pu _ _⟩ (by simp only [Int.natCast_zero, Int.sub_zero]; exact aU) (fun w hw => inv_only (by exact aS) hw) (fun i hi => ?_)
  obtain ⟨i, hk, ⟨pk, nk, ck, remk, shk⟩, pr, cr, css, xs⟩ := i
  obtain ⟨hiN, hlk, hsk, hnk, hall, hlx, RL⟩ := hi
  dsimp only at hiN hlk hsk hnk hall hlx RL ⊢
  have hu := True.intro
  refine hd_split (c := decide (i < N)) (fun hlt => ?_) (fun hlt => ?_)
  · simp only [decide_eq_true_eq] at hlt
    cases shk with
    | true =>
      repeat' (first | (refine is_cx ?_ (by rfl); first | (refine hd_cmA (Hi := [srcB _ _ _ _ _]) (s := by exact src_num1 _ (by exact zMgU2) (by omega)) (k := ?_); rintro _ h1 _ hle1 ⟨x1, rfl, hx0, hx1, p1, n1, c1, rem1, sh1, rfl, hs1, hn1, R1⟩)) | refine wMgU2 ?_ | refine wMgU3 ?_ | (refine is_cd ?_; first | refine hd_condA (fun _ => ?_) (fun _ => ?_)) | refine wMgU1 ?_ | refine wkB (fun _ => ?_) | refine wkC (fun _ _ => ?_) | exact tsA | (refine ts_step rfl (fun HF h1 hle => ?_)))
      refine hd_pubN (r := rMm) (hb := h) hlk css xs (by exact aP) rfl hall hlx (by omega) (fun h5 hle5 hsl => ?_)
      (apply hd_resS (Hi := [srcB b pk nk ck true]); (focus (first | exact .inl rfl | exact .inr rfl)); rfl; exact aR; exact aS)
      exact ⟨xs, _, _, _, rfl, hsl, by omega, pk, nk, ck, remk, true, rfl, hsk.mono hle5, hnk, R0.bind (by rw [Int.toNat_natCast]; exact RL.short hiN xs)⟩
    | false =>
      repeat' (first | (refine is_cx ?_ (by rfl); first | (refine hd_cmA (Hi := [srcB _ _ _ _ _]) (s := by exact take_Mem _ hsk (by omega)) (k := ?_); rintro _ h1 _ hle1 ⟨x1, rfl, hr1, p1, n1, c1, rem1, sh1, rfl, hs1, hn1, R1⟩) | (apply hd_append; exact aX; exact aX; exact aP; (focus exact Src.row (by exact aH)); rfl; rfl; (focus omega); (focus omega); rfl; (refine fun p3 c3 => ?_)) | refine hd_makeA (fun _ => ?_) | refine hd_litA (fun _ => ?_) | refine hd_appendA (fun _ _ => ?_)) | refine wMgU2 ?_ | refine wMgU3 ?_ | (refine is_cd ?_; first | refine hd_condA (fun _ => ?_) (fun _ => ?_)) | refine wMgU4 ?_ | refine wkB (fun _ => ?_) | refine wkC (fun _ _ => ?_) | exact tsA | (refine ts_step rfl (fun HF h1 hle => ?_)))
      rw [show (N : Int) - i - 1 = (N : Int) - ((i + 1 : Nat) : Int) by omega]
      exact hd_again (i + 1, h1, (p1, n1, c1, rem1, sh1), (p3, c3, css ++ [[.int .u16 x1.1, .int .u8 x1.2.1, .int .u8 x1.2.2]], xs ++ [x1])) ⟨by dsimp only; omega, PH.le_trans hlk hle1, hs1, by dsimp only; omega, All2.snoc (hall.mono fun _ _ => rMm.mono (PH.new_mono hle1)) (rMm_mk hr1), by dsimp only; simp [hlx], RL.snoc R1⟩ (by dsimp only; omega) (by exact aU) (fun w hw => by simp only [List.flatten_append, List.flatten_cons, List.flatten_nil, List.append_nil]; exact inv_only (by exact aS) hw)
  · simp only [decide_eq_false_iff_not] at hlt
    have hu : decide (0 < (N : Int) - i) = false := decide_eq_false (by omega)
    have hiN2 : N = i := by omega
    subst hiN2
    repeat' (first | (refine is_cx ?_ (by rfl); first | (refine hd_cmA (Hi := [srcB _ _ _ _ _]) (s := by exact take_Mem _ hsk (by omega)) (k := ?_); rintro _ h1 _ hle1 ⟨x1, rfl, hr1, p1, n1, c1, rem1, sh1, rfl, hs1, hn1, R1⟩) | (apply hd_append; exact aX; exact aX; exact aP; (focus exact Src.row (by exact aH)); rfl; rfl; (focus omega); (focus omega); rfl; (refine fun p3 c3 => ?_)) | refine hd_makeA (fun _ => ?_) | refine hd_litA (fun _ => ?_) | refine hd_appendA (fun _ _ => ?_)) | refine wMgU2 ?_ | refine wMgU3 ?_ | (refine is_cd ?_; first | refine hd_condA (fun _ => ?_) (fun _ => ?_)) | refine wMgU4 ?_ | refine wkB (fun _ => ?_) | refine wkC (fun _ _ => ?_) | exact tsA | (refine ts_step rfl (fun HF h1 hle => ?_)))
    refine hd_pubN (r := rMm) (hb := h) hlk css xs (by exact aP) rfl hall hlx (by omega) (fun h5 hle5 hsl => ?_)
    (apply hd_resS (Hi := [srcB b pk nk ck shk]); (focus (first | exact .inl rfl | exact .inr rfl)); rfl; exact aR; exact aS)
    exact ⟨xs, _, _, _, rfl, hsl, by omega, pk, nk, ck, remk, shk, rfl, hsk.mono hle5, hnk, R0.bind (by rw [Int.toNat_natCast]; exact RL)⟩
theorem takeAll_Span {b : Nat} {p : Option Addr} {n c : Nat} {rem : List Int} {sh : Bool} (h : PH) (hs : Bs h p n c rem) (hn : n ≤ 60000) : SpecM Tryz.prog 138 #[.pointer (some ⟨b, 0, none⟩), .func (.func 139) #[] #[]] h [srcB b p n c sh] fun v h' Ho => ∃ (xs : List Sp) (p' : Option Addr) (n' c' : Nat), v = .slice p' n' c' ∧ SlR rSpan (PH.new h h') p' n' c' xs ∧ xs.length ≤ 255 ∧ TkP h' b n (so sh rem) (pal pSpan) xs Ho := by
  refine spec_enter (args := [_, _]) Tryz.func138 rfl Tryz.ntmps138 rfl (fun w l => ?_)
  repeat' (first | (refine is_cx ?_ (by rfl); first | (refine hd_cmA (Hi := [srcB _ _ _ _ _]) (s := by exact src_num1 _ (by exact zMgU2) (by omega)) (k := ?_); rintro _ h1 _ hle1 ⟨x1, rfl, hx0, hx1, p1, n1, c1, rem1, sh1, rfl, hs1, hn1, R1⟩)) | refine wMgU2 ?_ | refine wMgU3 ?_ | (refine is_cd ?_; first | refine hd_condA (fun _ => ?_) (fun _ => ?_)) | refine wMgU1 ?_ | refine wkB (fun _ => ?_) | refine wkC (fun _ _ => ?_) | exact tsA | (refine ts_step rfl (fun HF h1 hle => ?_)))
  obtain ⟨N, rfl⟩ : ∃ N : Nat, x1 = (N : Int) := ⟨x1.toNat, by omega⟩
  have hN : N ≤ 255 := by omega
  have R0 := R1
  refine hd_nilrow 96 2 ?_
  refine hd_loopS (ι := Nat × PH × (Option Addr × Nat × Nat × List Int × Bool) × (Option Addr × Nat × List (List Value) × List Sp)) (fun i => i.1 ≤ N ∧ h.le i.2.1 ∧ Bs i.2.1 i.2.2.1.1 i.2.2.1.2.1 i.2.2.1.2.2.1 i.2.2.1.2.2.2.1 ∧ i.2.2.1.2.1 ≤ n ∧ All2 (rSpan.ok (PH.new h i.2.1)) i.2.2.2.2.2.1 i.2.2.2.2.2.2 ∧ i.2.2.2.2.2.2.length = i.1 ∧ Rds (so sh1 rem1) (pli pSpan i.1) (so i.2.2.1.2.2.2.2 i.2.2.1.2.2.2.1) i.2.2.2.2.2.2)
    (fun i => [(0, [], .pointer (some ⟨b, 0, none⟩)), (1, [], .func (.func 139) #[] #[]), (5, [], .slice i.2.2.2.1 i.1 i.2.2.2.2.1), (6, [], .int .u64 ((N : Int) - i.1))]) (fun i => [row i.2.2.2.1 i.1 i.2.2.2.2.1 96 2 i.2.2.2.2.2.1.flatten, srcB b i.2.2.1.1 i.2.2.1.2.1 i.2.2.1.2.2.1 i.2.2.1.2.2.2.2]) (fun i => i.2.1) (fun i => N - i.1) (0, h1, (p1, n1, c1, rem1, sh1), (none, 0, [], [])) ⟨by simp, hle1, hs1, hn1, trivial, rfl, Rds.pu _ _⟩ (by simp only [Int.natCast_zero, Int.sub_zero]; exact aU) (fun w hw => inv_only (by exact aS) hw) (fun i hi => ?_)
  obtain ⟨i, hk, ⟨pk, nk, ck, remk, shk⟩, pr, cr, css, xs⟩ := i
  obtain ⟨hiN, hlk, hsk, hnk, hall, hlx, RL⟩ := hi
  dsimp only at hiN hlk hsk hnk hall hlx RL ⊢
  have hu := True.intro
  refine hd_split (c := decide (i < N)) (fun hlt => ?_) (fun hlt => ?_)
  · simp only [decide_eq_true_eq] at hlt
    cases shk with
    | true =>
      repeat' (first | (refine is_cx ?_ (by rfl); first | (refine hd_cmA (Hi := [srcB _ _ _ _ _]) (s := by exact src_num1 _ (by exact zMgU2) (by omega)) (k := ?_); rintro _ h1 _ hle1 ⟨x1, rfl, hx0, hx1, p1, n1, c1, rem1, sh1, rfl, hs1, hn1, R1⟩)) | refine wMgU2 ?_ | refine wMgU3 ?_ | (refine is_cd ?_; first | refine hd_condA (fun _ => ?_) (fun _ => ?_)) | refine wMgU1 ?_ | refine wkB (fun _ => ?_) | refine wkC (fun _ _ => ?_) | exact tsA | (refine ts_step rfl (fun HF h1 hle => ?_)))
      refine hd_pubN (r := rSpan) (hb := h) hlk css xs (by exact aP) rfl hall hlx (by omega) (fun h5 hle5 hsl => ?_)
      (apply hd_resS (Hi := [srcB b pk nk ck true]); (focus (first | exact .inl rfl | exact .inr rfl)); rfl; exact aR; exact aS)
      exact ⟨xs, _, _, _, rfl, hsl, by omega, pk, nk, ck, remk, true, rfl, hsk.mono hle5, hnk, R0.bind (by rw [Int.toNat_natCast]; exact RL.short hiN xs)⟩
    | false =>
      repeat' (first | (refine is_cx ?_ (by rfl); first | (refine hd_cmA (Hi := [srcB _ _ _ _ _]) (s := by exact take_Span _ hsk (by omega)) (k := ?_); rintro _ h1 _ hle1 ⟨x1, rfl, hr1, p1, n1, c1, rem1, sh1, rfl, hs1, hn1, R1⟩) | (apply hd_append; exact aX; exact aX; exact aP; (focus exact Src.row (by exact aH)); rfl; rfl; (focus omega); (focus omega); rfl; (refine fun p3 c3 => ?_)) | refine hd_makeA (fun _ => ?_) | refine hd_litA (fun _ => ?_) | refine hd_appendA (fun _ _ => ?_)) | refine wMgU2 ?_ | refine wMgU3 ?_ | (refine is_cd ?_; first | refine hd_condA (fun _ => ?_) (fun _ => ?_)) | refine wMgU4 ?_ | refine wkB (fun _ => ?_) | refine wkC (fun _ _ => ?_) | exact tsA | (refine ts_step rfl (fun HF h1 hle => ?_)))
      rw [show (N : Int) - i - 1 = (N : Int) - ((i + 1 : Nat) : Int) by omega]
      exact hd_again (i + 1, h1, (p1, n1, c1, rem1, sh1), (p3, c3, css ++ [[.int .i32 x1.1, .int .i32 x1.2]], xs ++ [x1])) ⟨by dsimp only; omega, PH.le_trans hlk hle1, hs1, by dsimp only; omega, All2.snoc (hall.mono fun _ _ => rSpan.mono (PH.new_mono hle1)) (rSpan_mk hr1.1 hr1.2), by dsimp only; simp [hlx], RL.snoc R1⟩ (by dsimp only; omega) (by exact aU) (fun w hw => by simp only [List.flatten_append, List.flatten_cons, List.flatten_nil, List.append_nil]; exact inv_only (by exact aS) hw)
  · simp only [decide_eq_false_iff_not] at hlt
    have hu : decide (0 < (N : Int) - i) = false := decide_eq_false (by omega)
    have hiN2 : N = i := by omega
    subst hiN2
    repeat' (first | (refine is_cx ?_ (by rfl); first | (refine hd_cmA (Hi := [srcB _ _ _ _ _]) (s := by exact take_Span _ hsk (by omega)) (k := ?_); rintro _ h1 _ hle1 ⟨x1, rfl, hr1, p1, n1, c1, rem1, sh1, rfl, hs1, hn1, R1⟩) | (apply hd_append; exact aX; exact aX; exact aP; (focus exact Src.row (by exact aH)); rfl; rfl; (focus omega); (focus omega); rfl; (refine fun p3 c3 => ?_)) | refine hd_makeA (fun _ => ?_) | refine hd_litA (fun _ => ?_) | refine hd_appendA (fun _ _ => ?_)) | refine wMgU2 ?_ | refine wMgU3 ?_ | (refine is_cd ?_; first | refine hd_condA (fun _ => ?_) (fun _ => ?_)) | refine wMgU4 ?_ | refine wkB (fun _ => ?_) | refine wkC (fun _ _ => ?_) | exact tsA | (refine ts_step rfl (fun HF h1 hle => ?_)))
    refine hd_pubN (r := rSpan) (hb := h) hlk css xs (by exact aP) rfl hall hlx (by omega) (fun h5 hle5 hsl => ?_)
    (apply hd_resS (Hi := [srcB b pk nk ck shk]); (focus (first | exact .inl rfl | exact .inr rfl)); rfl; exact aR; exact aS)
    exact ⟨xs, _, _, _, rfl, hsl, by omega, pk, nk, ck, remk, shk, rfl, hsk.mono hle5, hnk, R0.bind (by rw [Int.toNat_natCast]; exact RL)⟩
theorem takeAll_Val {b : Nat} {p : Option Addr} {n c : Nat} {rem : List Int} {sh : Bool} (h : PH) (hs : Bs h p n c rem) (hn : n ≤ 60000) : SpecM Tryz.prog 148 #[.pointer (some ⟨b, 0, none⟩), .func (.func 149) #[] #[]] h [srcB b p n c sh] fun v h' Ho => ∃ (xs : List Int) (p' : Option Addr) (n' c' : Nat), v = .slice p' n' c' ∧ SlR (rInt .i32) (PH.new h h') p' n' c' xs ∧ xs.length ≤ 255 ∧ TkP h' b n (so sh rem) (pal pVal) xs Ho := by
  refine spec_enter (args := [_, _]) Tryz.func148 rfl Tryz.ntmps148 rfl (fun w l => ?_)
  repeat' (first | (refine is_cx ?_ (by rfl); first | (refine hd_cmA (Hi := [srcB _ _ _ _ _]) (s := by exact src_num1 _ (by exact zMgU2) (by omega)) (k := ?_); rintro _ h1 _ hle1 ⟨x1, rfl, hx0, hx1, p1, n1, c1, rem1, sh1, rfl, hs1, hn1, R1⟩)) | refine wMgU2 ?_ | refine wMgU3 ?_ | (refine is_cd ?_; first | refine hd_condA (fun _ => ?_) (fun _ => ?_)) | refine wMgU1 ?_ | refine wkB (fun _ => ?_) | refine wkC (fun _ _ => ?_) | exact tsA | (refine ts_step rfl (fun HF h1 hle => ?_)))
  obtain ⟨N, rfl⟩ : ∃ N : Nat, x1 = (N : Int) := ⟨x1.toNat, by omega⟩
  have hN : N ≤ 255 := by omega
  have R0 := R1
  refine hd_nilrow 21 1 ?_
  refine hd_loopS (ι := Nat × PH × (Option Addr × Nat × Nat × List Int × Bool) × (Option Addr × Nat × List (List Value) × List Int)) (fun i => i.1 ≤ N ∧ h.le i.2.1 ∧ Bs i.2.1 i.2.2.1.1 i.2.2.1.2.1 i.2.2.1.2.2.1 i.2.2.1.2.2.2.1 ∧ i.2.2.1.2.1 ≤ n ∧ All2 ((rInt .i32).ok (PH.new h i.2.1)) i.2.2.2.2.2.1 i.2.2.2.2.2.2 ∧ i.2.2.2.2.2.2.length = i.1 ∧ Rds (so sh1 rem1) (pli pVal i.1) (so i.2.2.1.2.2.2.2 i.2.2.1.2.2.2.1) i.2.2.2.2.2.2)
    (fun i => [(0, [], .pointer (some ⟨b, 0, none⟩)), (1, [], .func (.func 149) #[] #[]), (5, [], .slice i.2.2.2.1 i.1 i.2.2.2.2.1), (6, [], .int .u64 ((N : Int) - i.1))]) (fun i => [row i.2.2.2.1 i.1 i.2.2.2.2.1 21 1 i.2.2.2.2.2.1.flatten, srcB b i.2.2.1.1 i.2.2.1.2.1 i.2.2.1.2.2.1 i.2.2.1.2.2.2.2]) (fun i => i.2.1) (fun i => N - i.1) (0, h1, (p1, n1, c1, rem1, sh1), (none, 0, [], [])) ⟨by simp, hle1, hs1, hn1, trivial, rfl, Rds.pu _ _⟩ (by simp only [Int.natCast_zero, Int.sub_zero]; exact aU) (fun w hw => inv_only (by exact aS) hw) (fun i hi => ?_)
  obtain ⟨i, hk, ⟨pk, nk, ck, remk, shk⟩, pr, cr, css, xs⟩ := i
  obtain ⟨hiN, hlk, hsk, hnk, hall, hlx, RL⟩ := hi
  dsimp only at hiN hlk hsk hnk hall hlx RL ⊢
  have hu := True.intro
  refine hd_split (c := decide (i < N)) (fun hlt => ?_) (fun hlt => ?_)
  · simp only [decide_eq_true_eq] at hlt
    cases shk with
    | true =>
      repeat' (first | (refine is_cx ?_ (by rfl); first | (refine hd_cmA (Hi := [srcB _ _ _ _ _]) (s := by exact src_num1 _ (by exact zMgU2) (by omega)) (k := ?_); rintro _ h1 _ hle1 ⟨x1, rfl, hx0, hx1, p1, n1, c1, rem1, sh1, rfl, hs1, hn1, R1⟩)) | refine wMgU2 ?_ | refine wMgU3 ?_ | (refine is_cd ?_; first | refine hd_condA (fun _ => ?_) (fun _ => ?_)) | refine wMgU1 ?_ | refine wkB (fun _ => ?_) | refine wkC (fun _ _ => ?_) | exact tsA | (refine ts_step rfl (fun HF h1 hle => ?_)))
      refine hd_pubN (r := (rInt .i32)) (hb := h) hlk css xs (by exact aP) rfl hall hlx (by omega) (fun h5 hle5 hsl => ?_)
      (apply hd_resS (Hi := [srcB b pk nk ck true]); (focus (first | exact .inl rfl | exact .inr rfl)); rfl; exact aR; exact aS)
      exact ⟨xs, _, _, _, rfl, hsl, by omega, pk, nk, ck, remk, true, rfl, hsk.mono hle5, hnk, R0.bind (by rw [Int.toNat_natCast]; exact RL.short hiN xs)⟩
    | false =>
      repeat' (first | (refine is_cx ?_ (by rfl); first | (refine hd_cmA (Hi := [srcB _ _ _ _ _]) (s := by exact take_Val _ hsk (by omega)) (k := ?_); rintro _ h1 _ hle1 ⟨x1, rfl, hr1, p1, n1, c1, rem1, sh1, rfl, hs1, hn1, R1⟩) | (apply hd_append; exact aX; exact aX; exact aP; (focus exact Src.row (by exact aH)); rfl; rfl; (focus omega); (focus omega); rfl; (refine fun p3 c3 => ?_)) | refine hd_makeA (fun _ => ?_) | refine hd_litA (fun _ => ?_) | refine hd_appendA (fun _ _ => ?_)) | refine wMgU2 ?_ | refine wMgU3 ?_ | (refine is_cd ?_; first | refine hd_condA (fun _ => ?_) (fun _ => ?_)) | refine wMgU4 ?_ | refine wkB (fun _ => ?_) | refine wkC (fun _ _ => ?_) | exact tsA | (refine ts_step rfl (fun HF h1 hle => ?_)))
      rw [show (N : Int) - i - 1 = (N : Int) - ((i + 1 : Nat) : Int) by omega]
      exact hd_again (i + 1, h1, (p1, n1, c1, rem1, sh1), (p3, c3, css ++ [[.int .i32 x1]], xs ++ [x1])) ⟨by dsimp only; omega, PH.le_trans hlk hle1, hs1, by dsimp only; omega, All2.snoc (hall.mono fun _ _ => (rInt .i32).mono (PH.new_mono hle1)) (⟨rfl, hr1⟩), by dsimp only; simp [hlx], RL.snoc R1⟩ (by dsimp only; omega) (by exact aU) (fun w hw => by simp only [List.flatten_append, List.flatten_cons, List.flatten_nil, List.append_nil]; exact inv_only (by exact aS) hw)
  · simp only [decide_eq_false_iff_not] at hlt
    have hu : decide (0 < (N : Int) - i) = false := decide_eq_false (by omega)
    have hiN2 : N = i := by omega
    subst hiN2
    repeat' (first | (refine is_cx ?_ (by rfl); first | (refine hd_cmA (Hi := [srcB _ _ _ _ _]) (s := by exact take_Val _ hsk (by omega)) (k := ?_); rintro _ h1 _ hle1 ⟨x1, rfl, hr1, p1, n1, c1, rem1, sh1, rfl, hs1, hn1, R1⟩) | (apply hd_append; exact aX; exact aX; exact aP; (focus exact Src.row (by exact aH)); rfl; rfl; (focus omega); (focus omega); rfl; (refine fun p3 c3 => ?_)) | refine hd_makeA (fun _ => ?_) | refine hd_litA (fun _ => ?_) | refine hd_appendA (fun _ _ => ?_)) | refine wMgU2 ?_ | refine wMgU3 ?_ | (refine is_cd ?_; first | refine hd_condA (fun _ => ?_) (fun _ => ?_)) | refine wMgU4 ?_ | refine wkB (fun _ => ?_) | refine wkC (fun _ _ => ?_) | exact tsA | (refine ts_step rfl (fun HF h1 hle => ?_)))
    refine hd_pubN (r := (rInt .i32)) (hb := h) hlk css xs (by exact aP) rfl hall hlx (by omega) (fun h5 hle5 hsl => ?_)
    (apply hd_resS (Hi := [srcB b pk nk ck shk]); (focus (first | exact .inl rfl | exact .inr rfl)); rfl; exact aR; exact aS)
    exact ⟨xs, _, _, _, rfl, hsl, by omega, pk, nk, ck, remk, shk, rfl, hsk.mono hle5, hnk, R0.bind (by rw [Int.toNat_natCast]; exact RL)⟩
theorem zMgU5 {A : Prop} (h : A := by ((first | (apply OK.plain; rfl; apply OD.of) | (apply OKp.plain; rfl)); (first | (apply od_nil; exact aX) | (apply od_cv; exact aX; (focus (simp only [inR]; omega)))))) : A := h
theorem wMgU5 {A B : Prop} (k : B) (h : Kx B → A := by intro k; (first | (refine is_pu ?_ (by rfl); first | (apply hd_gon; rfl; rfl; (focus (constructor; exact pvMgU1; trivial))) | (apply hd_goff; rfl; rfl; (focus exact fun hs => absurd hs.1 (by exact nvMgU1)); rfl) | (apply hd_gundef; rfl; rfl; rfl) | refine hd_opAB ?_ | ((first | apply hd_ok | apply ch_ok | (apply hd_pn_run; rfl; exact aM)); (focus exact zMgU5); rfl; rfl) | ((first | apply hd_ok | apply ch_ok | (apply hd_pn_run; rfl; exact aM)); (focus exact zMgU1); rfl; rfl)) | (refine is_pn ?_; first | refine hd_pn_nil ?_ | refine hd_pnAB ?_ | ((first | apply hd_ok | apply ch_ok | (apply hd_pn_run; rfl; exact aM)); (focus exact zMgU5); rfl; rfl) | ((first | apply hd_ok | apply ch_ok | (apply hd_pn_run; rfl; exact aM)); (focus exact zMgU1); rfl; rfl) | (refine hd_pn_op rfl ?_)) | (refine is_co ?_; first | (apply hd_gon; rfl; rfl; (focus (constructor; exact pvMgU1; trivial))) | (apply hd_goff; rfl; rfl; (focus exact fun hs => absurd hs.1 (by exact nvMgU1)); rfl) | (apply hd_gundef; rfl; rfl; rfl) | ((first | apply hd_ok | apply ch_ok); (focus exact zMgU3); rfl; rfl) | refine hd_storeA ?_ | refine hd_copyA ?_) | (refine is_ni ?_; first | (refine is_on ?_; first | refine pn_barA ?_ | refine pn_goA ?_ | refine pt_goA ?_ | refine ts_onA ?_) | refine hd_nil ?_) | refine wkA ?_ | (refine is_ch ?_; refine ch_opAB ?_) | ((first | apply hd_ok | apply ch_ok); (focus exact zMgU3); rfl; rfl) | ((first | apply hd_ok | apply ch_ok | (apply hd_pn_run; rfl; exact aM)); (focus exact zMgU5); rfl; rfl) | ((first | apply hd_ok | apply ch_ok | (apply hd_pn_run; rfl; exact aM)); (focus exact zMgU1); rfl; rfl)); exact k.go) : A := h ⟨k⟩
theorem take_Desc {b : Nat} {p : Option Addr} {n c : Nat} {rem : List Int} {sh : Bool} (h : PH) (hs : Bs h p n c rem) (hn : n ≤ 60000) : SpecM Tryz.prog 68 #[.pointer (some ⟨b, 0, none⟩)] h [srcB b p n c sh] fun v h' Ho => ∃ (x : DsT) (q3 : Option Addr) (m3 d3 : Nat), v = .agg #[.int .u8 x.1, .int .u16 x.2.1, .int .u8 x.2.2.1, .slice q3 m3 d3] ∧ SlS (PH.new h h') q3 m3 d3 x.2.2.2 ∧ (inR .u8 x.1 ∧ inR .u16 x.2.1 ∧ inR .u8 x.2.2.1) ∧ TkP h' b n (so sh rem) pDesc x Ho := by
  refine spec_enter (args := [_]) Tryz.func68 rfl Tryz.ntmps68 rfl (fun w l => ?_)
  repeat' (first | (refine is_cx ?_ (by rfl); first | (refine hd_cmA (Hi := [srcB _ _ _ _ _]) (s := by (first | exact src_num1 _ (by exact zMgU2) (by omega) | exact src_num2 _ (by exact zMgU2) (by omega))) (k := ?_); rintro _ h1 _ hle1 ⟨x1, rfl, hx0, hx1, p1, n1, c1, rem1, sh1, rfl, hs1, hn1, R1⟩) | (refine hd_cmA (Hi := [srcB _ _ _ _ _]) (s := by exact takeAll_Span _ (by exact zMgU2) (by omega)) (k := ?_); rintro _ h1 _ hle1 ⟨fs, q3, m3, d3, rfl, hf3, hfl, p1, n1, c1, rem1, sh1, rfl, hs1, hn1, R1⟩)) | (refine is_cw ?_; first | refine hd_stop1 (id := 3) ?_) | refine wMgU2 ?_ | refine wMgU3 ?_ | (refine is_cd ?_; first | refine hd_condA (fun _ => ?_) (fun _ => ?_)) | refine wMgU5 ?_ | refine wkB (fun _ => ?_) | refine wkC (fun _ _ => ?_) | exact tsA | (refine ts_step rfl (fun HF h1 hle => ?_)))
  refine Stop.mk ?_
  have RA := R1
  have a0 := hx0
  have a1 := hx1
  have na := hn1
  have la := hle1
  repeat' (first | (refine is_cx ?_ (by rfl); first | (refine hd_cmA (Hi := [srcB _ _ _ _ _]) (s := by (first | exact src_num1 _ (by exact zMgU2) (by omega) | exact src_num2 _ (by exact zMgU2) (by omega))) (k := ?_); rintro _ h1 _ hle1 ⟨x1, rfl, hx0, hx1, p1, n1, c1, rem1, sh1, rfl, hs1, hn1, R1⟩) | (refine hd_cmA (Hi := [srcB _ _ _ _ _]) (s := by exact takeAll_Span _ (by exact zMgU2) (by omega)) (k := ?_); rintro _ h1 _ hle1 ⟨fs, q3, m3, d3, rfl, hf3, hfl, p1, n1, c1, rem1, sh1, rfl, hs1, hn1, R1⟩)) | (refine is_cw ?_; first | refine hd_stop1 (id := 4) ?_) | refine wMgU2 ?_ | refine wMgU3 ?_ | (refine is_cd ?_; first | refine hd_condA (fun _ => ?_) (fun _ => ?_)) | refine wMgU5 ?_ | refine wkB (fun _ => ?_) | refine wkC (fun _ _ => ?_) | exact tsA | (refine ts_step rfl (fun HF h1 hle => ?_)))
  refine Stop.mk ?_
  have RB := R1
  have b0 := hx0
  have b1 := hx1
  have nb := hn1
  have lb := hle1
  repeat' (first | (refine is_cx ?_ (by rfl); first | (refine hd_cmA (Hi := [srcB _ _ _ _ _]) (s := by (first | exact src_num1 _ (by exact zMgU2) (by omega) | exact src_num2 _ (by exact zMgU2) (by omega))) (k := ?_); rintro _ h1 _ hle1 ⟨x1, rfl, hx0, hx1, p1, n1, c1, rem1, sh1, rfl, hs1, hn1, R1⟩) | (refine hd_cmA (Hi := [srcB _ _ _ _ _]) (s := by exact takeAll_Span _ (by exact zMgU2) (by omega)) (k := ?_); rintro _ h1 _ hle1 ⟨fs, q3, m3, d3, rfl, hf3, hfl, p1, n1, c1, rem1, sh1, rfl, hs1, hn1, R1⟩)) | (refine is_cw ?_; first | refine hd_stop1 (id := 5) ?_) | refine wMgU2 ?_ | refine wMgU3 ?_ | (refine is_cd ?_; first | refine hd_condA (fun _ => ?_) (fun _ => ?_)) | refine wMgU5 ?_ | refine wkB (fun _ => ?_) | refine wkC (fun _ _ => ?_) | exact tsA | (refine ts_step rfl (fun HF h1 hle => ?_)))
  refine Stop.mk ?_
  have RC := R1
  have c0 := hx0
  have c1 := hx1
  have nc := hn1
  have lc := hle1
  repeat' (first | (refine is_cx ?_ (by rfl); first | (refine hd_cmA (Hi := [srcB _ _ _ _ _]) (s := by (first | exact src_num1 _ (by exact zMgU2) (by omega) | exact src_num2 _ (by exact zMgU2) (by omega))) (k := ?_); rintro _ h1 _ hle1 ⟨x1, rfl, hx0, hx1, p1, n1, c1, rem1, sh1, rfl, hs1, hn1, R1⟩) | (refine hd_cmA (Hi := [srcB _ _ _ _ _]) (s := by exact takeAll_Span _ (by exact zMgU2) (by omega)) (k := ?_); rintro _ h1 _ hle1 ⟨fs, q3, m3, d3, rfl, hf3, hfl, p1, n1, c1, rem1, sh1, rfl, hs1, hn1, R1⟩)) | refine wMgU2 ?_ | refine wMgU3 ?_ | (refine is_cd ?_; first | refine hd_condA (fun _ => ?_) (fun _ => ?_)) | refine wMgU5 ?_ | refine wkB (fun _ => ?_) | refine wkC (fun _ _ => ?_) | exact tsA | (refine ts_step rfl (fun HF h1 hle => ?_)))
  (apply hd_resS (Hi := [srcB b p1 n1 c1 sh1]); (focus (first | exact .inl rfl | exact .inr rfl)); rfl; exact aR; exact aS)
  exact ⟨(_, _, _, fs), _, _, _, rfl, hf3.mono (PH.new_back (PH.le_trans la (PH.le_trans lb lc))), ⟨by simp only [inR]; omega, by simp only [inR]; omega, by simp only [inR]; omega⟩, _, _, _, _, _, rfl, hs1, by omega, RA.bind (RB.bind (RC.bind (R1.bind (Rds.pu _ _))))⟩
theorem takeAll_Desc {b : Nat} {p : Option Addr} {n c : Nat} {rem : List Int} {sh : Bool} (h : PH) (hs : Bs h p n c rem) (hn : n ≤ 60000) : SpecM Tryz.prog 67 #[.pointer (some ⟨b, 0, none⟩), .func (.func 68) #[] #[]] h [srcB b p n c sh] fun v h' Ho => ∃ (xs : List DsT) (p' : Option Addr) (n' c' : Nat), v = .slice p' n' c' ∧ SlR rDs (PH.new h h') p' n' c' xs ∧ xs.length ≤ 255 ∧ TkP h' b n (so sh rem) (pal pDesc) xs Ho := by
  refine spec_enter (args := [_, _]) Tryz.func67 rfl Tryz.ntmps67 rfl (fun w l => ?_)
  repeat' (first | (refine is_cx ?_ (by rfl); first | (refine hd_cmA (Hi := [srcB _ _ _ _ _]) (s := by exact src_num1 _ (by exact zMgU2) (by omega)) (k := ?_); rintro _ h1 _ hle1 ⟨x1, rfl, hx0, hx1, p1, n1, c1, rem1, sh1, rfl, hs1, hn1, R1⟩)) | refine wMgU2 ?_ | refine wMgU3 ?_ | (refine is_cd ?_; first | refine hd_condA (fun _ => ?_) (fun _ => ?_)) | refine wMgU1 ?_ | refine wkB (fun _ => ?_) | refine wkC (fun _ _ => ?_) | exact tsA | (refine ts_step rfl (fun HF h1 hle => ?_)))
  obtain ⟨N, rfl⟩ : ∃ N : Nat, x1 = (N : Int) := ⟨x1.toNat, by omega⟩
  have hN : N ≤ 255 := by omega
  have R0 := R1
  refine hd_nilrow 44 4 ?_
  refine hd_loopS (ι := Nat × PH × (Option Addr × Nat × Nat × List Int × Bool) × (Option Addr × Nat × List (List Value) × List DsT)) (fun i => i.1 ≤ N ∧ h.le i.2.1 ∧ Bs i.2.1 i.2.2.1.1 i.2.2.1.2.1 i.2.2.1.2.2.1 i.2.2.1.2.2.2.1 ∧ i.2.2.1.2.1 ≤ n ∧ All2 (rDs.ok (PH.new h i.2.1)) i.2.2.2.2.2.1 i.2.2.2.2.2.2 ∧ i.2.2.2.2.2.2.length = i.1 ∧ Rds (so sh1 rem1) (pli pDesc i.1) (so i.2.2.1.2.2.2.2 i.2.2.1.2.2.2.1) i.2.2.2.2.2.2)
    (fun i => [(0, [], .pointer (some ⟨b, 0, none⟩)), (1, [], .func (.func 68) #[] #[]), (5, [], .slice i.2.2.2.1 i.1 i.2.2.2.2.1), (6, [], .int .u64 ((N : Int) - i.1))]) (fun i => [row i.2.2.2.1 i.1 i.2.2.2.2.1 44 4 i.2.2.2.2.2.1.flatten, srcB b i.2.2.1.1 i.2.2.1.2.1 i.2.2.1.2.2.1 i.2.2.1.2.2.2.2]) (fun i => i.2.1) (fun i => N - i.1) (0, h1, (p1, n1, c1, rem1, sh1), (none, 0, [], [])) ⟨by simp, hle1, hs1, hn1, trivial, rfl, Rds.pu _ _⟩ (by simp only [Int.natCast_zero, Int.sub_zero]; exact aU) (fun w hw => inv_only (by exact aS) hw) (fun i hi => ?_)
  obtain ⟨i, hk, ⟨pk, nk, ck, remk, shk⟩, pr, cr, css, xs⟩ := i
  obtain ⟨hiN, hlk, hsk, hnk, hall, hlx, RL⟩ := hi
  dsimp only at hiN hlk hsk hnk hall hlx RL ⊢
  have hu := True.intro
  refine hd_split (c := decide (i < N)) (fun hlt => ?_) (fun hlt => ?_)
  · simp only [decide_eq_true_eq] at hlt
    cases shk with
    | true =>
      repeat' (first | (refine is_cx ?_ (by rfl); first | (refine hd_cmA (Hi := [srcB _ _ _ _ _]) (s := by exact src_num1 _ (by exact zMgU2) (by omega)) (k := ?_); rintro _ h1 _ hle1 ⟨x1, rfl, hx0, hx1, p1, n1, c1, rem1, sh1, rfl, hs1, hn1, R1⟩)) | refine wMgU2 ?_ | refine wMgU3 ?_ | (refine is_cd ?_; first | refine hd_condA (fun _ => ?_) (fun _ => ?_)) | refine wMgU1 ?_ | refine wkB (fun _ => ?_) | refine wkC (fun _ _ => ?_) | exact tsA | (refine ts_step rfl (fun HF h1 hle => ?_)))
      refine hd_pubN (r := rDs) (hb := h) hlk css xs (by exact aP) rfl hall hlx (by omega) (fun h5 hle5 hsl => ?_)
      (apply hd_resS (Hi := [srcB b pk nk ck true]); (focus (first | exact .inl rfl | exact .inr rfl)); rfl; exact aR; exact aS)
      exact ⟨xs, _, _, _, rfl, hsl, by omega, pk, nk, ck, remk, true, rfl, hsk.mono hle5, hnk, R0.bind (by rw [Int.toNat_natCast]; exact RL.short hiN xs)⟩
    | false =>
      repeat' (first | (refine is_cx ?_ (by rfl); first | (refine hd_cmA (Hi := [srcB _ _ _ _ _]) (s := by exact take_Desc _ hsk (by omega)) (k := ?_); rintro _ h1 _ hle1 ⟨x1, q3, m3, d3, rfl, hf3, hr1, p1, n1, c1, rem1, sh1, rfl, hs1, hn1, R1⟩) | (apply hd_append; exact aX; exact aX; exact aP; (focus exact Src.row (by exact aH)); rfl; rfl; (focus omega); (focus omega); rfl; (refine fun p3 c3 => ?_)) | refine hd_makeA (fun _ => ?_) | refine hd_litA (fun _ => ?_) | refine hd_appendA (fun _ _ => ?_)) | refine wMgU2 ?_ | refine wMgU3 ?_ | (refine is_cd ?_; first | refine hd_condA (fun _ => ?_) (fun _ => ?_)) | refine wMgU4 ?_ | refine wkB (fun _ => ?_) | refine wkC (fun _ _ => ?_) | exact tsA | (refine ts_step rfl (fun HF h1 hle => ?_)))
      rw [show (N : Int) - i - 1 = (N : Int) - ((i + 1 : Nat) : Int) by omega]
      exact hd_again (i + 1, h1, (p1, n1, c1, rem1, sh1), (p3, c3, css ++ [[.int .u8 x1.1, .int .u16 x1.2.1, .int .u8 x1.2.2.1, .slice q3 m3 d3]], xs ++ [x1])) ⟨by dsimp only; omega, PH.le_trans hlk hle1, hs1, by dsimp only; omega, All2.snoc (hall.mono fun _ _ => rDs.mono (PH.new_mono hle1)) (rDs_mk hr1.1 hr1.2.1 hr1.2.2 (hf3.mono (PH.new_back hlk))), by dsimp only; simp [hlx], RL.snoc R1⟩ (by dsimp only; omega) (by exact aU) (fun w hw => by simp only [List.flatten_append, List.flatten_cons, List.flatten_nil, List.append_nil]; exact inv_only (by exact aS) hw)
  · simp only [decide_eq_false_iff_not] at hlt
    have hu : decide (0 < (N : Int) - i) = false := decide_eq_false (by omega)
    have hiN2 : N = i := by omega
    subst hiN2
    repeat' (first | (refine is_cx ?_ (by rfl); first | (refine hd_cmA (Hi := [srcB _ _ _ _ _]) (s := by exact take_Desc _ hsk (by omega)) (k := ?_); rintro _ h1 _ hle1 ⟨x1, q3, m3, d3, rfl, hf3, hr1, p1, n1, c1, rem1, sh1, rfl, hs1, hn1, R1⟩) | (apply hd_append; exact aX; exact aX; exact aP; (focus exact Src.row (by exact aH)); rfl; rfl; (focus omega); (focus omega); rfl; (refine fun p3 c3 => ?_)) | refine hd_makeA (fun _ => ?_) | refine hd_litA (fun _ => ?_) | refine hd_appendA (fun _ _ => ?_)) | refine wMgU2 ?_ | refine wMgU3 ?_ | (refine is_cd ?_; first | refine hd_condA (fun _ => ?_) (fun _ => ?_)) | refine wMgU4 ?_ | refine wkB (fun _ => ?_) | refine wkC (fun _ _ => ?_) | exact tsA | (refine ts_step rfl (fun HF h1 hle => ?_)))
    refine hd_pubN (r := rDs) (hb := h) hlk css xs (by exact aP) rfl hall hlx (by omega) (fun h5 hle5 hsl => ?_)
    (apply hd_resS (Hi := [srcB b pk nk ck shk]); (focus (first | exact .inl rfl | exact .inr rfl)); rfl; exact aR; exact aS)
    exact ⟨xs, _, _, _, rfl, hsl, by omega, pk, nk, ck, remk, shk, rfl, hsk.mono hle5, hnk, R0.bind (by rw [Int.toNat_natCast]; exact RL)⟩
end Go.Proofs.YtmpfeaoofkkhjaaGreat
