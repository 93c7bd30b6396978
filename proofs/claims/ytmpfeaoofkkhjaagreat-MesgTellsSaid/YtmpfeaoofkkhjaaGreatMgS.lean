/- What package mesg's source reads. -/
import Derived.Test.YtmpfeaoofkkhjaaGreatMgD
namespace Go.Proofs.YtmpfeaoofkkhjaaGreat
open Go Go.GV
attribute [local irreducible] cw Go.GV.SpecM Go.GV.wpList Exit.then Exit.inBlock Go.GV.bodyPost wpPl wpPm wpPn TS rnd rPost YieldsB wpPT ptK
set_option maxRecDepth 10000
set_option maxHeartbeats 8000000
set_option linter.unusedVariables false
set_option linter.unusedSimpArgs false
/-- What is left to be read, or that there was too little. -/
def so (sh : Bool) (rem : List Int) : Option (List Int) := bif sh then none else some rem
/-- What is read, behind what was read. -/
structure Rds {α : Type} (o : Option (List Int)) (f : Pa α) (o' : Option (List Int)) (x : α) : Prop where
  rest : (o.bind f).map (·.2) = o'
  val : ∀ y r, o.bind f = some (y, r) → y = x
theorem Rds.pu {α : Type} (o : Option (List Int)) (x : α) : Rds o (pu x) o x := by
  cases o with
  | none => exact ⟨rfl, fun y r h => by cases h⟩
  | some b => exact ⟨rfl, fun y r h => by simp [Go.Proofs.YtmpfeaoofkkhjaaGreat.pu] at h; exact h.1.symm⟩
theorem Rds.bind {α β : Type} {o o1 o2 : Option (List Int)} {f : Pa α} {g : α → Pa β} {x : α} {y : β} (h1 : Rds o f o1 x) (h2 : Rds o1 (g x) o2 y) : Rds o (pbi f g) o2 y := by
  have e : o.bind (pbi f g) = (o.bind f).bind fun p => g p.1 p.2 := by
    cases o with
    | none => rfl
    | some b => rfl
  cases hf : o.bind f with
  | none =>
    have h3 := h1.rest
    rw [hf] at h3
    simp only [Option.map_none] at h3
    subst h3
    have h4 := h2.rest
    simp only [Option.bind_none, Option.map_none] at h4
    exact ⟨by rw [e, hf]; exact h4, fun z r hz => by rw [e, hf] at hz; cases hz⟩
  | some p =>
    obtain ⟨a, r⟩ := p
    have h3 := h1.rest
    rw [hf] at h3
    simp only [Option.map_some] at h3
    have ha := h1.val a r hf
    subst ha h3
    have h4 := h2.rest
    have h5 := h2.val
    simp only [Option.bind_some] at h4 h5
    exact ⟨by rw [e, hf]; exact h4, fun z r2 hz => by rw [e, hf] at hz; exact h5 z r2 hz⟩
theorem Rds.none_ {α : Type} (f : Pa α) (x : α) : Rds none f none x := ⟨rfl, fun y r h => by cases h⟩
theorem rds_few {rem : List Int} {K : Nat} (h : rem.length < K) : Rds (some rem) (rdN true K) none 0 := by
  have e : rdN true K rem = none := by simp [rdN, h]
  exact ⟨by simp [e], fun y r hy => by simp [e] at hy⟩
theorem rds_num {rem : List Int} {K : Nat} (h : K ≤ rem.length) : Rds (some rem) (rdN true K) (some (rem.drop K)) (num (rem.take K)) := by
  have e : rdN true K rem = some (num (rem.take K), rem.drop K) := by simp only [rdN, if_true]; rw [if_neg (by omega)]
  exact ⟨by simp [e], fun y r hy => by simp [e] at hy; exact hy.1.symm⟩
/-- A source. -/
abbrev srcB (b : Nat) (p : Option Addr) (n c : Nat) (sh : Bool) : HE := box b [.slice p n c, .bool sh] 83
/-- What a reading function comes to. -/
def TkP {α : Type} (h' : PH) (b n : Nat) (o : Option (List Int)) (f : Pa α) (x : α) (Ho : List HE) : Prop := ∃ p' n' c' rem' sh', Ho = [srcB b p' n' c' sh'] ∧ Bs h' p' n' c' rem' ∧ n' ≤ n ∧ Rds o f (so sh' rem') x

theorem zMgS1 {A : Prop} (h : A := by (first | rfl | assumption | (rw [hu]; rfl) | (simp only [decide_eq_true_eq, decide_eq_false_iff_not, beq_eq_false_iff_ne, beq_iff_eq]; omega) | fail)) : A := h
theorem zMgS2 {A : Prop} (h : A := by ((first | (apply OK.plain; rfl; apply OD.of) | (apply OKp.plain; rfl)); (first | (apply od_pickX; exact aX; (focus exact zMgS1); exact aX) | (apply od_pickY; exact aX; (focus exact zMgS1); exact aX)))) : A := h
theorem zMgS3 {A : Prop} (h : A := by ((first | (apply OK.plain; rfl) | (apply OK.guarded; rfl; rfl; (intro hg; (try have hk := hg.2); (try have hl := hg.2.2); (try have hm := hg.2.2.2)))); (first | (apply od_call; exact aX; infer_instance; exact aE; exact aN; (focus (first | fail))) ))) : A := h
theorem wMgS1 {A B : Prop} (k : B) (h : Kx B → A := by intro k; (first | (refine is_pu ?_ (by rfl); first | (apply hd_gon; rfl; rfl; (focus (constructor; (focus exact zMgS1); trivial))) | (apply hd_goff; rfl; rfl; (focus exact fun hs => absurd hs.1 (by (first | decide | (rw [hu]; decide) | fail))); rfl) | (apply hd_gundef; rfl; rfl; rfl) | refine hd_opAB ?_ | ((first | apply hd_ok | apply ch_ok | (apply hd_pn_run; rfl; exact aM)); (focus ((first | (apply OK.plain; rfl; apply OD.of) | (apply OKp.plain; rfl)); (first | (apply od_nil; exact aX)))); rfl; rfl) | ((first | apply hd_ok | apply ch_ok | (apply hd_pn_run; rfl; exact aM)); (focus exact zMgS2); rfl; rfl)) | (refine is_pn ?_; first | refine hd_pn_nil ?_ | refine hd_pnAB ?_ | ((first | apply hd_ok | apply ch_ok | (apply hd_pn_run; rfl; exact aM)); (focus ((first | (apply OK.plain; rfl; apply OD.of) | (apply OKp.plain; rfl)); (first | (apply od_nil; exact aX)))); rfl; rfl) | ((first | apply hd_ok | apply ch_ok | (apply hd_pn_run; rfl; exact aM)); (focus exact zMgS2); rfl; rfl) | (refine hd_pn_op rfl ?_)) | (refine is_co ?_; first | (apply hd_gon; rfl; rfl; (focus (constructor; (focus exact zMgS1); trivial))) | (apply hd_goff; rfl; rfl; (focus exact fun hs => absurd hs.1 (by (first | decide | (rw [hu]; decide) | fail))); rfl) | (apply hd_gundef; rfl; rfl; rfl) | ((first | apply hd_ok | apply ch_ok); (focus exact zMgS3); rfl; rfl) | refine hd_storeA ?_ | refine hd_copyA ?_) | (refine is_ni ?_; first | (refine is_on ?_; first | refine pn_barA ?_ | refine pn_goA ?_ | refine pt_goA ?_ | refine ts_onA ?_) | refine hd_nil ?_) | refine wkA ?_ | (refine is_ch ?_; refine ch_opAB ?_) | ((first | apply hd_ok | apply ch_ok); (focus exact zMgS3); rfl; rfl) | ((first | apply hd_ok | apply ch_ok | (apply hd_pn_run; rfl; exact aM)); (focus ((first | (apply OK.plain; rfl; apply OD.of) | (apply OKp.plain; rfl)); (first | (apply od_nil; exact aX)))); rfl; rfl) | ((first | apply hd_ok | apply ch_ok | (apply hd_pn_run; rfl; exact aM)); (focus exact zMgS2); rfl; rfl)); exact k.go) : A := h ⟨k⟩
theorem wMgS2 {A B : Prop} (k : B) (h : Kx B → A := by intro k; ((refine is_cw ?_; refine is_rg ?_; first | refine hd_draw follows_any (by decide +kernel) ?_)); exact k.go) : A := h ⟨k⟩
theorem wMgS3 {A B : Prop} (k : B) (h : Kx B → A := by intro k; ((refine is_cw ?_; refine is_cd ?_; first | (refine hd_condT (by exact aX) (by exact zMgS1) ?_) | (refine hd_condF (by exact aX) (by exact zMgS1) ?_))); exact k.go) : A := h ⟨k⟩
theorem src_number {b K : Nat} {p : Option Addr} {n c : Nat} {rem : List Int} {sh : Bool} (h : PH) (hs : Bs h p n c rem) (h1k : 1 ≤ K) (h8k : K ≤ 8) (hn : n ≤ 60000) :
    SpecM Tryz.prog 36 #[.pointer (some ⟨b, 0, none⟩), .int .i64 (K : Int)] h [srcB b p n c sh] fun v h' Ho => ∃ x, v = .int .u64 x ∧ 0 ≤ x ∧ x < 256 ^ K ∧ TkP h' b n (so sh rem) (rdN true K) x Ho := by
  have hl := hs.len
  have hcap := hs.cap
  have hp0 : (0 : Int) < 256 ^ K := Int.pow_pos (by omega)
  have hu := True.intro
  refine spec_enter (args := [_, _]) Tryz.func36 rfl Tryz.ntmps36 rfl (fun w l => ?_)
  cases sh with
  | true =>
    repeat' (first | (refine is_cx ?_ (by rfl); first | (refine hd_cnA (s := by exact wire_Take _ _ hsub (by omega)) (k := ?_); rintro _ h1 _ hle1 ⟨p1, m1, c1, rfl, hm1, rfl⟩)) | refine wMgS2 ?_ | refine wMgS3 ?_ | (refine is_cd ?_; first | refine hd_condA (fun _ => ?_) (fun _ => ?_)) | refine wMgS1 ?_ | refine wkB (fun _ => ?_) | refine wkC (fun _ _ => ?_) | exact tsA | (refine ts_step rfl (fun HF h1 hle => ?_)))
    refine hd_only (Hi := [srcB b p n c true]) (by exact aS) ?_
    ((repeat (refine hd_undefer (by first | exact .inl rfl | exact .inr rfl) (by exact aP) ?_)); apply hd_resR; (focus (first | exact .inl rfl | exact .inr rfl)); rfl; exact aR)
    exact ⟨0, rfl, by omega, hp0, p, n, c, rem, true, rfl, hs, Nat.le_refl _, Rds.none_ _ _⟩
  | false =>
    refine hd_split (c := decide (n < K)) (fun hlt => ?_) (fun hlt => ?_)
    · simp only [decide_eq_true_eq] at hlt
      repeat' (first | (refine is_cx ?_ (by rfl); first | (refine hd_cnA (s := by exact wire_Take _ _ hsub (by omega)) (k := ?_); rintro _ h1 _ hle1 ⟨p1, m1, c1, rfl, hm1, rfl⟩)) | refine wMgS2 ?_ | refine wMgS3 ?_ | (refine is_cd ?_; first | refine hd_condA (fun _ => ?_) (fun _ => ?_)) | refine wMgS1 ?_ | refine wkB (fun _ => ?_) | refine wkC (fun _ _ => ?_) | exact tsA | (refine ts_step rfl (fun HF h1 hle => ?_)))
      refine hd_only (Hi := [srcB b p n c true]) (by exact aS) ?_
      ((repeat (refine hd_undefer (by first | exact .inl rfl | exact .inr rfl) (by exact aP) ?_)); apply hd_resR; (focus (first | exact .inl rfl | exact .inr rfl)); rfl; exact aR)
      exact ⟨0, rfl, by omega, hp0, p, n, c, rem, true, rfl, hs, Nat.le_refl _, rds_few (by omega)⟩
    · simp only [decide_eq_false_iff_not] at hlt
      have hsub := hs.sub (lo := 0) (hi := K) (by omega) (by omega)
      rw [List.drop_zero] at hsub
      have eo : takOk (rem.take K) (K : Int) = true := by simp [takOk]; omega
      have hd := hs.dropS (lo := K) (by omega)
      have hu := eo
      have en : takN (rem.take K) (K : Int) = num (rem.take K) := by
        rw [takN, if_pos eo, Int.toNat_natCast, List.take_take, Nat.min_self]
      have hb := num_lt (hs.b8.take K)
      have hlk : (rem.take K).length = K := by rw [List.length_take]; omega
      rw [hlk] at hb
      repeat' (first | (refine is_cx ?_ (by rfl); first | (refine hd_cnA (s := by exact wire_Take _ _ hsub (by omega)) (k := ?_); rintro _ h1 _ hle1 ⟨p1, m1, c1, rfl, hm1, rfl⟩)) | refine wMgS2 ?_ | refine wMgS3 ?_ | (refine is_cd ?_; first | refine hd_condA (fun _ => ?_) (fun _ => ?_)) | refine wMgS1 ?_ | refine wkB (fun _ => ?_) | refine wkC (fun _ _ => ?_) | exact tsA | (refine ts_step rfl (fun HF h1 hle => ?_)))
      refine hd_only (Hi := [srcB b (subp p c K 1) (n - K) (c - K) false]) (by exact aS) ?_
      ((repeat (refine hd_undefer (by first | exact .inl rfl | exact .inr rfl) (by exact aP) ?_)); apply hd_resR; (focus (first | exact .inl rfl | exact .inr rfl)); rfl; exact aR)
      exact ⟨_, rfl, by rw [en]; exact hb.1, by rw [en]; exact hb.2, _, _, _, _, false, rfl, hd.mono hle1, by omega, by rw [en]; exact rds_num (by omega)⟩
theorem src_num1 {b : Nat} {p : Option Addr} {n c : Nat} {rem : List Int} {sh : Bool} (h : PH) (hs : Bs h p n c rem) (hn : n ≤ 60000) : SpecM Tryz.prog 36 #[.pointer (some ⟨b, 0, none⟩), .int .i64 1] h [srcB b p n c sh] fun v h' Ho => ∃ x, v = .int .u64 x ∧ 0 ≤ x ∧ x < 256 ∧ TkP h' b n (so sh rem) (rdN true 1) x Ho := src_number (K := 1) h hs (by decide) (by decide) hn
theorem src_num2 {b : Nat} {p : Option Addr} {n c : Nat} {rem : List Int} {sh : Bool} (h : PH) (hs : Bs h p n c rem) (hn : n ≤ 60000) : SpecM Tryz.prog 36 #[.pointer (some ⟨b, 0, none⟩), .int .i64 2] h [srcB b p n c sh] fun v h' Ho => ∃ x, v = .int .u64 x ∧ 0 ≤ x ∧ x < 65536 ∧ TkP h' b n (so sh rem) (rdN true 2) x Ho := src_number (K := 2) h hs (by decide) (by decide) hn
theorem src_num4 {b : Nat} {p : Option Addr} {n c : Nat} {rem : List Int} {sh : Bool} (h : PH) (hs : Bs h p n c rem) (hn : n ≤ 60000) : SpecM Tryz.prog 36 #[.pointer (some ⟨b, 0, none⟩), .int .i64 4] h [srcB b p n c sh] fun v h' Ho => ∃ x, v = .int .u64 x ∧ 0 ≤ x ∧ x < 4294967296 ∧ TkP h' b n (so sh rem) (rdN true 4) x Ho := src_number (K := 4) h hs (by decide) (by decide) hn
end Go.Proofs.YtmpfeaoofkkhjaaGreat
