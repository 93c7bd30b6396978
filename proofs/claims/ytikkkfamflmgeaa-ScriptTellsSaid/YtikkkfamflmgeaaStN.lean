/- What grapevineref27 reads: numbers, counted numbers. -/
import Derived.Test.YtikkkfamflmgeaaStS
import Derived.Test.YtikkkfamflmgeaaFWR
namespace Go.Proofs.Ytikkkfamflmgeaa
open Go Go.GV
attribute [local irreducible] cw Go.GV.SpecM Go.GV.wpList Exit.then Exit.inBlock Go.GV.bodyPost wpPl wpPm wpPn TS rnd rPost YieldsB wpPT ptK
set_option maxRecDepth 10000
set_option maxHeartbeats 8000000
set_option linter.unusedVariables false
set_option linter.unusedSimpArgs false
def rdNs (K : Nat) : Nat → List Int → Option (List Int × List Int)
  | 0, b => some ([], b)
  | k + 1, b => (rdN true K b).bind fun p => (rdNs K k p.2).bind fun r => some (p.1 :: r.1, r.2)
theorem rdNs_snoc (K : Nat) : ∀ (k : Nat) (b : List Int), rdNs K (k + 1) b = (rdNs K k b).bind fun p => (rdN true K p.2).bind fun u => some (p.1 ++ [u.1], u.2)
  | 0, b => by
    simp only [rdNs, Option.bind_some, List.nil_append]
  | k + 1, b => by
    rw [rdNs]
    rw [show rdNs K (k + 1) b = (rdN true K b).bind fun p => (rdNs K k p.2).bind fun r => some (p.1 :: r.1, r.2) from rfl]
    cases h1 : rdN true K b with
    | none => rfl
    | some p =>
      simp only [Option.bind_some]
      rw [rdNs_snoc K k p.2]
      cases h3 : rdNs K k p.2 with
      | none => rfl
      | some r =>
        simp only [Option.bind_some]
        cases h4 : rdN true K r.2 with
        | none => rfl
        | some u => simp only [Option.bind_some, List.cons_append]
theorem rdN_tak {b : List Int} {k : Int} (h1 : 1 ≤ k) (h8 : k ≤ 8) : rdN true k.toNat b = if takOk b k = true then some (takN b k, takR b k) else none := by
  by_cases h : takOk b k = true
  · have h' := h
    simp only [takOk, Bool.and_eq_true, decide_eq_true_eq] at h'
    rw [if_pos h]
    simp only [rdN, if_true, takN, takR, h]
    rw [if_neg (by omega)]
  · rw [if_neg h]
    simp only [takOk, Bool.and_eq_true, decide_eq_true_eq] at h
    simp only [rdN, if_true]
    rw [if_pos (by omega)]
theorem rdNs_lt (K : Nat) : ∀ (k : Nat) (b : List Int) (l r : List Int), B8 b → rdNs K k b = some (l, r) → l.length = k ∧ (∀ x ∈ l, 0 ≤ x ∧ x < 256 ^ K) ∧ B8 r ∧ r.length ≤ b.length
  | 0, b, l, r, hb, h => by
    simp only [rdNs, Option.some.injEq, Prod.mk.injEq] at h
    obtain ⟨rfl, rfl⟩ := h
    exact ⟨rfl, by simp, hb, Nat.le_refl _⟩
  | k + 1, b, l, r, hb, h => by
    simp only [rdNs, Option.bind_eq_some_iff, Prod.exists, Option.some.injEq, Prod.mk.injEq] at h
    obtain ⟨v, b1, h1, l', r', h3, rfl, rfl⟩ := h
    obtain ⟨e1, i1, _, hb1⟩ := rdN_inv hb h1
    obtain ⟨hl, hi, hb3, hln⟩ := rdNs_lt K k b1 l' r' hb1 h3
    refine ⟨by simp [hl], ?_, hb3, ?_⟩
    · intro s hs
      rcases List.mem_cons.1 hs with rfl | hs
      · exact i1 rfl
      · exact hi s hs
    · have : b1.length ≤ b.length := by rw [e1]; simp
      omega
abbrev row64 (p : Option Addr) (n c : Nat) (bs : List Int) : HE := row p n c 72 1 (vI .u64 bs)
/-- What three results are, by what was read. -/
def NumV (o : Option (List Int × List Int)) (v : Value) (h : PH) : Prop := ∃ q j d r i e, v = .tuple #[.slice q j d, .slice r i e, .bool o.isSome] ∧ SlR (rInt .u64) h q j d ((o.map (·.1)).getD []) ∧ Bs h r i e ((o.map (·.2)).getD [])

theorem ref27_numbers {p : Option Addr} {n c : Nat} {bs : List Int} (m : Nat) (k : Int) (h : PH) (hs : Bs h p n c bs) (hn : n ≤ 60000) (hm : m ≤ 1000) (h1 : 1 ≤ k) (h8 : k ≤ 8) :
    GV.Spec Try.prog 46 #[.slice p n c, .int .i64 m, .int .i64 k] h fun v h' => NumV (rdNs k.toNat m bs) v h' := by
  have hl := hs.len
  have hb8 := hs.b8
  refine spec_enter (args := [_, _, _]) Try.func46 rfl Try.ntmps46 rfl (fun w l => ?_)
  repeat' (first | (refine is_pu ?_ (by rfl); first  | fail | refine hd_opTB ?_) | (refine is_pn ?_; first | refine hd_pn_nil ?_ | fail  | fail | refine hd_pnTB ?_ | (refine hd_pn_op rfl ?_)) | (refine is_co ?_; first | fail  | refine hd_storeA ?_ | refine hd_boxA (fun _ => ?_) | refine hd_alloc rfl (fun _ => ?_) | refine hd_makeA (fun _ => ?_) | refine hd_copyA ?_ | refine hd_litA (fun _ => ?_) | refine hd_appendA (fun _ _ => ?_) | (apply hd_call; exact aX; infer_instance; exact aE; exact aN; rfl; (focus exact ref_TakeP _ _ (by assumption) (by omega)); (focus (rintro _ h1 hle1 ⟨p1, c1, rfl, hb1⟩; skip)))) | (refine is_ni ?_; first | (refine is_on ?_; first | refine pn_barA ?_ | refine pn_goA ?_ | refine pt_goA ?_  | refine ts_onA ?_) | refine hd_nil ?_) | (refine is_cw ?_; first | (refine is_rg ?_; first | fail | fail | refine hd_draw follows_any (by decide +kernel) ?_) | (refine is_cd ?_; first | (refine hd_condT (by exact aX) (by (first | rfl | assumption | (simp only [decide_eq_true_eq, decide_eq_false_iff_not]; omega) | (simp only [hok]; rfl) | fail)) ?_) | (refine hd_condF (by exact aX) (by (first | rfl | assumption | (simp only [decide_eq_true_eq, decide_eq_false_iff_not]; omega) | (simp only [hok]; rfl) | fail)) ?_) | (refine hd_cond (by exact aX) (fun _ => ?_) (fun _ => ?_))) | fail | refine wkA ?_) | refine wkA ?_ | (refine is_ch ?_; refine ch_opTB ?_) | ((first | apply hd_ok | apply ch_ok); (focus ((first | (apply OK.plain; rfl)  ); (first | (apply od_call; exact aX; infer_instance; exact aE; exact aN; (focus (first | fail))) ))); rfl; rfl) | ((first | apply hd_ok | apply ch_ok | (apply hd_pn_run; rfl; exact aM)); (focus ((first | (apply OK.plain; rfl; apply OD.of) | (apply OKp.plain; rfl)); (first | (apply od_pickX; exact aX; (focus (first | rfl | assumption | (simp only [decide_eq_true_eq, decide_eq_false_iff_not]; omega) | (simp only [hok]; rfl) | fail)); exact aX) | (apply od_pickY; exact aX; (focus (first | rfl | assumption | (simp only [decide_eq_true_eq, decide_eq_false_iff_not]; omega) | (simp only [hok]; rfl) | fail)); exact aX)))); rfl; rfl) | fail | exact tsA | fail | (refine ts_step rfl (fun HF h1 hle => ?_)) | fail | fail)
  refine hd_nilrow 72 1 ?_
  refine hd_loopS (ι := Nat × PH × Option Addr × Nat × Option Addr × Nat × Nat × List Int × List Int) (fun i => i.1 ≤ m ∧ h.le i.2.1 ∧ rdNs k.toNat i.1 bs = some (i.2.2.2.2.2.2.2.1, i.2.2.2.2.2.2.2.2) ∧ Bs i.2.1 i.2.2.2.2.1 i.2.2.2.2.2.1 i.2.2.2.2.2.2.1 i.2.2.2.2.2.2.2.2)
    (fun i => [(0, [], .slice i.2.2.2.2.1 i.2.2.2.2.2.1 i.2.2.2.2.2.2.1), (1, [], .int .i64 m), (2, [], .int .i64 k), (9, [], .slice i.2.2.1 i.1 i.2.2.2.1), (10, [], .int .i64 i.1)]) (fun i => [row64 i.2.2.1 i.1 i.2.2.2.1 i.2.2.2.2.2.2.2.1]) (fun i => i.2.1) (fun i => m - i.1) (0, h, none, 0, p, n, c, [], bs) ⟨by omega, PH.le_refl _, rfl, hs⟩ (by exact aU) (fun w hw => inv_only (by exact aS) hw) (fun i hi => ?_)
  obtain ⟨i, hi1, pi, ci, pr, nr, cr, ns, rs⟩ := i
  obtain ⟨hi0, hlei, hrd, hbr⟩ := hi
  simp only at hi0 hlei hrd hbr
  simp only
  obtain ⟨hnl, hnr, hr8, hrl⟩ := rdNs_lt _ _ _ _ _ hb8 hrd
  have hbl := hbr.len
  have hsn := rdNs_snoc k.toNat i bs
  rw [hrd] at hsn
  simp only [Option.bind_some, rdN_tak h1 h8] at hsn
  refine hd_split (c := decide (i < m)) (fun hlt => ?_) (fun hlt => ?_)
  · simp only [decide_eq_true_eq] at hlt
    refine hd_split (c := takOk rs k) (fun hok => ?_) (fun hok => ?_)
    · rw [if_pos hok] at hsn
      simp only [Option.bind_some] at hsn
      repeat' (first | (refine is_pu ?_ (by rfl); first  | fail | refine hd_opTB ?_) | (refine is_pn ?_; first | refine hd_pn_nil ?_ | fail  | fail | refine hd_pnTB ?_ | (refine hd_pn_op rfl ?_)) | (refine is_co ?_; first | fail  | refine hd_storeA ?_ | refine hd_boxA (fun _ => ?_) | refine hd_alloc rfl (fun _ => ?_) | refine hd_makeA (fun _ => ?_) | refine hd_copyA ?_ | refine hd_litA (fun _ => ?_) | refine hd_appendA (fun _ _ => ?_) | (apply hd_call; exact aX; infer_instance; exact aE; exact aN; rfl; (focus exact ref_TakeP _ _ (by assumption) (by omega)); (focus (rintro _ h1 hle1 ⟨p1, c1, rfl, hb1⟩; skip)))) | (refine is_ni ?_; first | (refine is_on ?_; first | refine pn_barA ?_ | refine pn_goA ?_ | refine pt_goA ?_  | refine ts_onA ?_) | refine hd_nil ?_) | (refine is_cw ?_; first | (refine is_rg ?_; first | fail | fail | refine hd_draw follows_any (by decide +kernel) ?_) | (refine is_cd ?_; first | (refine hd_condT (by exact aX) (by (first | rfl | assumption | (simp only [decide_eq_true_eq, decide_eq_false_iff_not]; omega) | (simp only [hok]; rfl) | fail)) ?_) | (refine hd_condF (by exact aX) (by (first | rfl | assumption | (simp only [decide_eq_true_eq, decide_eq_false_iff_not]; omega) | (simp only [hok]; rfl) | fail)) ?_) | (refine hd_cond (by exact aX) (fun _ => ?_) (fun _ => ?_))) | fail | refine wkA ?_) | refine wkA ?_ | (refine is_ch ?_; refine ch_opTB ?_) | ((first | apply hd_ok | apply ch_ok); (focus ((first | (apply OK.plain; rfl)  ); (first | (apply od_call; exact aX; infer_instance; exact aE; exact aN; (focus (first | fail))) ))); rfl; rfl) | ((first | apply hd_ok | apply ch_ok | (apply hd_pn_run; rfl; exact aM)); (focus ((first | (apply OK.plain; rfl; apply OD.of) | (apply OKp.plain; rfl)); (first | (apply od_pickX; exact aX; (focus (first | rfl | assumption | (simp only [decide_eq_true_eq, decide_eq_false_iff_not]; omega) | (simp only [hok]; rfl) | fail)); exact aX) | (apply od_pickY; exact aX; (focus (first | rfl | assumption | (simp only [decide_eq_true_eq, decide_eq_false_iff_not]; omega) | (simp only [hok]; rfl) | fail)); exact aX)))); rfl; rfl) | fail | exact tsA | fail | (refine ts_step rfl (fun HF h1 hle => ?_)) | fail | fail)
      rename_i g p3 c3
      refine hd_again (i + 1, h1, p3, c3, p1, _, c1, ns ++ [takN rs k], takR rs k) ⟨by simp only; omega, by exact aL, hsn, hb1⟩ (by simp only; omega) (by exact aU) (by simp only [row64, vI_append]; exact fun w hw => inv_only (by exact aS) hw)
    · rw [if_neg (by simp [hok])] at hsn
      simp only [Option.bind_none] at hsn
      have hnone : rdNs k.toNat m bs = none := by
        obtain ⟨j, rfl⟩ : ∃ j, m = (i + 1) + j := ⟨m - (i + 1), by omega⟩
        clear hlt hi0 hm
        induction j with
        | zero => exact hsn
        | succ j ih => rw [show i + 1 + (j + 1) = (i + 1 + j) + 1 by omega, rdNs_snoc, ih]; rfl
      repeat' (first | (refine is_pu ?_ (by rfl); first  | fail | refine hd_opTB ?_) | (refine is_pn ?_; first | refine hd_pn_nil ?_ | fail  | fail | refine hd_pnTB ?_ | (refine hd_pn_op rfl ?_)) | (refine is_co ?_; first | fail  | refine hd_storeA ?_ | refine hd_boxA (fun _ => ?_) | refine hd_alloc rfl (fun _ => ?_) | refine hd_makeA (fun _ => ?_) | refine hd_copyA ?_ | refine hd_litA (fun _ => ?_) | refine hd_appendA (fun _ _ => ?_) | (apply hd_call; exact aX; infer_instance; exact aE; exact aN; rfl; (focus exact ref_TakeP _ _ (by assumption) (by omega)); (focus (rintro _ h1 hle1 ⟨p1, c1, rfl, hb1⟩; skip)))) | (refine is_ni ?_; first | (refine is_on ?_; first | refine pn_barA ?_ | refine pn_goA ?_ | refine pt_goA ?_  | refine ts_onA ?_) | refine hd_nil ?_) | (refine is_cw ?_; first | (refine is_rg ?_; first | fail | fail | refine hd_draw follows_any (by decide +kernel) ?_) | (refine is_cd ?_; first | (refine hd_condT (by exact aX) (by (first | rfl | assumption | (simp only [decide_eq_true_eq, decide_eq_false_iff_not]; omega) | (simp only [hok]; rfl) | fail)) ?_) | (refine hd_condF (by exact aX) (by (first | rfl | assumption | (simp only [decide_eq_true_eq, decide_eq_false_iff_not]; omega) | (simp only [hok]; rfl) | fail)) ?_) | (refine hd_cond (by exact aX) (fun _ => ?_) (fun _ => ?_))) | fail | refine wkA ?_) | refine wkA ?_ | (refine is_ch ?_; refine ch_opTB ?_) | ((first | apply hd_ok | apply ch_ok); (focus ((first | (apply OK.plain; rfl)  ); (first | (apply od_call; exact aX; infer_instance; exact aE; exact aN; (focus (first | fail))) ))); rfl; rfl) | ((first | apply hd_ok | apply ch_ok | (apply hd_pn_run; rfl; exact aM)); (focus ((first | (apply OK.plain; rfl; apply OD.of) | (apply OKp.plain; rfl)); (first | (apply od_pickX; exact aX; (focus (first | rfl | assumption | (simp only [decide_eq_true_eq, decide_eq_false_iff_not]; omega) | (simp only [hok]; rfl) | fail)); exact aX) | (apply od_pickY; exact aX; (focus (first | rfl | assumption | (simp only [decide_eq_true_eq, decide_eq_false_iff_not]; omega) | (simp only [hok]; rfl) | fail)); exact aX)))); rfl; rfl) | fail | exact tsA | fail | (refine ts_step rfl (fun HF h1 hle => ?_)) | fail | fail)
      ((repeat (refine hd_undefer (by first | exact .inl rfl | exact .inr rfl) (by exact aP) ?_)); apply hd_res0; (focus (first | exact .inl rfl | exact .inr rfl)); rfl; exact aR)
      rw [hnone]
      exact ⟨none, 0, 0, none, 0, 0, rfl, SlR.nil _ _, SlR.nil _ _⟩
  · simp only [decide_eq_false_iff_not] at hlt
    have him : i = m := by omega
    subst him
    repeat' (first | (refine is_pu ?_ (by rfl); first  | fail | refine hd_opTB ?_) | (refine is_pn ?_; first | refine hd_pn_nil ?_ | fail  | fail | refine hd_pnTB ?_ | (refine hd_pn_op rfl ?_)) | (refine is_co ?_; first | fail  | refine hd_storeA ?_ | refine hd_boxA (fun _ => ?_) | refine hd_alloc rfl (fun _ => ?_) | refine hd_makeA (fun _ => ?_) | refine hd_copyA ?_ | refine hd_litA (fun _ => ?_) | refine hd_appendA (fun _ _ => ?_) | (apply hd_call; exact aX; infer_instance; exact aE; exact aN; rfl; (focus exact ref_TakeP _ _ (by assumption) (by omega)); (focus (rintro _ h1 hle1 ⟨p1, c1, rfl, hb1⟩; skip)))) | (refine is_ni ?_; first | (refine is_on ?_; first | refine pn_barA ?_ | refine pn_goA ?_ | refine pt_goA ?_  | refine ts_onA ?_) | refine hd_nil ?_) | (refine is_cw ?_; first | (refine is_rg ?_; first | fail | fail | refine hd_draw follows_any (by decide +kernel) ?_) | (refine is_cd ?_; first | (refine hd_condT (by exact aX) (by (first | rfl | assumption | (simp only [decide_eq_true_eq, decide_eq_false_iff_not]; omega) | (simp only [hok]; rfl) | fail)) ?_) | (refine hd_condF (by exact aX) (by (first | rfl | assumption | (simp only [decide_eq_true_eq, decide_eq_false_iff_not]; omega) | (simp only [hok]; rfl) | fail)) ?_) | (refine hd_cond (by exact aX) (fun _ => ?_) (fun _ => ?_))) | fail | refine wkA ?_) | refine wkA ?_ | (refine is_ch ?_; refine ch_opTB ?_) | ((first | apply hd_ok | apply ch_ok); (focus ((first | (apply OK.plain; rfl)  ); (first | (apply od_call; exact aX; infer_instance; exact aE; exact aN; (focus (first | fail))) ))); rfl; rfl) | ((first | apply hd_ok | apply ch_ok | (apply hd_pn_run; rfl; exact aM)); (focus ((first | (apply OK.plain; rfl; apply OD.of) | (apply OKp.plain; rfl)); (first | (apply od_pickX; exact aX; (focus (first | rfl | assumption | (simp only [decide_eq_true_eq, decide_eq_false_iff_not]; omega) | (simp only [hok]; rfl) | fail)); exact aX) | (apply od_pickY; exact aX; (focus (first | rfl | assumption | (simp only [decide_eq_true_eq, decide_eq_false_iff_not]; omega) | (simp only [hok]; rfl) | fail)); exact aX)))); rfl; rfl) | fail | exact tsA | fail | (refine ts_step rfl (fun HF h1 hle => ?_)) | fail | fail)
    refine hd_pubI (k := .u64) (p := pi) ns (by exact aP) rfl (fun x hx => ?_) hnl (by omega) (fun hq hleq hsq => ?_)
    · have := hnr x hx
      have hp : (256 : Int) ^ k.toNat ≤ 18446744073709551616 := by
        have h2 : k.toNat = 1 ∨ k.toNat = 2 ∨ k.toNat = 3 ∨ k.toNat = 4 ∨ k.toNat = 5 ∨ k.toNat = 6 ∨ k.toNat = 7 ∨ k.toNat = 8 := by omega
        rcases h2 with e | e | e | e | e | e | e | e <;> rw [e] <;> decide
      exact inR_u64 this.1 (by omega)
    · ((repeat (refine hd_undefer (by first | exact .inl rfl | exact .inr rfl) (by exact aP) ?_)); apply hd_res0; (focus (first | exact .inl rfl | exact .inr rfl)); rfl; exact aR)
      rw [hrd]
      exact ⟨_, _, _, _, _, _, rfl, hsq, hbr.mono hleq⟩
/-- Counted numbers with signs. -/
def cnt (t : Nat) (b : List Int) : Option (List Int × List Int) := (rdN true 1 b).bind fun n => (rdNs 4 (t * n.1.toNat) n.2).map fun p => (p.1.map (· - 2147483648), p.2)
def CntV (o : Option (List Int × List Int)) (v : Value) (h : PH) : Prop := ∃ q j d r i e, v = .tuple #[.slice q j d, .slice r i e, .bool o.isSome] ∧ SlV h q j d ((o.map (·.1)).getD []) ∧ Bs h r i e ((o.map (·.2)).getD [])
theorem rdNs_one (K : Nat) (b : List Int) : rdNs K 1 b = (rdN true K b).map fun p => ([p.1], p.2) := by
  simp only [rdNs]
  cases rdN true K b with
  | none => rfl
  | some p => rfl
theorem ref_Signed4 (x : Int) (h : PH) (hx : 0 ≤ x ∧ x < 256 ^ 4) : Det Try.prog 57 #[.int .u64 x] h (.int .i32 (x - 2147483648)) := by
  have h1 := ref_Signed x h (inR_u64 hx.1 (by omega))
  rw [Int.emod_eq_of_lt hx.1 (by omega)] at h1
  exact h1
theorem ref27_counted {p : Option Addr} {n c : Nat} {bs : List Int} (t : Nat) (h : PH) (hs : Bs h p n c bs) (hn : n ≤ 60000) (ht : t = 1 ∨ t = 2) :
    GV.Spec Try.prog 47 #[.slice p n c, .int .i64 t] h fun v h' => CntV (cnt t bs) v h' := by
  have hl := hs.len
  have hb8 := hs.b8
  refine spec_enter (args := [_, _]) Try.func47 rfl Try.ntmps47 rfl (fun w l => ?_)
  repeat' (first | (refine is_pu ?_ (by rfl); first  | fail | refine hd_opTB ?_) | (refine is_pn ?_; first | refine hd_pn_nil ?_ | fail  | fail | refine hd_pnTB ?_ | (refine hd_pn_op rfl ?_)) | (refine is_co ?_; first | fail  | refine hd_storeA ?_ | refine hd_boxA (fun _ => ?_) | refine hd_alloc rfl (fun _ => ?_) | (apply hd_call; exact aX; infer_instance; exact aE; exact aN; rfl; (focus exact ref27_numbers 1 _ _ (by assumption) (by omega) (by omega) (by omega) (by omega)); (focus (rintro _ h1 hle1 ⟨q1, j1, d1, r1, i1, e1, rfl, hq1, hr1⟩; skip)))) | (refine is_ni ?_; first | (refine is_on ?_; first | refine pn_barA ?_ | refine pn_goA ?_ | refine pt_goA ?_  | refine ts_onA ?_) | refine hd_nil ?_) | (refine is_cw ?_; first | (refine is_rg ?_; first | refine hd_stop2 (id := 2) ?_ | fail | refine hd_draw follows_any (by decide +kernel) ?_) | (refine is_cd ?_; first | (refine hd_condT (by exact aX) (by (first | rfl | assumption | (simp only [decide_eq_true_eq, decide_eq_false_iff_not]; omega) | (simp only [hok]; rfl) | fail)) ?_) | (refine hd_condF (by exact aX) (by (first | rfl | assumption | (simp only [decide_eq_true_eq, decide_eq_false_iff_not]; omega) | (simp only [hok]; rfl) | fail)) ?_) | (refine hd_cond (by exact aX) (fun _ => ?_) (fun _ => ?_))) | refine hd_stop2 (id := 2) ?_ | refine wkA ?_) | refine wkA ?_ | (refine is_ch ?_; refine ch_opTB ?_) | ((first | apply hd_ok | apply ch_ok); (focus ((first | (apply OK.plain; rfl)  ); (first | (apply od_call; exact aX; infer_instance; exact aE; exact aN; (focus (first | fail))) ))); rfl; rfl) | ((first | apply hd_ok | apply ch_ok | (apply hd_pn_run; rfl; exact aM)); (focus ((first | (apply OK.plain; rfl; apply OD.of) | (apply OKp.plain; rfl)); (first | (apply od_pickX; exact aX; (focus (first | rfl | assumption | (simp only [decide_eq_true_eq, decide_eq_false_iff_not]; omega) | (simp only [hok]; rfl) | fail)); exact aX) | (apply od_pickY; exact aX; (focus (first | rfl | assumption | (simp only [decide_eq_true_eq, decide_eq_false_iff_not]; omega) | (simp only [hok]; rfl) | fail)); exact aX)))); rfl; rfl) | fail | exact tsA | fail | (refine ts_step rfl (fun HF h1 hle => ?_)) | fail | fail)
  refine Stop.mk ?_
  rw [show (1 : Int).toNat = 1 from rfl, rdNs_one] at hq1 hr1 ⊢
  cases hrd : rdN true 1 bs with
  | none =>
    rw [hrd] at hq1 hr1
    simp only [Option.map_none, Option.isSome_none]
    repeat' (first | (refine is_pu ?_ (by rfl); first  | fail | refine hd_opTB ?_) | (refine is_pn ?_; first | refine hd_pn_nil ?_ | fail  | fail | refine hd_pnTB ?_ | (refine hd_pn_op rfl ?_)) | (refine is_co ?_; first | fail  | refine hd_storeA ?_ | refine hd_boxA (fun _ => ?_) | refine hd_alloc rfl (fun _ => ?_) | (apply hd_call; exact aX; infer_instance; exact aE; exact aN; rfl; (focus exact ref27_numbers 1 _ _ (by assumption) (by omega) (by omega) (by omega) (by omega)); (focus (rintro _ h1 hle1 ⟨q1, j1, d1, r1, i1, e1, rfl, hq1, hr1⟩; skip)))) | (refine is_ni ?_; first | (refine is_on ?_; first | refine pn_barA ?_ | refine pn_goA ?_ | refine pt_goA ?_  | refine ts_onA ?_) | refine hd_nil ?_) | (refine is_cw ?_; first | (refine is_rg ?_; first | refine hd_stop1 (id := 5) ?_ | fail | refine hd_draw follows_any (by decide +kernel) ?_) | (refine is_cd ?_; first | (refine hd_condT (by exact aX) (by (first | rfl | assumption | (simp only [decide_eq_true_eq, decide_eq_false_iff_not]; omega) | (simp only [hok]; rfl) | fail)) ?_) | (refine hd_condF (by exact aX) (by (first | rfl | assumption | (simp only [decide_eq_true_eq, decide_eq_false_iff_not]; omega) | (simp only [hok]; rfl) | fail)) ?_) | (refine hd_cond (by exact aX) (fun _ => ?_) (fun _ => ?_))) | refine hd_stop1 (id := 5) ?_ | refine wkA ?_) | refine wkA ?_ | (refine is_ch ?_; refine ch_opTB ?_) | ((first | apply hd_ok | apply ch_ok); (focus ((first | (apply OK.plain; rfl)  ); (first | (apply od_call; exact aX; infer_instance; exact aE; exact aN; (focus (first | fail))) ))); rfl; rfl) | ((first | apply hd_ok | apply ch_ok | (apply hd_pn_run; rfl; exact aM)); (focus ((first | (apply OK.plain; rfl; apply OD.of) | (apply OKp.plain; rfl)); (first | (apply od_pickX; exact aX; (focus (first | rfl | assumption | (simp only [decide_eq_true_eq, decide_eq_false_iff_not]; omega) | (simp only [hok]; rfl) | fail)); exact aX) | (apply od_pickY; exact aX; (focus (first | rfl | assumption | (simp only [decide_eq_true_eq, decide_eq_false_iff_not]; omega) | (simp only [hok]; rfl) | fail)); exact aX)))); rfl; rfl) | fail | exact tsA | fail | (refine ts_step rfl (fun HF h1 hle => ?_)) | fail | fail)
    ((repeat (refine hd_undefer (by first | exact .inl rfl | exact .inr rfl) (by exact aP) ?_)); apply hd_res0; (focus (first | exact .inl rfl | exact .inr rfl)); rfl; exact aR)
    exact ⟨none, 0, 0, none, 0, 0, by simp [cnt, hrd]; rfl, by simp [cnt, hrd]; exact SlR.nil _ _, by simp [cnt, hrd]; exact SlR.nil _ _⟩
  | some q =>
    obtain ⟨x, r⟩ := q
    rw [hrd] at hq1 hr1
    simp only [Option.map_some, Option.isSome_some, Option.getD_some] at hq1 hr1 ⊢
    obtain ⟨e1', i1', _, hb1⟩ := rdN_inv hb8 hrd
    have ix := i1' rfl
    have hjl := hq1.len
    simp only [List.length_singleton] at hjl
    have hrl := hr1.len
    have hrn : r.length ≤ n := by rw [← hl, e1']; simp
    obtain ⟨hpub, _, hptr⟩ := hq1.atI (i := 0) (y := x) rfl
    have htx : t * x.toNat ≤ 1000 := by rcases ht with rfl | rfl <;> omega
    have htm : (t : Int) * x = ((t * x.toNat : Nat) : Int) := by rw [Int.natCast_mul, Int.toNat_of_nonneg ix.1]
    repeat' (first | (refine is_pu ?_ (by rfl); first  | ((first | apply hd_ok | apply ch_ok | (apply hd_pn_run; rfl; exact aM)); (focus ((first | (apply OK.plain; rfl; apply OD.of) | (apply OKp.plain; rfl)); (first | (apply od_ar; exact aX; exact aX; (focus exact congrArg some htm); (focus exact inR_i64 (by omega) (by omega)))))); rfl; rfl) | refine hd_opTB ?_) | (refine is_pn ?_; first | refine hd_pn_nil ?_ | fail  | ((first | apply hd_ok | apply ch_ok | (apply hd_pn_run; rfl; exact aM)); (focus ((first | (apply OK.plain; rfl; apply OD.of) | (apply OKp.plain; rfl)); (first | (apply od_ar; exact aX; exact aX; (focus exact congrArg some htm); (focus exact inR_i64 (by omega) (by omega)))))); rfl; rfl) | refine hd_pnTB ?_ | (refine hd_pn_op rfl ?_)) | (refine is_co ?_; first | fail  | refine hd_storeA ?_ | refine hd_boxA (fun _ => ?_) | refine hd_alloc rfl (fun _ => ?_) | (apply hd_call; exact aX; infer_instance; exact aE; exact aN; rfl; (focus exact ref27_numbers (t * x.toNat) _ _ (by assumption) (by omega) (by omega) (by omega) (by omega)); (focus (rintro _ h1 hle1 ⟨q1, j1, d1, r1, i1, e1, rfl, hq1, hr1⟩; skip)))) | (refine is_ni ?_; first | (refine is_on ?_; first | refine pn_barA ?_ | refine pn_goA ?_ | refine pt_goA ?_  | refine ts_onA ?_) | refine hd_nil ?_) | (refine is_cw ?_; first | (refine is_rg ?_; first | refine hd_stop1 (id := 5) ?_ | fail | refine hd_draw follows_any (by decide +kernel) ?_) | (refine is_cd ?_; first | (refine hd_condT (by exact aX) (by (first | rfl | assumption | (simp only [decide_eq_true_eq, decide_eq_false_iff_not]; omega) | (simp only [hok]; rfl) | fail)) ?_) | (refine hd_condF (by exact aX) (by (first | rfl | assumption | (simp only [decide_eq_true_eq, decide_eq_false_iff_not]; omega) | (simp only [hok]; rfl) | fail)) ?_) | (refine hd_cond (by exact aX) (fun _ => ?_) (fun _ => ?_))) | refine hd_stop1 (id := 5) ?_ | refine wkA ?_) | refine wkA ?_ | (refine is_ch ?_; refine ch_opTB ?_) | ((first | apply hd_ok | apply ch_ok); (focus ((first | (apply OK.plain; rfl)  ); (first | (apply od_call; exact aX; infer_instance; exact aE; exact aN; (focus (first | fail))) ))); rfl; rfl) | ((first | apply hd_ok | apply ch_ok | (apply hd_pn_run; rfl; exact aM)); (focus ((first | (apply OK.plain; rfl; apply OD.of) | (apply OKp.plain; rfl)); (first | (apply od_pickX; exact aX; (focus (first | rfl | assumption | (simp only [decide_eq_true_eq, decide_eq_false_iff_not]; omega) | (simp only [hok]; rfl) | fail)); exact aX) | (apply od_pickY; exact aX; (focus (first | rfl | assumption | (simp only [decide_eq_true_eq, decide_eq_false_iff_not]; omega) | (simp only [hok]; rfl) | fail)); exact aX)))); rfl; rfl) | fail | exact tsA | fail | (refine ts_step rfl (fun HF h1 hle => ?_)) | fail | fail)
    refine Stop.mk ?_
    have hcn : cnt t bs = (rdNs 4 (t * x.toNat) r).map fun p => (p.1.map (· - 2147483648), p.2) := by simp [cnt, hrd]
    rw [show (4 : Int).toNat = 4 from rfl] at hq1 hr1 ⊢
    have hN : ∀ y ∈ ((rdNs 4 (t * x.toNat) r).map (·.1)).getD [], 0 ≤ y ∧ y < 256 ^ 4 := by
      cases h2 : rdNs 4 (t * x.toNat) r with
      | none => simp
      | some q => obtain ⟨l, r2⟩ := q; simpa using (rdNs_lt _ _ _ _ _ hb1 h2).2.1
    have hNl : (((rdNs 4 (t * x.toNat) r).map (·.1)).getD []).length ≤ 1000 := by
      cases h2 : rdNs 4 (t * x.toNat) r with
      | none => simp
      | some q => obtain ⟨l, r2⟩ := q; have := (rdNs_lt _ _ _ _ _ hb1 h2).1; simp; omega
    have f1 : (cnt t bs).isSome = (rdNs 4 (t * x.toNat) r).isSome := by rw [hcn]; simp
    have f2 : ((cnt t bs).map (·.1)).getD [] = (((rdNs 4 (t * x.toNat) r).map (·.1)).getD []).map (· - 2147483648) := by rw [hcn]; cases rdNs 4 (t * x.toNat) r <;> rfl
    have f3 : ((cnt t bs).map (·.2)).getD [] = ((rdNs 4 (t * x.toNat) r).map (·.2)).getD [] := by rw [hcn]; cases rdNs 4 (t * x.toNat) r <;> rfl
    unfold CntV
    rw [f1, f2, f3]
    generalize ((rdNs 4 (t * x.toNat) r).map (·.1)).getD [] = ns at *
    generalize ((rdNs 4 (t * x.toNat) r).map (·.2)).getD [] = rs at *
    generalize (rdNs 4 (t * x.toNat) r).isSome = ok at *
    have hql := hq1.len
    repeat' (first | (refine is_pu ?_ (by rfl); first  | fail | refine hd_opTB ?_) | (refine is_pn ?_; first | refine hd_pn_nil ?_ | fail  | fail | refine hd_pnTB ?_ | (refine hd_pn_op rfl ?_)) | (refine is_co ?_; first | fail  | refine hd_storeA ?_ | refine hd_boxA (fun _ => ?_) | refine hd_alloc rfl (fun _ => ?_) | (apply hd_call; exact aX; infer_instance; exact aE; exact aN; rfl; (focus exact ref27_numbers (t * x.toNat) _ _ (by assumption) (by omega) (by omega) (by omega) (by omega)); (focus (rintro _ h1 hle1 ⟨q1, j1, d1, r1, i1, e1, rfl, hq1, hr1⟩; skip)))) | (refine is_ni ?_; first | (refine is_on ?_; first | refine pn_barA ?_ | refine pn_goA ?_ | refine pt_goA ?_  | refine ts_onA ?_) | refine hd_nil ?_) | (refine is_cw ?_; first | (refine is_rg ?_; first | fail | fail | refine hd_draw follows_any (by decide +kernel) ?_) | (refine is_cd ?_; first | (refine hd_condT (by exact aX) (by (first | rfl | assumption | (simp only [decide_eq_true_eq, decide_eq_false_iff_not]; omega) | (simp only [hok]; rfl) | fail)) ?_) | (refine hd_condF (by exact aX) (by (first | rfl | assumption | (simp only [decide_eq_true_eq, decide_eq_false_iff_not]; omega) | (simp only [hok]; rfl) | fail)) ?_) | (refine hd_cond (by exact aX) (fun _ => ?_) (fun _ => ?_))) | fail | refine wkA ?_) | refine wkA ?_ | (refine is_ch ?_; refine ch_opTB ?_) | ((first | apply hd_ok | apply ch_ok); (focus ((first | (apply OK.plain; rfl)  ); (first | (apply od_call; exact aX; infer_instance; exact aE; exact aN; (focus (first | fail))) ))); rfl; rfl) | ((first | apply hd_ok | apply ch_ok | (apply hd_pn_run; rfl; exact aM)); (focus ((first | (apply OK.plain; rfl; apply OD.of) | (apply OKp.plain; rfl)); (first | (apply od_pickX; exact aX; (focus (first | rfl | assumption | (simp only [decide_eq_true_eq, decide_eq_false_iff_not]; omega) | (simp only [hok]; rfl) | fail)); exact aX) | (apply od_pickY; exact aX; (focus (first | rfl | assumption | (simp only [decide_eq_true_eq, decide_eq_false_iff_not]; omega) | (simp only [hok]; rfl) | fail)); exact aX)))); rfl; rfl) | fail | exact tsA | fail | (refine ts_step rfl (fun HF h1 hle => ?_)) | fail | fail)
    refine hd_nilrow 21 1 ?_
    refine hd_loopS (ι := Nat × Option Addr × Nat) (fun i => i.1 ≤ j1) (fun i => [(0, [], .slice r1 i1 e1), (8, [], .bool ok), (9, [], .slice q1 j1 d1), (10, [], .slice i.2.1 i.1 i.2.2), (11, [], .int .i64 i.1)]) (fun i => [row i.2.1 i.1 i.2.2 21 1 (vI .i32 ((ns.take i.1).map (· - 2147483648)))]) (fun _ => h1) (fun i => j1 - i.1) (0, none, 0) (by simp) (by exact aU) (fun w hw => inv_only (by exact aS) hw) (fun i hi => ?_)
    obtain ⟨i, pi, ci⟩ := i
    simp only at hi
    simp only
    refine hd_split (c := decide (i < j1)) (fun hlt => ?_) (fun hlt => ?_)
    · simp only [decide_eq_true_eq] at hlt
      obtain ⟨y, hy⟩ := get_of hql hlt
      obtain ⟨hpub2, hr2, hptr2⟩ := hq1.atI hy
      have hyN := hN y (List.mem_of_getElem? hy)
      repeat' (first | (refine is_pu ?_ (by rfl); first  | fail | refine hd_opTB ?_) | (refine is_pn ?_; first | refine hd_pn_nil ?_ | fail  | fail | refine hd_pnTB ?_ | (refine hd_pn_op rfl ?_)) | (refine is_co ?_; first | fail  | refine hd_storeA ?_ | refine hd_boxA (fun _ => ?_) | refine hd_alloc rfl (fun _ => ?_) | refine hd_makeA (fun _ => ?_) | refine hd_copyA ?_ | refine hd_litA (fun _ => ?_) | refine hd_appendA (fun _ _ => ?_)) | (refine is_ni ?_; first | (refine is_on ?_; first | refine pn_barA ?_ | refine pn_goA ?_ | refine pt_goA ?_  | refine ts_onA ?_) | refine hd_nil ?_) | (refine is_cw ?_; first | (refine is_rg ?_; first | fail | fail | refine hd_draw follows_any (by decide +kernel) ?_) | (refine is_cd ?_; first | (refine hd_condT (by exact aX) (by (first | rfl | assumption | (simp only [decide_eq_true_eq, decide_eq_false_iff_not]; omega) | (simp only [hok]; rfl) | fail)) ?_) | (refine hd_condF (by exact aX) (by (first | rfl | assumption | (simp only [decide_eq_true_eq, decide_eq_false_iff_not]; omega) | (simp only [hok]; rfl) | fail)) ?_) | (refine hd_cond (by exact aX) (fun _ => ?_) (fun _ => ?_))) | fail | refine wkA ?_) | refine wkA ?_ | (refine is_ch ?_; refine ch_opTB ?_) | ((first | apply hd_ok | apply ch_ok); (focus ((first | (apply OK.plain; rfl)  ); (first | (apply od_call; exact aX; infer_instance; exact aE; exact aN; (focus (first | exact ref_Signed4 _ _ (by assumption)))) ))); rfl; rfl) | ((first | apply hd_ok | apply ch_ok | (apply hd_pn_run; rfl; exact aM)); (focus ((first | (apply OK.plain; rfl; apply OD.of) | (apply OKp.plain; rfl)); (first | (apply od_pickX; exact aX; (focus (first | rfl | assumption | (simp only [decide_eq_true_eq, decide_eq_false_iff_not]; omega) | (simp only [hok]; rfl) | fail)); exact aX) | (apply od_pickY; exact aX; (focus (first | rfl | assumption | (simp only [decide_eq_true_eq, decide_eq_false_iff_not]; omega) | (simp only [hok]; rfl) | fail)); exact aX)))); rfl; rfl) | fail | exact tsA | fail | (refine ts_step rfl (fun HF h1 hle => ?_)) | fail | fail)
      rename_i g p3 c3
      refine hd_again (i + 1, p3, c3) (by simp only; omega) (by simp only; omega) (by exact aU) (by simp only [take_step hy, List.map_append, List.map_singleton, vI_append]; exact fun w hw => inv_only (by exact aS) hw)
    · simp only [decide_eq_false_iff_not] at hlt
      have hij : i = j1 := by omega
      subst hij
      rw [List.take_of_length_le (by omega)]
      repeat' (first | (refine is_pu ?_ (by rfl); first  | fail | refine hd_opTB ?_) | (refine is_pn ?_; first | refine hd_pn_nil ?_ | fail  | fail | refine hd_pnTB ?_ | (refine hd_pn_op rfl ?_)) | (refine is_co ?_; first | fail  | refine hd_storeA ?_ | refine hd_boxA (fun _ => ?_) | refine hd_alloc rfl (fun _ => ?_) | refine hd_makeA (fun _ => ?_) | refine hd_copyA ?_ | refine hd_litA (fun _ => ?_) | refine hd_appendA (fun _ _ => ?_)) | (refine is_ni ?_; first | (refine is_on ?_; first | refine pn_barA ?_ | refine pn_goA ?_ | refine pt_goA ?_  | refine ts_onA ?_) | refine hd_nil ?_) | (refine is_cw ?_; first | (refine is_rg ?_; first | fail | fail | refine hd_draw follows_any (by decide +kernel) ?_) | (refine is_cd ?_; first | (refine hd_condT (by exact aX) (by (first | rfl | assumption | (simp only [decide_eq_true_eq, decide_eq_false_iff_not]; omega) | (simp only [hok]; rfl) | fail)) ?_) | (refine hd_condF (by exact aX) (by (first | rfl | assumption | (simp only [decide_eq_true_eq, decide_eq_false_iff_not]; omega) | (simp only [hok]; rfl) | fail)) ?_) | (refine hd_cond (by exact aX) (fun _ => ?_) (fun _ => ?_))) | fail | refine wkA ?_) | refine wkA ?_ | (refine is_ch ?_; refine ch_opTB ?_) | ((first | apply hd_ok | apply ch_ok); (focus ((first | (apply OK.plain; rfl)  ); (first | (apply od_call; exact aX; infer_instance; exact aE; exact aN; (focus (first | exact ref_Signed4 _ _ (by assumption)))) ))); rfl; rfl) | ((first | apply hd_ok | apply ch_ok | (apply hd_pn_run; rfl; exact aM)); (focus ((first | (apply OK.plain; rfl; apply OD.of) | (apply OKp.plain; rfl)); (first | (apply od_pickX; exact aX; (focus (first | rfl | assumption | (simp only [decide_eq_true_eq, decide_eq_false_iff_not]; omega) | (simp only [hok]; rfl) | fail)); exact aX) | (apply od_pickY; exact aX; (focus (first | rfl | assumption | (simp only [decide_eq_true_eq, decide_eq_false_iff_not]; omega) | (simp only [hok]; rfl) | fail)); exact aX)))); rfl; rfl) | fail | exact tsA | fail | (refine ts_step rfl (fun HF h1 hle => ?_)) | fail | fail)
      refine hd_pubI (k := .i32) (p := pi) (ns.map (· - 2147483648)) (by exact aP) rfl (fun z hz => ?_) (by simp [hql]) (by omega) (fun hq hleq hsq => ?_)
      · obtain ⟨y, hy, rfl⟩ := List.mem_map.1 hz
        have := hN y hy
        exact inR_i32 (by omega) (by omega)
      · ((repeat (refine hd_undefer (by first | exact .inl rfl | exact .inr rfl) (by exact aP) ?_)); apply hd_res0; (focus (first | exact .inl rfl | exact .inr rfl)); rfl; exact aR)
        exact ⟨_, _, _, _, _, _, rfl, hsq, hr1.mono hleq⟩
end Go.Proofs.Ytikkkfamflmgeaa
