/- What package script's reader takes. -/
import Derived.Test.YtikkkfamflmgeaaStR
namespace Go.Proofs.Ytikkkfamflmgeaa
open Go Go.GV
attribute [local irreducible] cw Go.GV.SpecM Go.GV.wpList Exit.then Exit.inBlock Go.GV.bodyPost wpPl wpPm wpPn TS rnd rPost YieldsB wpPT ptK
set_option maxRecDepth 10000
set_option maxHeartbeats 4000000
set_option linter.unusedVariables false
set_option linter.unusedSimpArgs false
/-- A reader's place, and whether bytes were missing. -/
abbrev RS := Nat × Bool
def tkS (bs : List Int) (s : RS) (t : Bool) (K : Nat) : RS := if (!t || s.2) = true then s else if bs.length - s.1 < K then (s.1, true) else (s.1 + K, false)
def tkX (bs : List Int) (s : RS) (t : Bool) (K : Nat) : Int := if (!t || s.2) = true then 0 else if bs.length - s.1 < K then 0 else num ((bs.drop s.1).take K)
def rst (bs : List Int) (s : RS) : Option (List Int) := bif s.2 then none else some (bs.drop s.1)
theorem tk_rst {bs : List Int} {s : RS} (t : Bool) (K : Nat) (hs : s.1 ≤ bs.length) : rst bs (tkS bs s t K) = ((rst bs s).bind (rdN t K)).map (·.2) := by
  obtain ⟨a, l⟩ := s
  cases t <;> cases l <;> simp [rst, tkS, rdN]
  split <;> simp_all
theorem tk_num {bs : List Int} {s : RS} (t : Bool) (K : Nat) (hs : s.1 ≤ bs.length) : tkX bs s t K = (((rst bs s).bind (rdN t K)).map (·.1)).getD 0 := by
  obtain ⟨a, l⟩ := s
  cases t <;> cases l <;> simp [rst, tkX, rdN]
  split <;> simp_all
theorem tkS_le {bs : List Int} {s : RS} (t : Bool) (K : Nat) (hs : s.1 ≤ bs.length) : (tkS bs s t K).1 ≤ bs.length := by
  unfold tkS
  split
  · exact hs
  · split <;> simp only <;> omega
theorem tkX_lt {bs : List Int} (hb : B8 bs) (s : RS) (t : Bool) (K : Nat) : 0 ≤ tkX bs s t K ∧ tkX bs s t K < 256 ^ K := by
  have hp : (0 : Int) < 256 ^ K := Int.pow_pos (by omega)
  unfold tkX
  split
  · exact ⟨by omega, hp⟩
  · split
    · exact ⟨by omega, hp⟩
    · have h1 := num_lt ((hb.drop s.1).take K)
      have h2 : ((bs.drop s.1).take K).length = K := by simp; omega
      rw [h2] at h1
      exact h1
theorem tkX_u8 {bs : List Int} (hb : B8 bs) (s : RS) (t : Bool) : inR .u8 (tkX bs s t 1) := by have := tkX_lt hb s t 1; exact ⟨by omega, by omega⟩
theorem tkX_i64 {bs : List Int} (hb : B8 bs) (s : RS) (t : Bool) : inR .i64 (tkX bs s t 2) := by have := tkX_lt hb s t 2; exact ⟨by omega, by omega⟩
theorem tkX_u32 {bs : List Int} (hb : B8 bs) (s : RS) (t : Bool) : inR .u32 (tkX bs s t 4) := by have := tkX_lt hb s t 4; exact ⟨by omega, by omega⟩
theorem tkX_u64 {bs : List Int} (hb : B8 bs) (s : RS) (t : Bool) : inR .u64 (tkX bs s t 4) := by have := tkX_lt hb s t 4; exact ⟨by omega, by omega⟩
/-- A reader's cells. -/
abbrev rdC (p : Option Addr) (n c : Nat) (s : RS) : List Value := [.slice p n c, .int .i64 s.1, .bool s.2]
abbrev rdB (b : Nat) (p : Option Addr) (n c : Nat) (s : RS) : HE := box b (rdC p n c s) 81

theorem reader_take {p : Option Addr} {n c b : Nat} {bs : List Int} (s : RS) (t : Bool) (k : Int) (h : PH) (hs : Bs h p n c bs) (hn : n ≤ 60000) (h1 : 1 ≤ k) (h8 : k ≤ 8) (hat : s.1 ≤ bs.length) :
    SpecM Try.prog 53 #[.pointer (some ⟨b, 0, none⟩), .bool t, .int .i64 k] h [rdB b p n c s] fun v h' Ho => v = .int .u64 (tkX bs s t k.toNat) ∧ Ho = [rdB b p n c (tkS bs s t k.toNat)] := by
  have hl := hs.len
  have hcap := hs.cap
  obtain ⟨a, lk⟩ := s
  simp only at hat
  refine spec_enter (args := [_, _, _]) Try.func53 rfl Try.ntmps53 rfl (fun w l => ?_)
  refine hd_split (c := t && !lk) (fun ht => ?_) (fun ht => ?_)
  · simp only [Bool.and_eq_true, Bool.not_eq_true'] at ht
    obtain ⟨rfl, rfl⟩ := ht
    obtain ⟨K, rfl⟩ := Int.eq_ofNat_of_zero_le (a := k) (by omega)
    refine hd_split (c := decide (n - a < K)) (fun hlt => ?_) (fun hlt => ?_)
    · simp only [decide_eq_true_eq] at hlt
      repeat' (first | (refine is_pu ?_ (by rfl); first  | fail | refine hd_opAB ?_) | (refine is_pn ?_; first | refine hd_pn_nil ?_ | fail  | fail | refine hd_pnAB ?_ | (refine hd_pn_op rfl ?_)) | (refine is_co ?_; first | fail  | refine hd_storeA ?_ | refine hd_boxA (fun _ => ?_) | refine hd_alloc rfl (fun _ => ?_) | (apply hd_callM (Hi := []); exact aX; infer_instance; exact aE; exact aN; rfl; (focus exact fun _ hw => hw); (focus exact wire_Take _ _ hsub (by omega)); (focus (rintro _ h1 _ hle1 ⟨p1, m1, c1, rfl, hm1, rfl⟩; skip)))) | (refine is_ni ?_; first | (refine is_on ?_; first | refine pn_barA ?_ | refine pn_goA ?_ | refine pt_goA ?_  | refine ts_onA ?_) | refine hd_nil ?_) | (refine is_cw ?_; first | (refine is_rg ?_; first | fail | (refine hd_planT (id := 3) _ [] [.one 0 true, .one 1 true, .one 2 true, .one 3 true, .one 4 true, .one 5 true, .one 6 true, .one 7 true, .one 8 true, .one 9 true, .one 10 true, .one 11 true] follows_any (by kernel_rfl) rfl (by kernel_rfl) rfl ?_) | (refine hd_planT (id := 6) _ [] [.one 0 true, .one 1 true, .one 2 true, .one 3 true, .one 4 true, .one 5 true, .one 6 true, .one 7 true, .one 8 true, .one 9 true, .one 10 true, .one 11 true, .one 12 true, .one 13 true, .one 14 true, .one 15 true, .one 16 false, .one 17 true, .one 18 true, .one 19 true, .one 20 true, .one 21 true, .one 22 true, .one 23 true] follows_any (by kernel_rfl) rfl (by kernel_rfl) rfl ?_) | refine hd_draw follows_any (by decide +kernel) ?_) | (refine is_cd ?_; first | (refine hd_condT (by exact aX) (by (first | rfl | assumption | (simp only [decide_eq_true_eq, decide_eq_false_iff_not]; omega) | (simp [*]; done) | (simp; omega) | fail)) ?_) | (refine hd_condF (by exact aX) (by (first | rfl | assumption | (simp only [decide_eq_true_eq, decide_eq_false_iff_not]; omega) | (simp [*]; done) | (simp; omega) | fail)) ?_) | (refine hd_cond (by exact aX) (fun _ => ?_) (fun _ => ?_))) | fail | refine wkA ?_) | refine wkA ?_ | (refine is_ch ?_; refine ch_opAB ?_) | ((first | apply hd_ok | apply ch_ok); (focus ((first | (apply OK.plain; rfl) | (apply OK.guarded; rfl; rfl; (intro hg; (try have hk := hg.2); (try have hl := hg.2.2); (try have hm := hg.2.2.2)))); (first | (apply od_call; exact aX; infer_instance; exact aE; exact aN; (focus (first | fail))) ))); rfl; rfl) | ((first | apply hd_ok | apply ch_ok | (apply hd_pn_run; rfl; exact aM)); (focus ((first | (apply OK.plain; rfl; apply OD.of) | (apply OKp.plain; rfl)); (first | (apply od_pickX; exact aX; (focus (first | rfl | assumption | (simp only [decide_eq_true_eq, decide_eq_false_iff_not]; omega) | (simp [*]; done) | (simp; omega) | fail)); exact aX) | (apply od_pickY; exact aX; (focus (first | rfl | assumption | (simp only [decide_eq_true_eq, decide_eq_false_iff_not]; omega) | (simp [*]; done) | (simp; omega) | fail)); exact aX)))); rfl; rfl) | fail | exact tsA | fail | (refine ts_step rfl (fun HF h1 hle => ?_)) | fail | fail)
      ((repeat (refine hd_undefer (by first | exact .inl rfl | exact .inr rfl) (by exact aP) ?_)); apply hd_resS (Hi := [box b _ _]); (focus (first | exact .inl rfl | exact .inr rfl)); rfl; exact aR; exact aS)
      exact ⟨by simp [tkX, hl, hlt]; rfl, by simp [tkS, hl, hlt]⟩
    · simp only [decide_eq_false_iff_not] at hlt
      have hsub := hs.sub (lo := a) (hi := a + K) (by omega) (by omega)
      have ed : (bs.take (a + K)).drop a = (bs.drop a).take K := by rw [List.drop_take, Nat.add_sub_cancel_left]
      have eo : takOk ((bs.drop a).take K) (K : Int) = true := by simp [takOk]; omega
      repeat' (first | (refine is_pu ?_ (by rfl); first  | fail | refine hd_opAB ?_) | (refine is_pn ?_; first | refine hd_pn_nil ?_ | fail  | fail | refine hd_pnAB ?_ | (refine hd_pn_op rfl ?_)) | (refine is_co ?_; first | fail  | refine hd_storeA ?_ | refine hd_boxA (fun _ => ?_) | refine hd_alloc rfl (fun _ => ?_) | (apply hd_callM (Hi := []); exact aX; infer_instance; exact aE; exact aN; rfl; (focus exact fun _ hw => hw); (focus exact wire_Take _ _ hsub (by omega)); (focus (rintro _ h1 _ hle1 ⟨p1, m1, c1, rfl, hm1, rfl⟩; skip)))) | (refine is_ni ?_; first | (refine is_on ?_; first | refine pn_barA ?_ | refine pn_goA ?_ | refine pt_goA ?_  | refine ts_onA ?_) | refine hd_nil ?_) | (refine is_cw ?_; first | (refine is_rg ?_; first | fail | (refine hd_planT (id := 3) _ [] [.one 0 true, .one 1 true, .one 2 true, .one 3 true, .one 4 true, .one 5 true, .one 6 true, .one 7 true, .one 8 true, .one 9 true, .one 10 true, .one 11 true] follows_any (by kernel_rfl) rfl (by kernel_rfl) rfl ?_) | (refine hd_planT (id := 6) _ [] [.one 0 true, .one 1 true, .one 2 true, .one 3 true, .one 4 true, .one 5 true, .one 6 true, .one 7 true, .one 8 true, .one 9 true, .one 10 true, .one 11 true, .one 12 true, .one 13 true, .one 14 true, .one 15 true, .one 16 false, .one 17 true, .one 18 true, .one 19 true, .one 20 true, .one 21 true, .one 22 true, .one 23 true] follows_any (by kernel_rfl) rfl (by kernel_rfl) rfl ?_) | refine hd_draw follows_any (by decide +kernel) ?_) | (refine is_cd ?_; first | (refine hd_condT (by exact aX) (by (first | rfl | assumption | (simp only [decide_eq_true_eq, decide_eq_false_iff_not]; omega) | (simp [*]; done) | (simp; omega) | fail)) ?_) | (refine hd_condF (by exact aX) (by (first | rfl | assumption | (simp only [decide_eq_true_eq, decide_eq_false_iff_not]; omega) | (simp [*]; done) | (simp; omega) | fail)) ?_) | (refine hd_cond (by exact aX) (fun _ => ?_) (fun _ => ?_))) | fail | refine wkA ?_) | refine wkA ?_ | (refine is_ch ?_; refine ch_opAB ?_) | ((first | apply hd_ok | apply ch_ok); (focus ((first | (apply OK.plain; rfl) | (apply OK.guarded; rfl; rfl; (intro hg; (try have hk := hg.2); (try have hl := hg.2.2); (try have hm := hg.2.2.2)))); (first | (apply od_call; exact aX; infer_instance; exact aE; exact aN; (focus (first | fail))) ))); rfl; rfl) | ((first | apply hd_ok | apply ch_ok | (apply hd_pn_run; rfl; exact aM)); (focus ((first | (apply OK.plain; rfl; apply OD.of) | (apply OKp.plain; rfl)); (first | (apply od_pickX; exact aX; (focus (first | rfl | assumption | (simp only [decide_eq_true_eq, decide_eq_false_iff_not]; omega) | (simp [*]; done) | (simp; omega) | fail)); exact aX) | (apply od_pickY; exact aX; (focus (first | rfl | assumption | (simp only [decide_eq_true_eq, decide_eq_false_iff_not]; omega) | (simp [*]; done) | (simp; omega) | fail)); exact aX)))); rfl; rfl) | fail | exact tsA | fail | (refine ts_step rfl (fun HF h1 hle => ?_)) | fail | fail)
      ((repeat (refine hd_undefer (by first | exact .inl rfl | exact .inr rfl) (by exact aP) ?_)); apply hd_resS (Hi := [box b _ _]); (focus (first | exact .inl rfl | exact .inr rfl)); rfl; exact aR; exact aS)
      refine ⟨?_, ?_⟩
      · rw [ed, takN, if_pos eo]
        simp only [tkX, Bool.not_true, Bool.or_self, Bool.false_eq_true, if_false, Int.toNat_natCast, hl]
        rw [if_neg hlt, List.take_take, Nat.min_self]; rfl
      · simp only [tkS, Bool.not_true, Bool.or_self, Bool.false_eq_true, if_false, Int.toNat_natCast, hl]
        rw [if_neg hlt]; rfl
  · have hx : tkX bs (a, lk) t k.toNat = 0 := by unfold tkX; rw [if_pos (by cases t <;> cases lk <;> simp_all)]
    have hx2 : tkS bs (a, lk) t k.toNat = (a, lk) := by unfold tkS; rw [if_pos (by cases t <;> cases lk <;> simp_all)]
    cases t
    · repeat' (first | (refine is_pu ?_ (by rfl); first  | fail | refine hd_opAB ?_) | (refine is_pn ?_; first | refine hd_pn_nil ?_ | fail  | fail | refine hd_pnAB ?_ | (refine hd_pn_op rfl ?_)) | (refine is_co ?_; first | fail  | refine hd_storeA ?_ | refine hd_boxA (fun _ => ?_) | refine hd_alloc rfl (fun _ => ?_) | (apply hd_callM (Hi := []); exact aX; infer_instance; exact aE; exact aN; rfl; (focus exact fun _ hw => hw); (focus exact wire_Take _ _ hsub (by omega)); (focus (rintro _ h1 _ hle1 ⟨p1, m1, c1, rfl, hm1, rfl⟩; skip)))) | (refine is_ni ?_; first | (refine is_on ?_; first | refine pn_barA ?_ | refine pn_goA ?_ | refine pt_goA ?_  | refine ts_onA ?_) | refine hd_nil ?_) | (refine is_cw ?_; first | (refine is_rg ?_; first | fail | (refine hd_planT (id := 3) _ [] [.one 0 true, .one 1 true, .one 2 true, .one 3 true, .one 4 true, .one 5 true, .one 6 true, .one 7 true, .one 8 true, .one 9 true, .one 10 true, .one 11 true] follows_any (by kernel_rfl) rfl (by kernel_rfl) rfl ?_) | (refine hd_planT (id := 6) _ [] [.one 0 true, .one 1 true, .one 2 true, .one 3 true, .one 4 true, .one 5 true, .one 6 true, .one 7 true, .one 8 true, .one 9 true, .one 10 true, .one 11 true, .one 12 true, .one 13 true, .one 14 true, .one 15 true, .one 16 false, .one 17 true, .one 18 true, .one 19 true, .one 20 true, .one 21 true, .one 22 true, .one 23 true] follows_any (by kernel_rfl) rfl (by kernel_rfl) rfl ?_) | refine hd_draw follows_any (by decide +kernel) ?_) | (refine is_cd ?_; first | (refine hd_condT (by exact aX) (by (first | rfl | assumption | (simp only [decide_eq_true_eq, decide_eq_false_iff_not]; omega) | (simp [*]; done) | (simp; omega) | fail)) ?_) | (refine hd_condF (by exact aX) (by (first | rfl | assumption | (simp only [decide_eq_true_eq, decide_eq_false_iff_not]; omega) | (simp [*]; done) | (simp; omega) | fail)) ?_) | (refine hd_cond (by exact aX) (fun _ => ?_) (fun _ => ?_))) | fail | refine wkA ?_) | refine wkA ?_ | (refine is_ch ?_; refine ch_opAB ?_) | ((first | apply hd_ok | apply ch_ok); (focus ((first | (apply OK.plain; rfl) | (apply OK.guarded; rfl; rfl; (intro hg; (try have hk := hg.2); (try have hl := hg.2.2); (try have hm := hg.2.2.2)))); (first | (apply od_call; exact aX; infer_instance; exact aE; exact aN; (focus (first | fail))) ))); rfl; rfl) | ((first | apply hd_ok | apply ch_ok | (apply hd_pn_run; rfl; exact aM)); (focus ((first | (apply OK.plain; rfl; apply OD.of) | (apply OKp.plain; rfl)); (first | (apply od_pickX; exact aX; (focus (first | rfl | assumption | (simp only [decide_eq_true_eq, decide_eq_false_iff_not]; omega) | (simp [*]; done) | (simp; omega) | fail)); exact aX) | (apply od_pickY; exact aX; (focus (first | rfl | assumption | (simp only [decide_eq_true_eq, decide_eq_false_iff_not]; omega) | (simp [*]; done) | (simp; omega) | fail)); exact aX)))); rfl; rfl) | fail | exact tsA | fail | (refine ts_step rfl (fun HF h1 hle => ?_)) | fail | fail)
      ((repeat (refine hd_undefer (by first | exact .inl rfl | exact .inr rfl) (by exact aP) ?_)); apply hd_resS (Hi := [box b _ _]); (focus (first | exact .inl rfl | exact .inr rfl)); rfl; exact aR; exact aS)
      exact ⟨by rw [hx]; rfl, by rw [hx2]⟩
    · have : lk = true := by cases lk <;> simp_all
      subst this
      repeat' (first | (refine is_pu ?_ (by rfl); first  | fail | refine hd_opAB ?_) | (refine is_pn ?_; first | refine hd_pn_nil ?_ | fail  | fail | refine hd_pnAB ?_ | (refine hd_pn_op rfl ?_)) | (refine is_co ?_; first | fail  | refine hd_storeA ?_ | refine hd_boxA (fun _ => ?_) | refine hd_alloc rfl (fun _ => ?_) | (apply hd_callM (Hi := []); exact aX; infer_instance; exact aE; exact aN; rfl; (focus exact fun _ hw => hw); (focus exact wire_Take _ _ hsub (by omega)); (focus (rintro _ h1 _ hle1 ⟨p1, m1, c1, rfl, hm1, rfl⟩; skip)))) | (refine is_ni ?_; first | (refine is_on ?_; first | refine pn_barA ?_ | refine pn_goA ?_ | refine pt_goA ?_  | refine ts_onA ?_) | refine hd_nil ?_) | (refine is_cw ?_; first | (refine is_rg ?_; first | fail | (refine hd_planT (id := 3) _ [] [.one 0 true, .one 1 true, .one 2 true, .one 3 true, .one 4 true, .one 5 true, .one 6 true, .one 7 true, .one 8 true, .one 9 true, .one 10 true, .one 11 true] follows_any (by kernel_rfl) rfl (by kernel_rfl) rfl ?_) | (refine hd_planT (id := 6) _ [] [.one 0 true, .one 1 true, .one 2 true, .one 3 true, .one 4 true, .one 5 true, .one 6 true, .one 7 true, .one 8 true, .one 9 true, .one 10 true, .one 11 true, .one 12 true, .one 13 true, .one 14 true, .one 15 true, .one 16 false, .one 17 true, .one 18 true, .one 19 true, .one 20 true, .one 21 true, .one 22 true, .one 23 true] follows_any (by kernel_rfl) rfl (by kernel_rfl) rfl ?_) | refine hd_draw follows_any (by decide +kernel) ?_) | (refine is_cd ?_; first | (refine hd_condT (by exact aX) (by (first | rfl | assumption | (simp only [decide_eq_true_eq, decide_eq_false_iff_not]; omega) | (simp [*]; done) | (simp; omega) | fail)) ?_) | (refine hd_condF (by exact aX) (by (first | rfl | assumption | (simp only [decide_eq_true_eq, decide_eq_false_iff_not]; omega) | (simp [*]; done) | (simp; omega) | fail)) ?_) | (refine hd_cond (by exact aX) (fun _ => ?_) (fun _ => ?_))) | fail | refine wkA ?_) | refine wkA ?_ | (refine is_ch ?_; refine ch_opAB ?_) | ((first | apply hd_ok | apply ch_ok); (focus ((first | (apply OK.plain; rfl) | (apply OK.guarded; rfl; rfl; (intro hg; (try have hk := hg.2); (try have hl := hg.2.2); (try have hm := hg.2.2.2)))); (first | (apply od_call; exact aX; infer_instance; exact aE; exact aN; (focus (first | fail))) ))); rfl; rfl) | ((first | apply hd_ok | apply ch_ok | (apply hd_pn_run; rfl; exact aM)); (focus ((first | (apply OK.plain; rfl; apply OD.of) | (apply OKp.plain; rfl)); (first | (apply od_pickX; exact aX; (focus (first | rfl | assumption | (simp only [decide_eq_true_eq, decide_eq_false_iff_not]; omega) | (simp [*]; done) | (simp; omega) | fail)); exact aX) | (apply od_pickY; exact aX; (focus (first | rfl | assumption | (simp only [decide_eq_true_eq, decide_eq_false_iff_not]; omega) | (simp [*]; done) | (simp; omega) | fail)); exact aX)))); rfl; rfl) | fail | exact tsA | fail | (refine ts_step rfl (fun HF h1 hle => ?_)) | fail | fail)
      ((repeat (refine hd_undefer (by first | exact .inl rfl | exact .inr rfl) (by exact aP) ?_)); apply hd_resS (Hi := [box b _ _]); (focus (first | exact .inl rfl | exact .inr rfl)); rfl; exact aR; exact aS)
      exact ⟨by rw [hx]; rfl, by rw [hx2]⟩
def txX (bs : List Int) (s : RS) : List Int := if s.2 = true then [] else tkT (bs.drop s.1) 65535
def txS (bs : List Int) (s : RS) : RS := if s.2 = true then s else if tkOk (bs.drop s.1) 65535 = true then (s.1 + (2 + (tkT (bs.drop s.1) 65535).length), false) else (s.1, true)
theorem tkT_lenle {b : List Int} (h : tkOk b 65535 = true) : 2 + (tkT b 65535).length ≤ b.length ∧ tkR b 65535 = b.drop (2 + (tkT b 65535).length) := by
  have h' := h
  simp only [tkOk, Bool.and_eq_true, decide_eq_true_eq] at h'
  have hl : (tkT b 65535).length = (two b).toNat := by
    simp only [tkT, h, if_true, List.length_take, List.length_drop]; omega
  refine ⟨by omega, ?_⟩
  rw [hl]
  simp only [tkR, h, if_true, List.drop_drop]
theorem tx_le {bs : List Int} {s : RS} (hs : s.1 ≤ bs.length) : (txS bs s).1 ≤ bs.length := by
  unfold txS
  split
  · exact hs
  · split
    · rename_i h; have := (tkT_lenle h).1; simp only [List.length_drop] at this ⊢; omega
    · exact hs
theorem tx_rst {bs : List Int} {s : RS} (hs : s.1 ≤ bs.length) : (rst bs s).bind (rdText true) = (rst bs (txS bs s)).map fun r => (txX bs s, r) := by
  obtain ⟨a, l⟩ := s
  cases l
  · simp only [rst, txS, txX, cond_false, Option.bind_some, rdText, if_true, Bool.false_eq_true, if_false]
    split
    · rename_i h
      simp only [cond_false, Option.map_some]
      rw [(tkT_lenle h).2, List.drop_drop]
    · rfl
  · simp [rst, txS]
theorem reader_text {p : Option Addr} {n c b : Nat} {bs : List Int} (s : RS) (h : PH) (hs : Bs h p n c bs) (hn : n ≤ 60000) (hat : s.1 ≤ bs.length) :
    SpecM Try.prog 55 #[.pointer (some ⟨b, 0, none⟩)] h [rdB b p n c s] fun v h' Ho => ∃ p' c', v = .slice p' (txX bs s).length c' ∧ Ho = [rdB b p n c (txS bs s), row8 p' (txX bs s).length c' (txX bs s)] := by
  have hl := hs.len
  have hcap := hs.cap
  obtain ⟨a, lk⟩ := s
  simp only at hat
  refine spec_enter (args := [_]) Try.func55 rfl Try.ntmps55 rfl (fun w l => ?_)
  cases lk
  · have hi : (min (n : Int) (a + 2 + 65535)).toNat = n := by omega
    have hsub := hs.sub (lo := a) (hi := (min (n : Int) (a + 2 + 65535)).toNat) (by omega) (by omega)
    have ed : (bs.take (min (n : Int) (a + 2 + 65535)).toNat).drop a = bs.drop a := by rw [hi, ← hl, List.take_length]
    rw [ed] at hsub
    refine hd_split (c := tkOk (bs.drop a) 65535) (fun ho => ?_) (fun ho => ?_)
    · have hll := (tkT_lenle ho).1
      simp only [List.length_drop] at hll
      repeat' (first | (refine is_pu ?_ (by rfl); first  | fail | refine hd_opAB ?_) | (refine is_pn ?_; first | refine hd_pn_nil ?_ | fail  | fail | refine hd_pnAB ?_ | (refine hd_pn_op rfl ?_)) | (refine is_co ?_; first | fail  | refine hd_storeA ?_ | refine hd_boxA (fun _ => ?_) | refine hd_alloc rfl (fun _ => ?_) | (apply hd_callM (Hi := []); exact aX; infer_instance; exact aE; exact aN; rfl; (focus exact fun _ hw => hw); (focus exact wire_TakeText _ _ hsub (by omega)); (focus (rintro _ h1 _ hle1 ⟨p1, m1, c1, q1, j1, d1, rfl, hm1, hj1, rfl⟩; skip)))) | (refine is_ni ?_; first | (refine is_on ?_; first | refine pn_barA ?_ | refine pn_goA ?_ | refine pt_goA ?_  | refine ts_onA ?_) | refine hd_nil ?_) | (refine is_cw ?_; first | (refine is_rg ?_; first | fail | (refine hd_planT (id := 3) _ [] [.one 0 true, .one 1 true, .one 2 true, .one 3 true, .one 4 true, .one 5 true, .one 6 true, .one 7 true, .one 8 true, .one 9 true, .one 10 true, .one 11 true, .one 12 true, .one 13 true, .one 14 true, .one 15 true, .one 16 true, .one 17 true, .one 18 true, .one 19 true, .one 20 true, .one 21 false, .one 22 true, .one 23 true, .one 24 true, .one 25 true, .one 26 true, .one 27 true, .one 28 true] follows_any (by kernel_rfl) rfl (by kernel_rfl) rfl ?_) | refine hd_draw follows_any (by decide +kernel) ?_) | (refine is_cd ?_; first | (refine hd_condT (by exact aX) (by (first | rfl | assumption | (simp only [decide_eq_true_eq, decide_eq_false_iff_not]; omega) | (simp [*]; done) | (simp; omega) | fail)) ?_) | (refine hd_condF (by exact aX) (by (first | rfl | assumption | (simp only [decide_eq_true_eq, decide_eq_false_iff_not]; omega) | (simp [*]; done) | (simp; omega) | fail)) ?_) | (refine hd_cond (by exact aX) (fun _ => ?_) (fun _ => ?_))) | fail | refine wkA ?_) | refine wkA ?_ | (refine is_ch ?_; refine ch_opAB ?_) | ((first | apply hd_ok | apply ch_ok); (focus ((first | (apply OK.plain; rfl) | (apply OK.guarded; rfl; rfl; (intro hg; (try have hk := hg.2); (try have hl := hg.2.2); (try have hm := hg.2.2.2)))); (first | (apply od_call; exact aX; infer_instance; exact aE; exact aN; (focus (first | fail))) ))); rfl; rfl) | ((first | apply hd_ok | apply ch_ok | (apply hd_pn_run; rfl; exact aM)); (focus ((first | (apply OK.plain; rfl; apply OD.of) | (apply OKp.plain; rfl)); (first | (apply od_pickX; exact aX; (focus (first | rfl | assumption | (simp only [decide_eq_true_eq, decide_eq_false_iff_not]; omega) | (simp [*]; done) | (simp; omega) | fail)); exact aX) | (apply od_pickY; exact aX; (focus (first | rfl | assumption | (simp only [decide_eq_true_eq, decide_eq_false_iff_not]; omega) | (simp [*]; done) | (simp; omega) | fail)); exact aX)))); rfl; rfl) | fail | exact tsA | fail | (refine ts_step rfl (fun HF h1 hle => ?_)) | fail | fail)
      subst hm1
      refine hd_only (Hi := [box b _ _, row _ _ _ _ _ (vI .u8 (tkT _ _))]) (by exact aS) ?_
      ((repeat (refine hd_undefer (by first | exact .inl rfl | exact .inr rfl) (by exact aP) ?_)); apply hd_resR; (focus (first | exact .inl rfl | exact .inr rfl)); rfl; exact aR)
      have e1 : txX bs (a, false) = tkT (bs.drop a) 65535 := by simp [txX]
      have e2 : txS bs (a, false) = (a + (2 + (tkT (bs.drop a) 65535).length), false) := by simp [txS, ho]
      rw [e1, e2]
      exact ⟨_, _, rfl, rfl⟩
    · repeat' (first | (refine is_pu ?_ (by rfl); first  | fail | refine hd_opAB ?_) | (refine is_pn ?_; first | refine hd_pn_nil ?_ | fail  | fail | refine hd_pnAB ?_ | (refine hd_pn_op rfl ?_)) | (refine is_co ?_; first | fail  | refine hd_storeA ?_ | refine hd_boxA (fun _ => ?_) | refine hd_alloc rfl (fun _ => ?_) | (apply hd_callM (Hi := []); exact aX; infer_instance; exact aE; exact aN; rfl; (focus exact fun _ hw => hw); (focus exact wire_TakeText _ _ hsub (by omega)); (focus (rintro _ h1 _ hle1 ⟨p1, m1, c1, q1, j1, d1, rfl, hm1, hj1, rfl⟩; skip)))) | (refine is_ni ?_; first | (refine is_on ?_; first | refine pn_barA ?_ | refine pn_goA ?_ | refine pt_goA ?_  | refine ts_onA ?_) | refine hd_nil ?_) | (refine is_cw ?_; first | (refine is_rg ?_; first | fail | (refine hd_planT (id := 3) _ [] [.one 0 true, .one 1 true, .one 2 true, .one 3 true, .one 4 true, .one 5 true, .one 6 true, .one 7 true, .one 8 true, .one 9 true, .one 10 true, .one 11 true, .one 12 true, .one 13 true, .one 14 true, .one 15 true, .one 16 true, .one 17 true, .one 18 true, .one 19 true, .one 20 true, .one 21 false, .one 22 true, .one 23 true, .one 24 true, .one 25 true, .one 26 true, .one 27 true, .one 28 true] follows_any (by kernel_rfl) rfl (by kernel_rfl) rfl ?_) | refine hd_draw follows_any (by decide +kernel) ?_) | (refine is_cd ?_; first | (refine hd_condT (by exact aX) (by (first | rfl | assumption | (simp only [decide_eq_true_eq, decide_eq_false_iff_not]; omega) | (simp [*]; done) | (simp; omega) | fail)) ?_) | (refine hd_condF (by exact aX) (by (first | rfl | assumption | (simp only [decide_eq_true_eq, decide_eq_false_iff_not]; omega) | (simp [*]; done) | (simp; omega) | fail)) ?_) | (refine hd_cond (by exact aX) (fun _ => ?_) (fun _ => ?_))) | fail | refine wkA ?_) | refine wkA ?_ | (refine is_ch ?_; refine ch_opAB ?_) | ((first | apply hd_ok | apply ch_ok); (focus ((first | (apply OK.plain; rfl) | (apply OK.guarded; rfl; rfl; (intro hg; (try have hk := hg.2); (try have hl := hg.2.2); (try have hm := hg.2.2.2)))); (first | (apply od_call; exact aX; infer_instance; exact aE; exact aN; (focus (first | fail))) ))); rfl; rfl) | ((first | apply hd_ok | apply ch_ok | (apply hd_pn_run; rfl; exact aM)); (focus ((first | (apply OK.plain; rfl; apply OD.of) | (apply OKp.plain; rfl)); (first | (apply od_pickX; exact aX; (focus (first | rfl | assumption | (simp only [decide_eq_true_eq, decide_eq_false_iff_not]; omega) | (simp [*]; done) | (simp; omega) | fail)); exact aX) | (apply od_pickY; exact aX; (focus (first | rfl | assumption | (simp only [decide_eq_true_eq, decide_eq_false_iff_not]; omega) | (simp [*]; done) | (simp; omega) | fail)); exact aX)))); rfl; rfl) | fail | exact tsA | fail | (refine ts_step rfl (fun HF h1 hle => ?_)) | fail | fail)
      refine hd_nilrow 5 1 ?_
      refine hd_only (Hi := [box b _ _, row none 0 0 _ _ []]) (by exact aS) ?_
      ((repeat (refine hd_undefer (by first | exact .inl rfl | exact .inr rfl) (by exact aP) ?_)); apply hd_resR; (focus (first | exact .inl rfl | exact .inr rfl)); rfl; exact aR)
      have e1 : txX bs (a, false) = [] := by simp [txX, tkT, ho]
      have e2 : txS bs (a, false) = (a, true) := by simp [txS, ho]
      rw [e1, e2]
      exact ⟨_, _, rfl, rfl⟩
  · repeat' (first | (refine is_pu ?_ (by rfl); first  | fail | refine hd_opAB ?_) | (refine is_pn ?_; first | refine hd_pn_nil ?_ | fail  | fail | refine hd_pnAB ?_ | (refine hd_pn_op rfl ?_)) | (refine is_co ?_; first | fail  | refine hd_storeA ?_ | refine hd_boxA (fun _ => ?_) | refine hd_alloc rfl (fun _ => ?_) | (apply hd_callM (Hi := []); exact aX; infer_instance; exact aE; exact aN; rfl; (focus exact fun _ hw => hw); (focus exact wire_TakeText _ _ hsub (by omega)); (focus (rintro _ h1 _ hle1 ⟨p1, m1, c1, q1, j1, d1, rfl, hm1, hj1, rfl⟩; skip)))) | (refine is_ni ?_; first | (refine is_on ?_; first | refine pn_barA ?_ | refine pn_goA ?_ | refine pt_goA ?_  | refine ts_onA ?_) | refine hd_nil ?_) | (refine is_cw ?_; first | (refine is_rg ?_; first | fail | (refine hd_planT (id := 3) _ [] [.one 0 true, .one 1 true, .one 2 true, .one 3 true, .one 4 true, .one 5 true, .one 6 true, .one 7 true, .one 8 true, .one 9 true, .one 10 true, .one 11 true, .one 12 true, .one 13 true, .one 14 true, .one 15 true, .one 16 true, .one 17 true, .one 18 true, .one 19 true, .one 20 true, .one 21 false, .one 22 true, .one 23 true, .one 24 true, .one 25 true, .one 26 true, .one 27 true, .one 28 true] follows_any (by kernel_rfl) rfl (by kernel_rfl) rfl ?_) | refine hd_draw follows_any (by decide +kernel) ?_) | (refine is_cd ?_; first | (refine hd_condT (by exact aX) (by (first | rfl | assumption | (simp only [decide_eq_true_eq, decide_eq_false_iff_not]; omega) | (simp [*]; done) | (simp; omega) | fail)) ?_) | (refine hd_condF (by exact aX) (by (first | rfl | assumption | (simp only [decide_eq_true_eq, decide_eq_false_iff_not]; omega) | (simp [*]; done) | (simp; omega) | fail)) ?_) | (refine hd_cond (by exact aX) (fun _ => ?_) (fun _ => ?_))) | fail | refine wkA ?_) | refine wkA ?_ | (refine is_ch ?_; refine ch_opAB ?_) | ((first | apply hd_ok | apply ch_ok); (focus ((first | (apply OK.plain; rfl) | (apply OK.guarded; rfl; rfl; (intro hg; (try have hk := hg.2); (try have hl := hg.2.2); (try have hm := hg.2.2.2)))); (first | (apply od_call; exact aX; infer_instance; exact aE; exact aN; (focus (first | fail))) ))); rfl; rfl) | ((first | apply hd_ok | apply ch_ok | (apply hd_pn_run; rfl; exact aM)); (focus ((first | (apply OK.plain; rfl; apply OD.of) | (apply OKp.plain; rfl)); (first | (apply od_pickX; exact aX; (focus (first | rfl | assumption | (simp only [decide_eq_true_eq, decide_eq_false_iff_not]; omega) | (simp [*]; done) | (simp; omega) | fail)); exact aX) | (apply od_pickY; exact aX; (focus (first | rfl | assumption | (simp only [decide_eq_true_eq, decide_eq_false_iff_not]; omega) | (simp [*]; done) | (simp; omega) | fail)); exact aX)))); rfl; rfl) | fail | exact tsA | fail | (refine ts_step rfl (fun HF h1 hle => ?_)) | fail | fail)
    refine hd_nilrow 5 1 ?_
    refine hd_only (Hi := [box b _ _, row none 0 0 _ _ []]) (by exact aS) ?_
    ((repeat (refine hd_undefer (by first | exact .inl rfl | exact .inr rfl) (by exact aP) ?_)); apply hd_resR; (focus (first | exact .inl rfl | exact .inr rfl)); rfl; exact aR)
    exact ⟨_, _, rfl, rfl⟩
end Go.Proofs.Ytikkkfamflmgeaa
