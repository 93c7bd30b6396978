/- Which messages are right: elements of lists. Printed by gen_mga.py. -/
import Derived.Test.YtmpfeaoofkkhjaaGreatMgR
namespace Go.Proofs.YtmpfeaoofkkhjaaGreat
open Go Go.GV
attribute [local irreducible] cw Go.GV.SpecM Go.GV.wpList Exit.then Exit.inBlock Go.GV.bodyPost wpPl wpPm wpPn TS rnd rPost YieldsB wpPT ptK
set_option maxRecDepth 10000
set_option maxHeartbeats 8000000
set_option linter.unusedVariables false
set_option linter.unusedSimpArgs false
/-- Where the first one stands. -/
def fxI {α : Type} (q : α → Bool) : List α → Nat → Int
  | [], _ => -1
  | x :: l, k => if q x then k else fxI q l (k + 1)
theorem fxI_step {α : Type} {q : α → Bool} : ∀ {l : List α} {k j : Nat}, (∀ x ∈ l.take j, q x = false) → fxI q l k = fxI q (l.drop j) (k + j)
  | l, k, 0, _ => rfl
  | [], k, j + 1, _ => by simp [fxI]
  | x :: l, k, j + 1, h => by
    have h0 := h x (by simp)
    have := fxI_step (l := l) (k := k + 1) (j := j) (fun y hy => h y (by simp [hy]))
    simp only [fxI, h0, List.drop_succ_cons]
    rw [if_neg (by simp), this]
    congr 1; omega
theorem fxI_hit {α : Type} {q : α → Bool} {l : List α} {j : Nat} {x : α} (hl : ∀ y ∈ l.take j, q y = false) (hj : l[j]? = some x) (hx : q x = true) : fxI q l 0 = (j : Int) := by
  rw [fxI_step hl, List.drop_eq_getElem_cons (List.getElem?_eq_some_iff.1 hj).1, (List.getElem?_eq_some_iff.1 hj).2]
  simp [fxI, hx]
theorem fxI_end {α : Type} {q : α → Bool} {l : List α} {j : Nat} (hl : ∀ y ∈ l.take j, q y = false) (hj : l.length ≤ j) : fxI q l 0 = -1 := by
  rw [fxI_step hl, List.drop_of_length_le hj]; simp [fxI]
theorem fxI_any {α : Type} (q : α → Bool) : ∀ (l : List α) (k : Nat), decide (0 ≤ fxI q l k) = l.any q
  | [], _ => by simp [fxI]
  | x :: l, k => by
    have := fxI_any q l (k + 1)
    cases h : q x
    · simp only [fxI, h, List.any_cons, Bool.false_or]
      rw [if_neg (by simp)]; exact this
    · simp [fxI, h]

theorem pvMgA1 {A : Prop} (h : A := by (first | rfl | assumption | (rw [hu]; rfl) | (simp only [decide_eq_true_eq, decide_eq_false_iff_not]; omega) | fail)) : A := h
--%set CALLBX
/-! ### api.Desc -/
theorem zMgA17 {A : Prop} (h : A := by ((first | (apply OK.plain; rfl) | (apply OK.guarded; rfl; rfl; (intro hg; (try have hk := hg.2); (try have hl := hg.2.2); (try have hm := hg.2.2.2)))); (first | (apply od_call; exact aX; infer_instance; exact aE; exact aN; (focus (first | fail))) ))) : A := h
theorem wMgA1 {A B : Prop} (k : B) (h : Kx B → A := by intro k; (first | (refine is_pu ?_ (by rfl); first | refine hd_opAB ?_) | (refine is_pn ?_; first | refine hd_pn_nil ?_ | refine hd_pnAB ?_ | (refine hd_pn_op rfl ?_)) | (refine is_co ?_; first | ((first | apply hd_ok | apply ch_ok); (focus exact zMgA17); rfl; rfl) | refine hd_storeA ?_ | refine hd_copyA ?_ | refine hd_storeRA ?_) | (refine is_ni ?_; first | (refine is_on ?_; first | refine pn_barA ?_ | refine pn_goA ?_ | refine pt_goA ?_ | refine ts_onA ?_) | refine hd_nil ?_) | refine wkA ?_ | (refine is_ch ?_; refine ch_opAB ?_) | ((first | apply hd_ok | apply ch_ok); (focus exact zMgA17); rfl; rfl)); exact k.go) : A := h ⟨k⟩
theorem wMgA2 {A B : Prop} (k : B) (h : Kx B → A := by intro k; ((refine is_cw ?_; refine is_rg ?_; first | refine hd_draw follows_any (by decide +kernel) ?_)); exact k.go) : A := h ⟨k⟩
theorem wMgA3 {A B : Prop} (k : B) (h : Kx B → A := by intro k; ((refine is_cw ?_; refine is_cd ?_; first | (refine hd_condT (by exact aX) (by exact pvMgA1) ?_) | (refine hd_condF (by exact aX) (by exact pvMgA1) ?_))); exact k.go) : A := h ⟨k⟩
theorem right_D {x : DsT} {p : Option Addr} {n c : Nat} (h : PH) (hf : SlS h p n c x.2.2.2) : Det Tryz.prog 71 #[.agg #[.int .u8 x.1, .int .u16 x.2.1, .int .u8 x.2.2.1, .slice p n c]] h (.bool (okDs x)) := by
  have hl := hf.len
  refine spec_enter (args := [_]) Tryz.func71 rfl Tryz.ntmps71 rfl (fun w l => ?_)
  repeat' (first | refine wMgA2 ?_ | refine wMgA3 ?_ | (refine is_cd ?_; first | refine hd_condA (fun _ => ?_) (fun _ => ?_)) | refine wMgA1 ?_ | refine wkB (fun _ => ?_) | refine wkC (fun _ _ => ?_) | exact tsA | (refine ts_step rfl (fun HF h1 hle => ?_)))
  all_goals ((repeat (refine hd_undefer (by first | exact .inl rfl | exact .inr rfl) (by exact aP) ?_)); apply hd_res0; (focus (first | exact .inl rfl | exact .inr rfl)); rfl; exact aR)
  all_goals exact ret_bool (by rw [← hl, show decide (((x.2.2.2.length : Nat) : Int) ≤ 4) = decide (x.2.2.2.length ≤ 4) from decide_eq_decide.2 (by omega)]; simp [okDs, Bool.and_assoc])
theorem zMgA16 {A : Prop} (h : A := by ((first | (apply OK.plain; rfl) | (apply OK.guarded; rfl; rfl; (intro hg; (try have hk := hg.2); (try have hl := hg.2.2); (try have hm := hg.2.2.2)))); (first | (apply od_call; exact aX; infer_instance; exact aE; exact aN; (focus (first | exact right_D _ hf))) ))) : A := h
theorem wMgA4 {A B : Prop} (k : B) (h : Kx B → A := by intro k; (first | (refine is_pu ?_ (by rfl); first | refine hd_opAB ?_) | (refine is_pn ?_; first | refine hd_pn_nil ?_ | refine hd_pnAB ?_ | (refine hd_pn_op rfl ?_)) | (refine is_co ?_; first | ((first | apply hd_ok | apply ch_ok); (focus exact zMgA16); rfl; rfl) | refine hd_storeA ?_ | refine hd_copyA ?_ | refine hd_storeRA ?_) | (refine is_ni ?_; first | (refine is_on ?_; first | refine pn_barA ?_ | refine pn_goA ?_ | refine pt_goA ?_ | refine ts_onA ?_) | refine hd_nil ?_) | refine wkA ?_ | (refine is_ch ?_; refine ch_opAB ?_) | ((first | apply hd_ok | apply ch_ok); (focus exact zMgA16); rfl; rfl)); exact k.go) : A := h ⟨k⟩
theorem at1_D {x : DsT} {b5 : Nat} {p : Option Addr} {n c : Nat} (h : PH) (hf : SlS h p n c x.2.2.2) : DetB Tryz.prog 141 #[.agg #[.int .u8 x.1, .int .u16 x.2.1, .int .u8 x.2.2.1, .slice p n c], .pointer (some ⟨b5, 0, none⟩)] h [box b5 [.func (.func 71) #[] #[]] 121] (.bool (!okDs x)) := by
  refine spec_enter (args := [_, _]) Tryz.func141 rfl Tryz.ntmps141 rfl (fun w l => ?_)
  repeat' (first | refine wMgA2 ?_ | refine wMgA3 ?_ | (refine is_cd ?_; first | refine hd_condA (fun _ => ?_) (fun _ => ?_)) | refine wMgA4 ?_ | refine wkB (fun _ => ?_) | refine wkC (fun _ _ => ?_) | exact tsA | (refine ts_step rfl (fun HF h1 hle => ?_)))
  apply hd_resS (Hi := [box b5 [.func (.func 71) #[] #[]] 121])
  · (first | exact .inl rfl | exact .inr rfl)
  · rfl
  · exact aR
  · exact aS
  · exact ⟨rfl, rfl⟩
theorem zMgA4 {A : Prop} (h : A := by ((first | (apply OK.plain; rfl) | (apply OK.guarded; rfl; rfl; (intro hg; (try have hk := hg.2); (try have hl := hg.2.2); (try have hm := hg.2.2.2)))); (first | (apply od_call; exact aX; infer_instance; exact aE; exact aN; (focus (first | fail))) | (apply od_callB; exact aX; infer_instance; exact aE; exact aN; (focus (first | exact at1_D _ hf)); (case hsp => exact aS))))) : A := h
theorem wMgA5 {A B : Prop} (k : B) (h : Kx B → A := by intro k; (first | (refine is_pu ?_ (by rfl); first | refine hd_opAB ?_) | (refine is_pn ?_; first | refine hd_pn_nil ?_ | refine hd_pnAB ?_ | (refine hd_pn_op rfl ?_)) | (refine is_co ?_; first | ((first | apply hd_ok | apply ch_ok); (focus exact zMgA4); rfl; rfl) | refine hd_storeA ?_ | refine hd_copyA ?_ | refine hd_storeRA ?_) | (refine is_ni ?_; first | (refine is_on ?_; first | refine pn_barA ?_ | refine pn_goA ?_ | refine pt_goA ?_ | refine ts_onA ?_) | refine hd_nil ?_) | refine wkA ?_ | (refine is_ch ?_; refine ch_opAB ?_) | ((first | apply hd_ok | apply ch_ok); (focus exact zMgA4); rfl; rfl)); exact k.go) : A := h ⟨k⟩
theorem idx_D {xs : List DsT} {b5 : Nat} {p : Option Addr} {n c : Nat} (h : PH) (hE : SlR rDs h p n c xs) : DetB Tryz.prog 156 #[.slice p n c, .func (.func 141) #[] #[.pointer (some ⟨b5, 0, none⟩)]] h [box b5 [.func (.func 71) #[] #[]] 121] (.int .i64 (fxI (fun x => !okDs x) xs 0)) := by
  have hl := hE.len
  have ht := hE.top
  refine spec_enter (args := [_, _]) Tryz.func156 rfl Tryz.ntmps156 rfl (fun w l => ?_)
  repeat' (first | refine wMgA2 ?_ | refine wMgA3 ?_ | (refine is_cd ?_; first | refine hd_condA (fun _ => ?_) (fun _ => ?_)) | refine wMgA5 ?_ | refine wkB (fun _ => ?_) | refine wkC (fun _ _ => ?_) | exact tsA | (refine ts_step rfl (fun HF h1 hle => ?_)))
  refine hd_loopS (ι := Nat) (fun i => i ≤ n ∧ ∀ x ∈ xs.take i, (!okDs x) = false) (fun i => [(0, [], .slice p n c), (1, [], .func (.func 141) #[] #[.pointer (some ⟨b5, 0, none⟩)]), (7, [], .int .i64 n), (8, [], .int .i64 i)]) (fun _ => [box b5 [.func (.func 71) #[] #[]] 121]) (fun _ => h) (fun i => n - i) 0 (by simp) (by exact aU) (fun _ hw => hw) (fun i hi => ?_)
  refine hd_split (c := decide (i < n)) (fun hlt => ?_) (fun hlt => ?_)
  · simp only [decide_eq_true_eq] at hlt
    obtain ⟨x, hx⟩ := get_of hl hlt
    obtain ⟨cs, hpub, hok, hptr⟩ := hE.at hx
    obtain ⟨p1, n1, c1, rfl, hf, g1, g2, g3⟩ := rDs_ok hok
    refine hd_split (c := !okDs x) (fun hu => ?_) (fun hu => ?_)
    · repeat' (first | refine wMgA2 ?_ | refine wMgA3 ?_ | (refine is_cd ?_; first | refine hd_condA (fun _ => ?_) (fun _ => ?_)) | refine wMgA5 ?_ | refine wkB (fun _ => ?_) | refine wkC (fun _ _ => ?_) | exact tsA | (refine ts_step rfl (fun HF h1 hle => ?_)))
      ((repeat (refine hd_undefer (by first | exact .inl rfl | exact .inr rfl) (by exact aP) ?_)); apply hd_resB; (focus (first | exact .inl rfl | exact .inr rfl)); rfl; exact aR; exact aM)
      exact ⟨by rw [fxI_hit hi.2 hx hu]; rfl, rfl⟩
    · repeat' (first | refine wMgA2 ?_ | refine wMgA3 ?_ | (refine is_cd ?_; first | refine hd_condA (fun _ => ?_) (fun _ => ?_)) | refine wMgA5 ?_ | refine wkB (fun _ => ?_) | refine wkC (fun _ _ => ?_) | exact tsA | (refine ts_step rfl (fun HF h1 hle => ?_)))
      refine hd_again (i + 1) ⟨by omega, ?_⟩ (by omega) (by exact aU) (fun w hw => inv_only (by exact aS) hw)
      rw [take_step hx]
      intro e' he'
      rcases List.mem_append.1 he' with h1 | h1
      · exact hi.2 e' h1
      · simp at h1; subst h1; exact hu
  · simp only [decide_eq_false_iff_not] at hlt
    repeat' (first | refine wMgA2 ?_ | refine wMgA3 ?_ | (refine is_cd ?_; first | refine hd_condA (fun _ => ?_) (fun _ => ?_)) | refine wMgA5 ?_ | refine wkB (fun _ => ?_) | refine wkC (fun _ _ => ?_) | exact tsA | (refine ts_step rfl (fun HF h1 hle => ?_)))
    ((repeat (refine hd_undefer (by first | exact .inl rfl | exact .inr rfl) (by exact aP) ?_)); apply hd_resB; (focus (first | exact .inl rfl | exact .inr rfl)); rfl; exact aR; exact aM)
    exact ⟨by rw [fxI_end hi.2 (by omega)]; rfl, rfl⟩
theorem zMgA5 {A : Prop} (h : A := by ((first | (apply OK.plain; rfl) | (apply OK.guarded; rfl; rfl; (intro hg; (try have hk := hg.2); (try have hl := hg.2.2); (try have hm := hg.2.2.2)))); (first | (apply od_call; exact aX; infer_instance; exact aE; exact aN; (focus (first | fail))) | (apply od_callB; exact aX; infer_instance; exact aE; exact aN; (focus (first | exact idx_D _ hE)); (case hsp => exact aS))))) : A := h
theorem wMgA6 {A B : Prop} (k : B) (h : Kx B → A := by intro k; (first | (refine is_pu ?_ (by rfl); first | refine hd_opAB ?_) | (refine is_pn ?_; first | refine hd_pn_nil ?_ | refine hd_pnAB ?_ | (refine hd_pn_op rfl ?_)) | (refine is_co ?_; first | ((first | apply hd_ok | apply ch_ok); (focus exact zMgA5); rfl; rfl) | refine hd_storeA ?_ | refine hd_copyA ?_ | refine hd_storeRA ?_) | (refine is_ni ?_; first | (refine is_on ?_; first | refine pn_barA ?_ | refine pn_goA ?_ | refine pt_goA ?_ | refine ts_onA ?_) | refine hd_nil ?_) | refine wkA ?_ | (refine is_ch ?_; refine ch_opAB ?_) | ((first | apply hd_ok | apply ch_ok); (focus exact zMgA5); rfl; rfl)); exact k.go) : A := h ⟨k⟩
theorem con_D {xs : List DsT} {b5 : Nat} {p : Option Addr} {n c : Nat} (h : PH) (hE : SlR rDs h p n c xs) : DetB Tryz.prog 140 #[.slice p n c, .func (.func 141) #[] #[.pointer (some ⟨b5, 0, none⟩)]] h [box b5 [.func (.func 71) #[] #[]] 121] (.bool (xs.any fun x => !okDs x)) := by
  refine spec_enter (args := [_, _]) Tryz.func140 rfl Tryz.ntmps140 rfl (fun w l => ?_)
  repeat' (first | refine wMgA2 ?_ | refine wMgA3 ?_ | (refine is_cd ?_; first | refine hd_condA (fun _ => ?_) (fun _ => ?_)) | refine wMgA6 ?_ | refine wkB (fun _ => ?_) | refine wkC (fun _ _ => ?_) | exact tsA | (refine ts_step rfl (fun HF h1 hle => ?_)))
  rw [← fxI_any _ xs 0]
  apply hd_resS (Hi := [box b5 [.func (.func 71) #[] #[]] 121])
  · (first | exact .inl rfl | exact .inr rfl)
  · rfl
  · exact aR
  · exact aS
  · exact ⟨rfl, rfl⟩
theorem zMgA6 {A : Prop} (h : A := by ((first | (apply OK.plain; rfl) | (apply OK.guarded; rfl; rfl; (intro hg; (try have hk := hg.2); (try have hl := hg.2.2); (try have hm := hg.2.2.2)))); (first | (apply od_call; exact aX; infer_instance; exact aE; exact aN; (focus (first | fail))) | (apply od_callB; exact aX; infer_instance; exact aE; exact aN; (focus (first | exact con_D _ hE)); (case hsp => exact aS))))) : A := h
theorem wMgA7 {A B : Prop} (k : B) (h : Kx B → A := by intro k; (first | (refine is_pu ?_ (by rfl); first | refine hd_opAB ?_) | (refine is_pn ?_; first | refine hd_pn_nil ?_ | refine hd_pnAB ?_ | (refine hd_pn_op rfl ?_)) | (refine is_co ?_; first | ((first | apply hd_ok | apply ch_ok); (focus exact zMgA6); rfl; rfl) | refine hd_storeA ?_ | refine hd_copyA ?_ | refine hd_storeRA ?_) | (refine is_ni ?_; first | (refine is_on ?_; first | refine pn_barA ?_ | refine pn_goA ?_ | refine pt_goA ?_ | refine ts_onA ?_) | refine hd_nil ?_) | refine wkA ?_ | (refine is_ch ?_; refine ch_opAB ?_) | ((first | apply hd_ok | apply ch_ok); (focus exact zMgA6); rfl; rfl)); exact k.go) : A := h ⟨k⟩
theorem atm_D {xs : List DsT} {p : Option Addr} {n c : Nat} {most : Int} (h : PH) (hE : SlR rDs h p n c xs) : Det Tryz.prog 70 #[.slice p n c, .int .i64 most, .func (.func 71) #[] #[]] h (.bool (decide ((n : Int) ≤ most) && xs.all okDs)) := by
  refine spec_enter (args := [_, _, _]) Tryz.func70 rfl Tryz.ntmps70 rfl (fun w l => ?_)
  repeat' (first | refine wMgA2 ?_ | refine wMgA3 ?_ | (refine is_cd ?_; first | refine hd_condA (fun _ => ?_) (fun _ => ?_)) | refine wMgA7 ?_ | refine wkB (fun _ => ?_) | refine wkC (fun _ _ => ?_) | exact tsA | (refine ts_step rfl (fun HF h1 hle => ?_)))
  all_goals ((repeat (refine hd_undefer (by first | exact .inl rfl | exact .inr rfl) (by exact aP) ?_)); apply hd_res0; (focus (first | exact .inl rfl | exact .inr rfl)); rfl; exact aR)
  all_goals exact ret_bool (by cases decide ((n : Int) ≤ most) <;> simp [List.not_any_eq_all_not])
--%set CALLBX
--%set CALLBX
/-! ### api.Member -/
theorem right_M {x : Mk}  (h : PH) : Det Tryz.prog 84 #[.agg #[.int .u16 x.1, .int .u8 x.2.1, .int .u8 x.2.2]] h (.bool (okMm x)) := by
  refine spec_enter (args := [_]) Tryz.func84 rfl Tryz.ntmps84 rfl (fun w l => ?_)
  repeat' (first | refine wMgA2 ?_ | refine wMgA3 ?_ | (refine is_cd ?_; first | refine hd_condA (fun _ => ?_) (fun _ => ?_)) | refine wMgA7 ?_ | refine wkB (fun _ => ?_) | refine wkC (fun _ _ => ?_) | exact tsA | (refine ts_step rfl (fun HF h1 hle => ?_)))
  all_goals ((repeat (refine hd_undefer (by first | exact .inl rfl | exact .inr rfl) (by exact aP) ?_)); apply hd_res0; (focus (first | exact .inl rfl | exact .inr rfl)); rfl; exact aR)
  all_goals exact ret_bool (by simp [okMm])
theorem zMgA1 {A : Prop} (h : A := by ((first | (apply OK.plain; rfl) | (apply OK.guarded; rfl; rfl; (intro hg; (try have hk := hg.2); (try have hl := hg.2.2); (try have hm := hg.2.2.2)))); (first | (apply od_call; exact aX; infer_instance; exact aE; exact aN; (focus (first | exact right_M _))) | (apply od_callB; exact aX; infer_instance; exact aE; exact aN; (focus (first | exact con_D _ hE)); (case hsp => exact aS))))) : A := h
theorem wMgA8 {A B : Prop} (k : B) (h : Kx B → A := by intro k; (first | (refine is_pu ?_ (by rfl); first | refine hd_opAB ?_) | (refine is_pn ?_; first | refine hd_pn_nil ?_ | refine hd_pnAB ?_ | (refine hd_pn_op rfl ?_)) | (refine is_co ?_; first | ((first | apply hd_ok | apply ch_ok); (focus exact zMgA1); rfl; rfl) | refine hd_storeA ?_ | refine hd_copyA ?_ | refine hd_storeRA ?_) | (refine is_ni ?_; first | (refine is_on ?_; first | refine pn_barA ?_ | refine pn_goA ?_ | refine pt_goA ?_ | refine ts_onA ?_) | refine hd_nil ?_) | refine wkA ?_ | (refine is_ch ?_; refine ch_opAB ?_) | ((first | apply hd_ok | apply ch_ok); (focus exact zMgA1); rfl; rfl)); exact k.go) : A := h ⟨k⟩
theorem at1_M {x : Mk} {b5 : Nat}  (h : PH) : DetB Tryz.prog 144 #[.agg #[.int .u16 x.1, .int .u8 x.2.1, .int .u8 x.2.2], .pointer (some ⟨b5, 0, none⟩)] h [box b5 [.func (.func 84) #[] #[]] 129] (.bool (!okMm x)) := by
  refine spec_enter (args := [_, _]) Tryz.func144 rfl Tryz.ntmps144 rfl (fun w l => ?_)
  repeat' (first | refine wMgA2 ?_ | refine wMgA3 ?_ | (refine is_cd ?_; first | refine hd_condA (fun _ => ?_) (fun _ => ?_)) | refine wMgA8 ?_ | refine wkB (fun _ => ?_) | refine wkC (fun _ _ => ?_) | exact tsA | (refine ts_step rfl (fun HF h1 hle => ?_)))
  apply hd_resS (Hi := [box b5 [.func (.func 84) #[] #[]] 129])
  · (first | exact .inl rfl | exact .inr rfl)
  · rfl
  · exact aR
  · exact aS
  · exact ⟨rfl, rfl⟩
theorem zMgA13 {A : Prop} (h : A := by ((first | (apply OK.plain; rfl) | (apply OK.guarded; rfl; rfl; (intro hg; (try have hk := hg.2); (try have hl := hg.2.2); (try have hm := hg.2.2.2)))); (first | (apply od_call; exact aX; infer_instance; exact aE; exact aN; (focus (first | fail))) | (apply od_callB; exact aX; infer_instance; exact aE; exact aN; (focus (first | exact at1_M _)); (case hsp => exact aS))))) : A := h
theorem wMgA9 {A B : Prop} (k : B) (h : Kx B → A := by intro k; (first | (refine is_pu ?_ (by rfl); first | refine hd_opAB ?_) | (refine is_pn ?_; first | refine hd_pn_nil ?_ | refine hd_pnAB ?_ | (refine hd_pn_op rfl ?_)) | (refine is_co ?_; first | ((first | apply hd_ok | apply ch_ok); (focus exact zMgA13); rfl; rfl) | refine hd_storeA ?_ | refine hd_copyA ?_ | refine hd_storeRA ?_) | (refine is_ni ?_; first | (refine is_on ?_; first | refine pn_barA ?_ | refine pn_goA ?_ | refine pt_goA ?_ | refine ts_onA ?_) | refine hd_nil ?_) | refine wkA ?_ | (refine is_ch ?_; refine ch_opAB ?_) | ((first | apply hd_ok | apply ch_ok); (focus exact zMgA13); rfl; rfl)); exact k.go) : A := h ⟨k⟩
theorem idx_M {xs : List Mk} {b5 : Nat} {p : Option Addr} {n c : Nat} (h : PH) (hE : SlR rMm h p n c xs) : DetB Tryz.prog 157 #[.slice p n c, .func (.func 144) #[] #[.pointer (some ⟨b5, 0, none⟩)]] h [box b5 [.func (.func 84) #[] #[]] 129] (.int .i64 (fxI (fun x => !okMm x) xs 0)) := by
  have hl := hE.len
  have ht := hE.top
  refine spec_enter (args := [_, _]) Tryz.func157 rfl Tryz.ntmps157 rfl (fun w l => ?_)
  repeat' (first | refine wMgA2 ?_ | refine wMgA3 ?_ | (refine is_cd ?_; first | refine hd_condA (fun _ => ?_) (fun _ => ?_)) | refine wMgA9 ?_ | refine wkB (fun _ => ?_) | refine wkC (fun _ _ => ?_) | exact tsA | (refine ts_step rfl (fun HF h1 hle => ?_)))
  refine hd_loopS (ι := Nat) (fun i => i ≤ n ∧ ∀ x ∈ xs.take i, (!okMm x) = false) (fun i => [(0, [], .slice p n c), (1, [], .func (.func 144) #[] #[.pointer (some ⟨b5, 0, none⟩)]), (7, [], .int .i64 n), (8, [], .int .i64 i)]) (fun _ => [box b5 [.func (.func 84) #[] #[]] 129]) (fun _ => h) (fun i => n - i) 0 (by simp) (by exact aU) (fun _ hw => hw) (fun i hi => ?_)
  refine hd_split (c := decide (i < n)) (fun hlt => ?_) (fun hlt => ?_)
  · simp only [decide_eq_true_eq] at hlt
    obtain ⟨x, hx⟩ := get_of hl hlt
    obtain ⟨cs, hpub, hok, hptr⟩ := hE.at hx
    obtain ⟨rfl, g1⟩ := rMm_ok hok
    refine hd_split (c := !okMm x) (fun hu => ?_) (fun hu => ?_)
    · repeat' (first | refine wMgA2 ?_ | refine wMgA3 ?_ | (refine is_cd ?_; first | refine hd_condA (fun _ => ?_) (fun _ => ?_)) | refine wMgA9 ?_ | refine wkB (fun _ => ?_) | refine wkC (fun _ _ => ?_) | exact tsA | (refine ts_step rfl (fun HF h1 hle => ?_)))
      ((repeat (refine hd_undefer (by first | exact .inl rfl | exact .inr rfl) (by exact aP) ?_)); apply hd_resB; (focus (first | exact .inl rfl | exact .inr rfl)); rfl; exact aR; exact aM)
      exact ⟨by rw [fxI_hit hi.2 hx hu]; rfl, rfl⟩
    · repeat' (first | refine wMgA2 ?_ | refine wMgA3 ?_ | (refine is_cd ?_; first | refine hd_condA (fun _ => ?_) (fun _ => ?_)) | refine wMgA9 ?_ | refine wkB (fun _ => ?_) | refine wkC (fun _ _ => ?_) | exact tsA | (refine ts_step rfl (fun HF h1 hle => ?_)))
      refine hd_again (i + 1) ⟨by omega, ?_⟩ (by omega) (by exact aU) (fun w hw => inv_only (by exact aS) hw)
      rw [take_step hx]
      intro e' he'
      rcases List.mem_append.1 he' with h1 | h1
      · exact hi.2 e' h1
      · simp at h1; subst h1; exact hu
  · simp only [decide_eq_false_iff_not] at hlt
    repeat' (first | refine wMgA2 ?_ | refine wMgA3 ?_ | (refine is_cd ?_; first | refine hd_condA (fun _ => ?_) (fun _ => ?_)) | refine wMgA9 ?_ | refine wkB (fun _ => ?_) | refine wkC (fun _ _ => ?_) | exact tsA | (refine ts_step rfl (fun HF h1 hle => ?_)))
    ((repeat (refine hd_undefer (by first | exact .inl rfl | exact .inr rfl) (by exact aP) ?_)); apply hd_resB; (focus (first | exact .inl rfl | exact .inr rfl)); rfl; exact aR; exact aM)
    exact ⟨by rw [fxI_end hi.2 (by omega)]; rfl, rfl⟩
theorem zMgA7 {A : Prop} (h : A := by ((first | (apply OK.plain; rfl) | (apply OK.guarded; rfl; rfl; (intro hg; (try have hk := hg.2); (try have hl := hg.2.2); (try have hm := hg.2.2.2)))); (first | (apply od_call; exact aX; infer_instance; exact aE; exact aN; (focus (first | fail))) | (apply od_callB; exact aX; infer_instance; exact aE; exact aN; (focus (first | exact idx_M _ hE)); (case hsp => exact aS))))) : A := h
theorem wMgA10 {A B : Prop} (k : B) (h : Kx B → A := by intro k; (first | (refine is_pu ?_ (by rfl); first | refine hd_opAB ?_) | (refine is_pn ?_; first | refine hd_pn_nil ?_ | refine hd_pnAB ?_ | (refine hd_pn_op rfl ?_)) | (refine is_co ?_; first | ((first | apply hd_ok | apply ch_ok); (focus exact zMgA7); rfl; rfl) | refine hd_storeA ?_ | refine hd_copyA ?_ | refine hd_storeRA ?_) | (refine is_ni ?_; first | (refine is_on ?_; first | refine pn_barA ?_ | refine pn_goA ?_ | refine pt_goA ?_ | refine ts_onA ?_) | refine hd_nil ?_) | refine wkA ?_ | (refine is_ch ?_; refine ch_opAB ?_) | ((first | apply hd_ok | apply ch_ok); (focus exact zMgA7); rfl; rfl)); exact k.go) : A := h ⟨k⟩
theorem con_M {xs : List Mk} {b5 : Nat} {p : Option Addr} {n c : Nat} (h : PH) (hE : SlR rMm h p n c xs) : DetB Tryz.prog 143 #[.slice p n c, .func (.func 144) #[] #[.pointer (some ⟨b5, 0, none⟩)]] h [box b5 [.func (.func 84) #[] #[]] 129] (.bool (xs.any fun x => !okMm x)) := by
  refine spec_enter (args := [_, _]) Tryz.func143 rfl Tryz.ntmps143 rfl (fun w l => ?_)
  repeat' (first | refine wMgA2 ?_ | refine wMgA3 ?_ | (refine is_cd ?_; first | refine hd_condA (fun _ => ?_) (fun _ => ?_)) | refine wMgA10 ?_ | refine wkB (fun _ => ?_) | refine wkC (fun _ _ => ?_) | exact tsA | (refine ts_step rfl (fun HF h1 hle => ?_)))
  rw [← fxI_any _ xs 0]
  apply hd_resS (Hi := [box b5 [.func (.func 84) #[] #[]] 129])
  · (first | exact .inl rfl | exact .inr rfl)
  · rfl
  · exact aR
  · exact aS
  · exact ⟨rfl, rfl⟩
theorem zMgA8 {A : Prop} (h : A := by ((first | (apply OK.plain; rfl) | (apply OK.guarded; rfl; rfl; (intro hg; (try have hk := hg.2); (try have hl := hg.2.2); (try have hm := hg.2.2.2)))); (first | (apply od_call; exact aX; infer_instance; exact aE; exact aN; (focus (first | fail))) | (apply od_callB; exact aX; infer_instance; exact aE; exact aN; (focus (first | exact con_M _ hE)); (case hsp => exact aS))))) : A := h
theorem wMgA11 {A B : Prop} (k : B) (h : Kx B → A := by intro k; (first | (refine is_pu ?_ (by rfl); first | refine hd_opAB ?_) | (refine is_pn ?_; first | refine hd_pn_nil ?_ | refine hd_pnAB ?_ | (refine hd_pn_op rfl ?_)) | (refine is_co ?_; first | ((first | apply hd_ok | apply ch_ok); (focus exact zMgA8); rfl; rfl) | refine hd_storeA ?_ | refine hd_copyA ?_ | refine hd_storeRA ?_) | (refine is_ni ?_; first | (refine is_on ?_; first | refine pn_barA ?_ | refine pn_goA ?_ | refine pt_goA ?_ | refine ts_onA ?_) | refine hd_nil ?_) | refine wkA ?_ | (refine is_ch ?_; refine ch_opAB ?_) | ((first | apply hd_ok | apply ch_ok); (focus exact zMgA8); rfl; rfl)); exact k.go) : A := h ⟨k⟩
theorem atm_M {xs : List Mk} {p : Option Addr} {n c : Nat} {most : Int} (h : PH) (hE : SlR rMm h p n c xs) : Det Tryz.prog 83 #[.slice p n c, .int .i64 most, .func (.func 84) #[] #[]] h (.bool (decide ((n : Int) ≤ most) && xs.all okMm)) := by
  refine spec_enter (args := [_, _, _]) Tryz.func83 rfl Tryz.ntmps83 rfl (fun w l => ?_)
  repeat' (first | refine wMgA2 ?_ | refine wMgA3 ?_ | (refine is_cd ?_; first | refine hd_condA (fun _ => ?_) (fun _ => ?_)) | refine wMgA11 ?_ | refine wkB (fun _ => ?_) | refine wkC (fun _ _ => ?_) | exact tsA | (refine ts_step rfl (fun HF h1 hle => ?_)))
  all_goals ((repeat (refine hd_undefer (by first | exact .inl rfl | exact .inr rfl) (by exact aP) ?_)); apply hd_res0; (focus (first | exact .inl rfl | exact .inr rfl)); rfl; exact aR)
  all_goals exact ret_bool (by cases decide ((n : Int) ≤ most) <;> simp [List.not_any_eq_all_not])
--%set CALLBX
--%set CALLBX
/-! ### api.Mark -/
theorem right_K {x : Mk}  (h : PH) : Det Tryz.prog 108 #[.agg #[.int .u8 x.1, .int .u16 x.2.1, .int .u32 x.2.2]] h (.bool (okMk x)) := by
  refine spec_enter (args := [_]) Tryz.func108 rfl Tryz.ntmps108 rfl (fun w l => ?_)
  repeat' (first | refine wMgA2 ?_ | refine wMgA3 ?_ | (refine is_cd ?_; first | refine hd_condA (fun _ => ?_) (fun _ => ?_)) | refine wMgA11 ?_ | refine wkB (fun _ => ?_) | refine wkC (fun _ _ => ?_) | exact tsA | (refine ts_step rfl (fun HF h1 hle => ?_)))
  all_goals ((repeat (refine hd_undefer (by first | exact .inl rfl | exact .inr rfl) (by exact aP) ?_)); apply hd_res0; (focus (first | exact .inl rfl | exact .inr rfl)); rfl; exact aR)
  all_goals exact ret_bool (by simp [okMk])
theorem zMgA2 {A : Prop} (h : A := by ((first | (apply OK.plain; rfl) | (apply OK.guarded; rfl; rfl; (intro hg; (try have hk := hg.2); (try have hl := hg.2.2); (try have hm := hg.2.2.2)))); (first | (apply od_call; exact aX; infer_instance; exact aE; exact aN; (focus (first | exact right_K _))) | (apply od_callB; exact aX; infer_instance; exact aE; exact aN; (focus (first | exact con_M _ hE)); (case hsp => exact aS))))) : A := h
theorem wMgA12 {A B : Prop} (k : B) (h : Kx B → A := by intro k; (first | (refine is_pu ?_ (by rfl); first | refine hd_opAB ?_) | (refine is_pn ?_; first | refine hd_pn_nil ?_ | refine hd_pnAB ?_ | (refine hd_pn_op rfl ?_)) | (refine is_co ?_; first | ((first | apply hd_ok | apply ch_ok); (focus exact zMgA2); rfl; rfl) | refine hd_storeA ?_ | refine hd_copyA ?_ | refine hd_storeRA ?_) | (refine is_ni ?_; first | (refine is_on ?_; first | refine pn_barA ?_ | refine pn_goA ?_ | refine pt_goA ?_ | refine ts_onA ?_) | refine hd_nil ?_) | refine wkA ?_ | (refine is_ch ?_; refine ch_opAB ?_) | ((first | apply hd_ok | apply ch_ok); (focus exact zMgA2); rfl; rfl)); exact k.go) : A := h ⟨k⟩
theorem at1_K {x : Mk} {b5 : Nat}  (h : PH) : DetB Tryz.prog 152 #[.agg #[.int .u8 x.1, .int .u16 x.2.1, .int .u32 x.2.2], .pointer (some ⟨b5, 0, none⟩)] h [box b5 [.func (.func 108) #[] #[]] 135] (.bool (!okMk x)) := by
  refine spec_enter (args := [_, _]) Tryz.func152 rfl Tryz.ntmps152 rfl (fun w l => ?_)
  repeat' (first | refine wMgA2 ?_ | refine wMgA3 ?_ | (refine is_cd ?_; first | refine hd_condA (fun _ => ?_) (fun _ => ?_)) | refine wMgA12 ?_ | refine wkB (fun _ => ?_) | refine wkC (fun _ _ => ?_) | exact tsA | (refine ts_step rfl (fun HF h1 hle => ?_)))
  apply hd_resS (Hi := [box b5 [.func (.func 108) #[] #[]] 135])
  · (first | exact .inl rfl | exact .inr rfl)
  · rfl
  · exact aR
  · exact aS
  · exact ⟨rfl, rfl⟩
theorem zMgA14 {A : Prop} (h : A := by ((first | (apply OK.plain; rfl) | (apply OK.guarded; rfl; rfl; (intro hg; (try have hk := hg.2); (try have hl := hg.2.2); (try have hm := hg.2.2.2)))); (first | (apply od_call; exact aX; infer_instance; exact aE; exact aN; (focus (first | fail))) | (apply od_callB; exact aX; infer_instance; exact aE; exact aN; (focus (first | exact at1_K _)); (case hsp => exact aS))))) : A := h
theorem wMgA13 {A B : Prop} (k : B) (h : Kx B → A := by intro k; (first | (refine is_pu ?_ (by rfl); first | refine hd_opAB ?_) | (refine is_pn ?_; first | refine hd_pn_nil ?_ | refine hd_pnAB ?_ | (refine hd_pn_op rfl ?_)) | (refine is_co ?_; first | ((first | apply hd_ok | apply ch_ok); (focus exact zMgA14); rfl; rfl) | refine hd_storeA ?_ | refine hd_copyA ?_ | refine hd_storeRA ?_) | (refine is_ni ?_; first | (refine is_on ?_; first | refine pn_barA ?_ | refine pn_goA ?_ | refine pt_goA ?_ | refine ts_onA ?_) | refine hd_nil ?_) | refine wkA ?_ | (refine is_ch ?_; refine ch_opAB ?_) | ((first | apply hd_ok | apply ch_ok); (focus exact zMgA14); rfl; rfl)); exact k.go) : A := h ⟨k⟩
theorem idx_K {xs : List Mk} {b5 : Nat} {p : Option Addr} {n c : Nat} (h : PH) (hE : SlR rID h p n c xs) : DetB Tryz.prog 160 #[.slice p n c, .func (.func 152) #[] #[.pointer (some ⟨b5, 0, none⟩)]] h [box b5 [.func (.func 108) #[] #[]] 135] (.int .i64 (fxI (fun x => !okMk x) xs 0)) := by
  have hl := hE.len
  have ht := hE.top
  refine spec_enter (args := [_, _]) Tryz.func160 rfl Tryz.ntmps160 rfl (fun w l => ?_)
  repeat' (first | refine wMgA2 ?_ | refine wMgA3 ?_ | (refine is_cd ?_; first | refine hd_condA (fun _ => ?_) (fun _ => ?_)) | refine wMgA13 ?_ | refine wkB (fun _ => ?_) | refine wkC (fun _ _ => ?_) | exact tsA | (refine ts_step rfl (fun HF h1 hle => ?_)))
  refine hd_loopS (ι := Nat) (fun i => i ≤ n ∧ ∀ x ∈ xs.take i, (!okMk x) = false) (fun i => [(0, [], .slice p n c), (1, [], .func (.func 152) #[] #[.pointer (some ⟨b5, 0, none⟩)]), (7, [], .int .i64 n), (8, [], .int .i64 i)]) (fun _ => [box b5 [.func (.func 108) #[] #[]] 135]) (fun _ => h) (fun i => n - i) 0 (by simp) (by exact aU) (fun _ hw => hw) (fun i hi => ?_)
  refine hd_split (c := decide (i < n)) (fun hlt => ?_) (fun hlt => ?_)
  · simp only [decide_eq_true_eq] at hlt
    obtain ⟨x, hx⟩ := get_of hl hlt
    obtain ⟨cs, hpub, hok, hptr⟩ := hE.at hx
    obtain ⟨rfl, g1⟩ := rID_ok hok
    refine hd_split (c := !okMk x) (fun hu => ?_) (fun hu => ?_)
    · repeat' (first | refine wMgA2 ?_ | refine wMgA3 ?_ | (refine is_cd ?_; first | refine hd_condA (fun _ => ?_) (fun _ => ?_)) | refine wMgA13 ?_ | refine wkB (fun _ => ?_) | refine wkC (fun _ _ => ?_) | exact tsA | (refine ts_step rfl (fun HF h1 hle => ?_)))
      ((repeat (refine hd_undefer (by first | exact .inl rfl | exact .inr rfl) (by exact aP) ?_)); apply hd_resB; (focus (first | exact .inl rfl | exact .inr rfl)); rfl; exact aR; exact aM)
      exact ⟨by rw [fxI_hit hi.2 hx hu]; rfl, rfl⟩
    · repeat' (first | refine wMgA2 ?_ | refine wMgA3 ?_ | (refine is_cd ?_; first | refine hd_condA (fun _ => ?_) (fun _ => ?_)) | refine wMgA13 ?_ | refine wkB (fun _ => ?_) | refine wkC (fun _ _ => ?_) | exact tsA | (refine ts_step rfl (fun HF h1 hle => ?_)))
      refine hd_again (i + 1) ⟨by omega, ?_⟩ (by omega) (by exact aU) (fun w hw => inv_only (by exact aS) hw)
      rw [take_step hx]
      intro e' he'
      rcases List.mem_append.1 he' with h1 | h1
      · exact hi.2 e' h1
      · simp at h1; subst h1; exact hu
  · simp only [decide_eq_false_iff_not] at hlt
    repeat' (first | refine wMgA2 ?_ | refine wMgA3 ?_ | (refine is_cd ?_; first | refine hd_condA (fun _ => ?_) (fun _ => ?_)) | refine wMgA13 ?_ | refine wkB (fun _ => ?_) | refine wkC (fun _ _ => ?_) | exact tsA | (refine ts_step rfl (fun HF h1 hle => ?_)))
    ((repeat (refine hd_undefer (by first | exact .inl rfl | exact .inr rfl) (by exact aP) ?_)); apply hd_resB; (focus (first | exact .inl rfl | exact .inr rfl)); rfl; exact aR; exact aM)
    exact ⟨by rw [fxI_end hi.2 (by omega)]; rfl, rfl⟩
theorem zMgA9 {A : Prop} (h : A := by ((first | (apply OK.plain; rfl) | (apply OK.guarded; rfl; rfl; (intro hg; (try have hk := hg.2); (try have hl := hg.2.2); (try have hm := hg.2.2.2)))); (first | (apply od_call; exact aX; infer_instance; exact aE; exact aN; (focus (first | fail))) | (apply od_callB; exact aX; infer_instance; exact aE; exact aN; (focus (first | exact idx_K _ hE)); (case hsp => exact aS))))) : A := h
theorem wMgA14 {A B : Prop} (k : B) (h : Kx B → A := by intro k; (first | (refine is_pu ?_ (by rfl); first | refine hd_opAB ?_) | (refine is_pn ?_; first | refine hd_pn_nil ?_ | refine hd_pnAB ?_ | (refine hd_pn_op rfl ?_)) | (refine is_co ?_; first | ((first | apply hd_ok | apply ch_ok); (focus exact zMgA9); rfl; rfl) | refine hd_storeA ?_ | refine hd_copyA ?_ | refine hd_storeRA ?_) | (refine is_ni ?_; first | (refine is_on ?_; first | refine pn_barA ?_ | refine pn_goA ?_ | refine pt_goA ?_ | refine ts_onA ?_) | refine hd_nil ?_) | refine wkA ?_ | (refine is_ch ?_; refine ch_opAB ?_) | ((first | apply hd_ok | apply ch_ok); (focus exact zMgA9); rfl; rfl)); exact k.go) : A := h ⟨k⟩
theorem con_K {xs : List Mk} {b5 : Nat} {p : Option Addr} {n c : Nat} (h : PH) (hE : SlR rID h p n c xs) : DetB Tryz.prog 151 #[.slice p n c, .func (.func 152) #[] #[.pointer (some ⟨b5, 0, none⟩)]] h [box b5 [.func (.func 108) #[] #[]] 135] (.bool (xs.any fun x => !okMk x)) := by
  refine spec_enter (args := [_, _]) Tryz.func151 rfl Tryz.ntmps151 rfl (fun w l => ?_)
  repeat' (first | refine wMgA2 ?_ | refine wMgA3 ?_ | (refine is_cd ?_; first | refine hd_condA (fun _ => ?_) (fun _ => ?_)) | refine wMgA14 ?_ | refine wkB (fun _ => ?_) | refine wkC (fun _ _ => ?_) | exact tsA | (refine ts_step rfl (fun HF h1 hle => ?_)))
  rw [← fxI_any _ xs 0]
  apply hd_resS (Hi := [box b5 [.func (.func 108) #[] #[]] 135])
  · (first | exact .inl rfl | exact .inr rfl)
  · rfl
  · exact aR
  · exact aS
  · exact ⟨rfl, rfl⟩
theorem zMgA10 {A : Prop} (h : A := by ((first | (apply OK.plain; rfl) | (apply OK.guarded; rfl; rfl; (intro hg; (try have hk := hg.2); (try have hl := hg.2.2); (try have hm := hg.2.2.2)))); (first | (apply od_call; exact aX; infer_instance; exact aE; exact aN; (focus (first | fail))) | (apply od_callB; exact aX; infer_instance; exact aE; exact aN; (focus (first | exact con_K _ hE)); (case hsp => exact aS))))) : A := h
theorem wMgA15 {A B : Prop} (k : B) (h : Kx B → A := by intro k; (first | (refine is_pu ?_ (by rfl); first | refine hd_opAB ?_) | (refine is_pn ?_; first | refine hd_pn_nil ?_ | refine hd_pnAB ?_ | (refine hd_pn_op rfl ?_)) | (refine is_co ?_; first | ((first | apply hd_ok | apply ch_ok); (focus exact zMgA10); rfl; rfl) | refine hd_storeA ?_ | refine hd_copyA ?_ | refine hd_storeRA ?_) | (refine is_ni ?_; first | (refine is_on ?_; first | refine pn_barA ?_ | refine pn_goA ?_ | refine pt_goA ?_ | refine ts_onA ?_) | refine hd_nil ?_) | refine wkA ?_ | (refine is_ch ?_; refine ch_opAB ?_) | ((first | apply hd_ok | apply ch_ok); (focus exact zMgA10); rfl; rfl)); exact k.go) : A := h ⟨k⟩
theorem atm_K {xs : List Mk} {p : Option Addr} {n c : Nat} {most : Int} (h : PH) (hE : SlR rID h p n c xs) : Det Tryz.prog 116 #[.slice p n c, .int .i64 most, .func (.func 108) #[] #[]] h (.bool (decide ((n : Int) ≤ most) && xs.all okMk)) := by
  refine spec_enter (args := [_, _, _]) Tryz.func116 rfl Tryz.ntmps116 rfl (fun w l => ?_)
  repeat' (first | refine wMgA2 ?_ | refine wMgA3 ?_ | (refine is_cd ?_; first | refine hd_condA (fun _ => ?_) (fun _ => ?_)) | refine wMgA15 ?_ | refine wkB (fun _ => ?_) | refine wkC (fun _ _ => ?_) | exact tsA | (refine ts_step rfl (fun HF h1 hle => ?_)))
  all_goals ((repeat (refine hd_undefer (by first | exact .inl rfl | exact .inr rfl) (by exact aP) ?_)); apply hd_res0; (focus (first | exact .inl rfl | exact .inr rfl)); rfl; exact aR)
  all_goals exact ret_bool (by cases decide ((n : Int) ≤ most) <;> simp [List.not_any_eq_all_not])
--%set CALLBX
--%set CALLBX
/-! ### api.ID -/
theorem right_I {x : Mk}  (h : PH) : Det Tryz.prog 93 #[.agg #[.int .u8 x.1, .int .u16 x.2.1, .int .u32 x.2.2]] h (.bool (okId x)) := by
  refine spec_enter (args := [_]) Tryz.func93 rfl Tryz.ntmps93 rfl (fun w l => ?_)
  repeat' (first | refine wMgA2 ?_ | refine wMgA3 ?_ | (refine is_cd ?_; first | refine hd_condA (fun _ => ?_) (fun _ => ?_)) | refine wMgA15 ?_ | refine wkB (fun _ => ?_) | refine wkC (fun _ _ => ?_) | exact tsA | (refine ts_step rfl (fun HF h1 hle => ?_)))
  all_goals ((repeat (refine hd_undefer (by first | exact .inl rfl | exact .inr rfl) (by exact aP) ?_)); apply hd_res0; (focus (first | exact .inl rfl | exact .inr rfl)); rfl; exact aR)
  all_goals exact ret_bool (by simp [okId, Bool.and_assoc])
theorem zMgA3 {A : Prop} (h : A := by ((first | (apply OK.plain; rfl) | (apply OK.guarded; rfl; rfl; (intro hg; (try have hk := hg.2); (try have hl := hg.2.2); (try have hm := hg.2.2.2)))); (first | (apply od_call; exact aX; infer_instance; exact aE; exact aN; (focus (first | exact right_I _))) | (apply od_callB; exact aX; infer_instance; exact aE; exact aN; (focus (first | exact con_K _ hE)); (case hsp => exact aS))))) : A := h
theorem wMgA16 {A B : Prop} (k : B) (h : Kx B → A := by intro k; (first | (refine is_pu ?_ (by rfl); first | refine hd_opAB ?_) | (refine is_pn ?_; first | refine hd_pn_nil ?_ | refine hd_pnAB ?_ | (refine hd_pn_op rfl ?_)) | (refine is_co ?_; first | ((first | apply hd_ok | apply ch_ok); (focus exact zMgA3); rfl; rfl) | refine hd_storeA ?_ | refine hd_copyA ?_ | refine hd_storeRA ?_) | (refine is_ni ?_; first | (refine is_on ?_; first | refine pn_barA ?_ | refine pn_goA ?_ | refine pt_goA ?_ | refine ts_onA ?_) | refine hd_nil ?_) | refine wkA ?_ | (refine is_ch ?_; refine ch_opAB ?_) | ((first | apply hd_ok | apply ch_ok); (focus exact zMgA3); rfl; rfl)); exact k.go) : A := h ⟨k⟩
theorem at1_I {x : Mk} {b5 : Nat}  (h : PH) : DetB Tryz.prog 154 #[.agg #[.int .u8 x.1, .int .u16 x.2.1, .int .u32 x.2.2], .pointer (some ⟨b5, 0, none⟩)] h [box b5 [.func (.func 93) #[] #[]] 77] (.bool (!okId x)) := by
  refine spec_enter (args := [_, _]) Tryz.func154 rfl Tryz.ntmps154 rfl (fun w l => ?_)
  repeat' (first | refine wMgA2 ?_ | refine wMgA3 ?_ | (refine is_cd ?_; first | refine hd_condA (fun _ => ?_) (fun _ => ?_)) | refine wMgA16 ?_ | refine wkB (fun _ => ?_) | refine wkC (fun _ _ => ?_) | exact tsA | (refine ts_step rfl (fun HF h1 hle => ?_)))
  apply hd_resS (Hi := [box b5 [.func (.func 93) #[] #[]] 77])
  · (first | exact .inl rfl | exact .inr rfl)
  · rfl
  · exact aR
  · exact aS
  · exact ⟨rfl, rfl⟩
theorem zMgA15 {A : Prop} (h : A := by ((first | (apply OK.plain; rfl) | (apply OK.guarded; rfl; rfl; (intro hg; (try have hk := hg.2); (try have hl := hg.2.2); (try have hm := hg.2.2.2)))); (first | (apply od_call; exact aX; infer_instance; exact aE; exact aN; (focus (first | fail))) | (apply od_callB; exact aX; infer_instance; exact aE; exact aN; (focus (first | exact at1_I _)); (case hsp => exact aS))))) : A := h
theorem wMgA17 {A B : Prop} (k : B) (h : Kx B → A := by intro k; (first | (refine is_pu ?_ (by rfl); first | refine hd_opAB ?_) | (refine is_pn ?_; first | refine hd_pn_nil ?_ | refine hd_pnAB ?_ | (refine hd_pn_op rfl ?_)) | (refine is_co ?_; first | ((first | apply hd_ok | apply ch_ok); (focus exact zMgA15); rfl; rfl) | refine hd_storeA ?_ | refine hd_copyA ?_ | refine hd_storeRA ?_) | (refine is_ni ?_; first | (refine is_on ?_; first | refine pn_barA ?_ | refine pn_goA ?_ | refine pt_goA ?_ | refine ts_onA ?_) | refine hd_nil ?_) | refine wkA ?_ | (refine is_ch ?_; refine ch_opAB ?_) | ((first | apply hd_ok | apply ch_ok); (focus exact zMgA15); rfl; rfl)); exact k.go) : A := h ⟨k⟩
theorem idx_I {xs : List Mk} {b5 : Nat} {p : Option Addr} {n c : Nat} (h : PH) (hE : SlR rID h p n c xs) : DetB Tryz.prog 161 #[.slice p n c, .func (.func 154) #[] #[.pointer (some ⟨b5, 0, none⟩)]] h [box b5 [.func (.func 93) #[] #[]] 77] (.int .i64 (fxI (fun x => !okId x) xs 0)) := by
  have hl := hE.len
  have ht := hE.top
  refine spec_enter (args := [_, _]) Tryz.func161 rfl Tryz.ntmps161 rfl (fun w l => ?_)
  repeat' (first | refine wMgA2 ?_ | refine wMgA3 ?_ | (refine is_cd ?_; first | refine hd_condA (fun _ => ?_) (fun _ => ?_)) | refine wMgA17 ?_ | refine wkB (fun _ => ?_) | refine wkC (fun _ _ => ?_) | exact tsA | (refine ts_step rfl (fun HF h1 hle => ?_)))
  refine hd_loopS (ι := Nat) (fun i => i ≤ n ∧ ∀ x ∈ xs.take i, (!okId x) = false) (fun i => [(0, [], .slice p n c), (1, [], .func (.func 154) #[] #[.pointer (some ⟨b5, 0, none⟩)]), (7, [], .int .i64 n), (8, [], .int .i64 i)]) (fun _ => [box b5 [.func (.func 93) #[] #[]] 77]) (fun _ => h) (fun i => n - i) 0 (by simp) (by exact aU) (fun _ hw => hw) (fun i hi => ?_)
  refine hd_split (c := decide (i < n)) (fun hlt => ?_) (fun hlt => ?_)
  · simp only [decide_eq_true_eq] at hlt
    obtain ⟨x, hx⟩ := get_of hl hlt
    obtain ⟨cs, hpub, hok, hptr⟩ := hE.at hx
    obtain ⟨rfl, g1⟩ := rID_ok hok
    refine hd_split (c := !okId x) (fun hu => ?_) (fun hu => ?_)
    · repeat' (first | refine wMgA2 ?_ | refine wMgA3 ?_ | (refine is_cd ?_; first | refine hd_condA (fun _ => ?_) (fun _ => ?_)) | refine wMgA17 ?_ | refine wkB (fun _ => ?_) | refine wkC (fun _ _ => ?_) | exact tsA | (refine ts_step rfl (fun HF h1 hle => ?_)))
      ((repeat (refine hd_undefer (by first | exact .inl rfl | exact .inr rfl) (by exact aP) ?_)); apply hd_resB; (focus (first | exact .inl rfl | exact .inr rfl)); rfl; exact aR; exact aM)
      exact ⟨by rw [fxI_hit hi.2 hx hu]; rfl, rfl⟩
    · repeat' (first | refine wMgA2 ?_ | refine wMgA3 ?_ | (refine is_cd ?_; first | refine hd_condA (fun _ => ?_) (fun _ => ?_)) | refine wMgA17 ?_ | refine wkB (fun _ => ?_) | refine wkC (fun _ _ => ?_) | exact tsA | (refine ts_step rfl (fun HF h1 hle => ?_)))
      refine hd_again (i + 1) ⟨by omega, ?_⟩ (by omega) (by exact aU) (fun w hw => inv_only (by exact aS) hw)
      rw [take_step hx]
      intro e' he'
      rcases List.mem_append.1 he' with h1 | h1
      · exact hi.2 e' h1
      · simp at h1; subst h1; exact hu
  · simp only [decide_eq_false_iff_not] at hlt
    repeat' (first | refine wMgA2 ?_ | refine wMgA3 ?_ | (refine is_cd ?_; first | refine hd_condA (fun _ => ?_) (fun _ => ?_)) | refine wMgA17 ?_ | refine wkB (fun _ => ?_) | refine wkC (fun _ _ => ?_) | exact tsA | (refine ts_step rfl (fun HF h1 hle => ?_)))
    ((repeat (refine hd_undefer (by first | exact .inl rfl | exact .inr rfl) (by exact aP) ?_)); apply hd_resB; (focus (first | exact .inl rfl | exact .inr rfl)); rfl; exact aR; exact aM)
    exact ⟨by rw [fxI_end hi.2 (by omega)]; rfl, rfl⟩
theorem zMgA11 {A : Prop} (h : A := by ((first | (apply OK.plain; rfl) | (apply OK.guarded; rfl; rfl; (intro hg; (try have hk := hg.2); (try have hl := hg.2.2); (try have hm := hg.2.2.2)))); (first | (apply od_call; exact aX; infer_instance; exact aE; exact aN; (focus (first | fail))) | (apply od_callB; exact aX; infer_instance; exact aE; exact aN; (focus (first | exact idx_I _ hE)); (case hsp => exact aS))))) : A := h
theorem wMgA18 {A B : Prop} (k : B) (h : Kx B → A := by intro k; (first | (refine is_pu ?_ (by rfl); first | refine hd_opAB ?_) | (refine is_pn ?_; first | refine hd_pn_nil ?_ | refine hd_pnAB ?_ | (refine hd_pn_op rfl ?_)) | (refine is_co ?_; first | ((first | apply hd_ok | apply ch_ok); (focus exact zMgA11); rfl; rfl) | refine hd_storeA ?_ | refine hd_copyA ?_ | refine hd_storeRA ?_) | (refine is_ni ?_; first | (refine is_on ?_; first | refine pn_barA ?_ | refine pn_goA ?_ | refine pt_goA ?_ | refine ts_onA ?_) | refine hd_nil ?_) | refine wkA ?_ | (refine is_ch ?_; refine ch_opAB ?_) | ((first | apply hd_ok | apply ch_ok); (focus exact zMgA11); rfl; rfl)); exact k.go) : A := h ⟨k⟩
theorem con_I {xs : List Mk} {b5 : Nat} {p : Option Addr} {n c : Nat} (h : PH) (hE : SlR rID h p n c xs) : DetB Tryz.prog 153 #[.slice p n c, .func (.func 154) #[] #[.pointer (some ⟨b5, 0, none⟩)]] h [box b5 [.func (.func 93) #[] #[]] 77] (.bool (xs.any fun x => !okId x)) := by
  refine spec_enter (args := [_, _]) Tryz.func153 rfl Tryz.ntmps153 rfl (fun w l => ?_)
  repeat' (first | refine wMgA2 ?_ | refine wMgA3 ?_ | (refine is_cd ?_; first | refine hd_condA (fun _ => ?_) (fun _ => ?_)) | refine wMgA18 ?_ | refine wkB (fun _ => ?_) | refine wkC (fun _ _ => ?_) | exact tsA | (refine ts_step rfl (fun HF h1 hle => ?_)))
  rw [← fxI_any _ xs 0]
  apply hd_resS (Hi := [box b5 [.func (.func 93) #[] #[]] 77])
  · (first | exact .inl rfl | exact .inr rfl)
  · rfl
  · exact aR
  · exact aS
  · exact ⟨rfl, rfl⟩
theorem zMgA12 {A : Prop} (h : A := by ((first | (apply OK.plain; rfl) | (apply OK.guarded; rfl; rfl; (intro hg; (try have hk := hg.2); (try have hl := hg.2.2); (try have hm := hg.2.2.2)))); (first | (apply od_call; exact aX; infer_instance; exact aE; exact aN; (focus (first | fail))) | (apply od_callB; exact aX; infer_instance; exact aE; exact aN; (focus (first | exact con_I _ hE)); (case hsp => exact aS))))) : A := h
theorem wMgA19 {A B : Prop} (k : B) (h : Kx B → A := by intro k; (first | (refine is_pu ?_ (by rfl); first | refine hd_opAB ?_) | (refine is_pn ?_; first | refine hd_pn_nil ?_ | refine hd_pnAB ?_ | (refine hd_pn_op rfl ?_)) | (refine is_co ?_; first | ((first | apply hd_ok | apply ch_ok); (focus exact zMgA12); rfl; rfl) | refine hd_storeA ?_ | refine hd_copyA ?_ | refine hd_storeRA ?_) | (refine is_ni ?_; first | (refine is_on ?_; first | refine pn_barA ?_ | refine pn_goA ?_ | refine pt_goA ?_ | refine ts_onA ?_) | refine hd_nil ?_) | refine wkA ?_ | (refine is_ch ?_; refine ch_opAB ?_) | ((first | apply hd_ok | apply ch_ok); (focus exact zMgA12); rfl; rfl)); exact k.go) : A := h ⟨k⟩
theorem atm_I {xs : List Mk} {p : Option Addr} {n c : Nat} {most : Int} (h : PH) (hE : SlR rID h p n c xs) : Det Tryz.prog 127 #[.slice p n c, .int .i64 most, .func (.func 93) #[] #[]] h (.bool (decide ((n : Int) ≤ most) && xs.all okId)) := by
  refine spec_enter (args := [_, _, _]) Tryz.func127 rfl Tryz.ntmps127 rfl (fun w l => ?_)
  repeat' (first | refine wMgA2 ?_ | refine wMgA3 ?_ | (refine is_cd ?_; first | refine hd_condA (fun _ => ?_) (fun _ => ?_)) | refine wMgA19 ?_ | refine wkB (fun _ => ?_) | refine wkC (fun _ _ => ?_) | exact tsA | (refine ts_step rfl (fun HF h1 hle => ?_)))
  all_goals ((repeat (refine hd_undefer (by first | exact .inl rfl | exact .inr rfl) (by exact aP) ?_)); apply hd_res0; (focus (first | exact .inl rfl | exact .inr rfl)); rfl; exact aR)
  all_goals exact ret_bool (by cases decide ((n : Int) ≤ most) <;> simp [List.not_any_eq_all_not])
--%set CALLBX
end Go.Proofs.YtmpfeaoofkkhjaaGreat
