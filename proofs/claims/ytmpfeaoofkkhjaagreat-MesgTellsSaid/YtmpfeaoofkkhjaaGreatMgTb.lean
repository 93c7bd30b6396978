/- grapevineref20: numbers, marks, lists, events as bytes. Printed by gen_mgtb.py. -/
import Derived.Test.YtmpfeaoofkkhjaaGreatMgTa
import Derived.Test.YtmpfeaoofkkhjaaGreatFWR
namespace Go.Proofs.YtmpfeaoofkkhjaaGreat
open Go Go.GV
attribute [local irreducible] cw Go.GV.SpecM Go.GV.wpList Exit.then Exit.inBlock Go.GV.bodyPost wpPl wpPm wpPn TS rnd rPost YieldsB wpPT ptK
set_option maxRecDepth 10000
set_option maxHeartbeats 8000000
set_option linter.unusedVariables false
set_option linter.unusedSimpArgs false

theorem pvMgTb1 {A : Prop} (h : A := by (first | rfl | (simp only [decide_eq_true_eq, decide_eq_false_iff_not]; omega) | fail)) : A := h
theorem nvMgTb1 {A : Prop} (h : A := by (first | decide | fail)) : A := h
theorem putA_K {bs : List Int} {x : Int} {K : Nat} (h1 : 1 ≤ K) (h8 : K ≤ 8) : putA bs x K = bs ++ putB x K K := by simp [putA, h8]; omega
theorem zMgTb2 {A : Prop} (h : A := by ((first | (apply OK.plain; rfl) | (apply OK.guarded; rfl; rfl; (intro hg; (try have hk := hg.2); (try have hl := hg.2.2); (try have hm := hg.2.2.2)))); (first | (apply od_call; exact aX; infer_instance; exact aE; exact aN; (focus (first | fail))) ))) : A := h
theorem wMgTb1 {A B : Prop} (k : B) (h : Kx B → A := by intro k; (first | (refine is_pu ?_ (by rfl); first | (apply hd_gon; rfl; rfl; (focus (constructor; exact pvMgTb1; trivial))) | (apply hd_goff; rfl; rfl; (focus exact fun hs => absurd hs.1 (by exact nvMgTb1)); rfl) | (apply hd_gundef; rfl; rfl; rfl) | refine hd_opAB ?_) | (refine is_pn ?_; first | refine hd_pn_nil ?_ | refine hd_pnAB ?_ | (refine hd_pn_op rfl ?_)) | (refine is_co ?_; first | (apply hd_gon; rfl; rfl; (focus (constructor; exact pvMgTb1; trivial))) | (apply hd_goff; rfl; rfl; (focus exact fun hs => absurd hs.1 (by exact nvMgTb1)); rfl) | (apply hd_gundef; rfl; rfl; rfl) | ((first | apply hd_ok | apply ch_ok); (focus exact zMgTb2); rfl; rfl) | refine hd_storeA ?_ | refine hd_copyA ?_) | (refine is_ni ?_; first | (refine is_on ?_; first | refine pn_barA ?_ | refine pn_goA ?_ | refine pt_goA ?_ | refine ts_onA ?_) | refine hd_nil ?_) | refine wkA ?_ | (refine is_ch ?_; refine ch_opAB ?_) | ((first | apply hd_ok | apply ch_ok); (focus exact zMgTb2); rfl; rfl)); exact k.go) : A := h ⟨k⟩
theorem wMgTb2 {A B : Prop} (k : B) (h : Kx B → A := by intro k; ((refine is_cw ?_; refine is_rg ?_; first | refine hd_draw follows_any (by decide +kernel) ?_)); exact k.go) : A := h ⟨k⟩
theorem wMgTb3 {A B : Prop} (k : B) (h : Kx B → A := by intro k; ((refine is_cw ?_; refine is_cd ?_; first | (refine hd_condT (by exact aX) (by exact pvMgTb1) ?_) | (refine hd_condF (by exact aX) (by exact pvMgTb1) ?_))); exact k.go) : A := h ⟨k⟩
theorem ref20_put1 {p : Option Addr} {n c : Nat} {bs : List Int} {x : Int} (h : PH) (hs : Bs h p n c bs) (hn : n ≤ 900000) (hx : 0 ≤ x ∧ x ≤ 18446744073709551615) : GV.Spec Tryz.prog 26 #[.slice p n c, .int .u64 x, .int .i64 1] h fun v h' => ∃ p' n' c', v = .slice p' n' c' ∧ n' = n + 1 ∧ Bs h' p' n' c' (bs ++ putB x 1 1) := by
  refine spec_enter (args := [_, _, _]) Tryz.func26 rfl Tryz.ntmps26 rfl (fun w l => ?_)
  repeat' (first | (refine is_cx ?_ (by rfl); first | (refine hd_cA (s := by exact ref_PutP _ _ _ hs (by omega) (by simp only [inR]; omega)) (k := ?_); rintro _ h1 hle1 ⟨p1, c1, rfl, hb1⟩)) | refine wMgTb2 ?_ | refine wMgTb3 ?_ | (refine is_cd ?_; first | refine hd_condA (fun _ => ?_) (fun _ => ?_)) | refine wMgTb1 ?_ | refine wkB (fun _ => ?_) | refine wkC (fun _ _ => ?_) | exact tsA | (refine ts_step rfl (fun HF h1 hle => ?_)))
  ((repeat (refine hd_undefer (by first | exact .inl rfl | exact .inr rfl) (by exact aP) ?_)); apply hd_res0; (focus (first | exact .inl rfl | exact .inr rfl)); rfl; exact aR)
  have e : putA bs x 1 = bs ++ putB x 1 1 := putA_K (K := 1) (by omega) (by omega)
  rw [e] at hb1 ⊢
  have hl := hs.len
  exact ⟨_, _, _, rfl, by rw [List.length_append, putB_len, hl], hb1⟩
theorem ref20_put2 {p : Option Addr} {n c : Nat} {bs : List Int} {x : Int} (h : PH) (hs : Bs h p n c bs) (hn : n ≤ 900000) (hx : 0 ≤ x ∧ x ≤ 18446744073709551615) : GV.Spec Tryz.prog 26 #[.slice p n c, .int .u64 x, .int .i64 2] h fun v h' => ∃ p' n' c', v = .slice p' n' c' ∧ n' = n + 2 ∧ Bs h' p' n' c' (bs ++ putB x 2 2) := by
  refine spec_enter (args := [_, _, _]) Tryz.func26 rfl Tryz.ntmps26 rfl (fun w l => ?_)
  repeat' (first | (refine is_cx ?_ (by rfl); first | (refine hd_cA (s := by exact ref_PutP _ _ _ hs (by omega) (by simp only [inR]; omega)) (k := ?_); rintro _ h1 hle1 ⟨p1, c1, rfl, hb1⟩)) | refine wMgTb2 ?_ | refine wMgTb3 ?_ | (refine is_cd ?_; first | refine hd_condA (fun _ => ?_) (fun _ => ?_)) | refine wMgTb1 ?_ | refine wkB (fun _ => ?_) | refine wkC (fun _ _ => ?_) | exact tsA | (refine ts_step rfl (fun HF h1 hle => ?_)))
  ((repeat (refine hd_undefer (by first | exact .inl rfl | exact .inr rfl) (by exact aP) ?_)); apply hd_res0; (focus (first | exact .inl rfl | exact .inr rfl)); rfl; exact aR)
  have e : putA bs x 2 = bs ++ putB x 2 2 := putA_K (K := 2) (by omega) (by omega)
  rw [e] at hb1 ⊢
  have hl := hs.len
  exact ⟨_, _, _, rfl, by rw [List.length_append, putB_len, hl], hb1⟩
theorem ref20_put4 {p : Option Addr} {n c : Nat} {bs : List Int} {x : Int} (h : PH) (hs : Bs h p n c bs) (hn : n ≤ 900000) (hx : 0 ≤ x ∧ x ≤ 18446744073709551615) : GV.Spec Tryz.prog 26 #[.slice p n c, .int .u64 x, .int .i64 4] h fun v h' => ∃ p' n' c', v = .slice p' n' c' ∧ n' = n + 4 ∧ Bs h' p' n' c' (bs ++ putB x 4 4) := by
  refine spec_enter (args := [_, _, _]) Tryz.func26 rfl Tryz.ntmps26 rfl (fun w l => ?_)
  repeat' (first | (refine is_cx ?_ (by rfl); first | (refine hd_cA (s := by exact ref_PutP _ _ _ hs (by omega) (by simp only [inR]; omega)) (k := ?_); rintro _ h1 hle1 ⟨p1, c1, rfl, hb1⟩)) | refine wMgTb2 ?_ | refine wMgTb3 ?_ | (refine is_cd ?_; first | refine hd_condA (fun _ => ?_) (fun _ => ?_)) | refine wMgTb1 ?_ | refine wkB (fun _ => ?_) | refine wkC (fun _ _ => ?_) | exact tsA | (refine ts_step rfl (fun HF h1 hle => ?_)))
  ((repeat (refine hd_undefer (by first | exact .inl rfl | exact .inr rfl) (by exact aP) ?_)); apply hd_res0; (focus (first | exact .inl rfl | exact .inr rfl)); rfl; exact aR)
  have e : putA bs x 4 = bs ++ putB x 4 4 := putA_K (K := 4) (by omega) (by omega)
  rw [e] at hb1 ⊢
  have hl := hs.len
  exact ⟨_, _, _, rfl, by rw [List.length_append, putB_len, hl], hb1⟩
theorem wMgTb4 {A B : Prop} (k : B) (h : Kx B → A := by intro k; (first | (refine is_pu ?_ (by rfl); first | (apply hd_gon; rfl; rfl; (focus (constructor; exact pvMgTb1; trivial))) | (apply hd_goff; rfl; rfl; (focus exact fun hs => absurd hs.1 (by exact nvMgTb1)); rfl) | (apply hd_gundef; rfl; rfl; rfl) | refine hd_opAB ?_) | (refine is_pn ?_; first | refine hd_pn_nil ?_ | (apply hd_pn_runG; rfl; rfl; rfl; (focus (constructor; exact pvMgTb1; trivial)); exact aM; exact opB; rfl; rfl) | (apply hd_pn_offG; rfl; rfl; rfl; (focus exact fun hs => absurd hs.1 (by exact nvMgTb1)); exact aM; rfl; rfl) | (apply hd_pn_undefG; rfl; rfl; rfl; exact aM; rfl; rfl) | refine hd_pnAB ?_ | (refine hd_pn_op rfl ?_)) | (refine is_co ?_; first | (apply hd_gon; rfl; rfl; (focus (constructor; exact pvMgTb1; trivial))) | (apply hd_goff; rfl; rfl; (focus exact fun hs => absurd hs.1 (by exact nvMgTb1)); rfl) | (apply hd_gundef; rfl; rfl; rfl) | ((first | apply hd_ok | apply ch_ok); (focus exact zMgTb2); rfl; rfl) | refine hd_storeA ?_ | refine hd_copyA ?_) | (refine is_ni ?_; first | (refine is_on ?_; first | refine pn_barA ?_ | refine pn_goA ?_ | refine pt_goA ?_ | refine ts_onA ?_) | refine hd_nil ?_) | refine wkA ?_ | (refine is_ch ?_; refine ch_opAB ?_) | ((first | apply hd_ok | apply ch_ok); (focus exact zMgTb2); rfl; rfl)); exact k.go) : A := h ⟨k⟩
theorem zMgTb1 {A : Prop} (h : A := by (first | assumption | exact SlR.nil _ _ | exact SlR.mono (by assumption) (by exact aL))) : A := h
theorem ref20_putMark {p : Option Addr} {n c : Nat} {bs : List Int} {x : Mk} (h : PH) (hs : Bs h p n c bs) (hn : n ≤ 800000) (hx : MkR x) : GV.Spec Tryz.prog 29 #[.slice p n c, .int .u8 x.1, .int .u16 x.2.1, .int .u32 x.2.2] h fun v h' => ∃ p' n' c', v = .slice p' n' c' ∧ n' = n + 7 ∧ Bs h' p' n' c' (bs ++ wMark x) := by
  have hx2 := hx
  simp only [MkR, inR] at hx2
  refine spec_enter (args := [_, _, _, _]) Tryz.func29 rfl Tryz.ntmps29 rfl (fun w l => ?_)
  repeat' (first | (refine is_cx ?_ (by rfl); first | (refine hd_cA (s := by exact ref20_put1 _ (by exact zMgTb1) (by omega) (by first | omega | exact ⟨by omega, by omega⟩)) (k := ?_); rintro _ h1 hle1 ⟨p1, n1, c1, rfl, hn1, hb1⟩) | (refine hd_cA (s := by exact ref20_put2 _ (by exact zMgTb1) (by omega) (by omega)) (k := ?_); rintro _ h1 hle1 ⟨p1, n1, c1, rfl, hn1, hb1⟩) | (refine hd_cA (s := by exact ref20_put4 _ (by exact zMgTb1) (by omega) (by omega)) (k := ?_); rintro _ h1 hle1 ⟨p1, n1, c1, rfl, hn1, hb1⟩)) | refine wMgTb2 ?_ | refine wMgTb3 ?_ | (refine is_cd ?_; first | refine hd_condA (fun _ => ?_) (fun _ => ?_)) | refine wMgTb4 ?_ | refine wkB (fun _ => ?_) | refine wkC (fun _ _ => ?_) | exact tsA | (refine ts_step rfl (fun HF h1 hle => ?_)))
  ((repeat (refine hd_undefer (by first | exact .inl rfl | exact .inr rfl) (by exact aP) ?_)); apply hd_res0; (focus (first | exact .inl rfl | exact .inr rfl)); rfl; exact aR)
  exact ⟨_, _, _, rfl, by omega, by simpa only [wMark, List.append_assoc] using hb1⟩
theorem wli_snoc {α : Type} (w : α → List Int) {l : List α} {i : Nat} {y : α} (hy : l[i]? = some y) : wli w (l.take (i + 1)) = wli w (l.take i) ++ w y := by
  have hi : i < l.length := (List.getElem?_eq_some_iff.1 hy).1
  have e : l.take (i + 1) = l.take i ++ [y] := by
    rw [List.take_add_one, hy]; rfl
  rw [e, wli_app]
  simp [wli]
theorem zMgTb3 {A : Prop} (h : A := by ((first | (apply OK.plain; rfl) | (apply OK.guarded; rfl; rfl; (intro hg; (try have hk := hg.2); (try have hl := hg.2.2); (try have hm := hg.2.2.2)))); (first | (apply od_call; exact aX; infer_instance; exact aE; exact aN; (focus (first | exact ref_Unsigned _ _ (by simp only [inR]; omega)))) ))) : A := h
theorem wMgTb5 {A B : Prop} (k : B) (h : Kx B → A := by intro k; (first | (refine is_pu ?_ (by rfl); first | (apply hd_gon; rfl; rfl; (focus (constructor; exact pvMgTb1; trivial))) | (apply hd_goff; rfl; rfl; (focus exact fun hs => absurd hs.1 (by exact nvMgTb1)); rfl) | (apply hd_gundef; rfl; rfl; rfl) | refine hd_opAB ?_) | (refine is_pn ?_; first | refine hd_pn_nil ?_ | (apply hd_pn_runG; rfl; rfl; rfl; (focus (constructor; exact pvMgTb1; trivial)); exact aM; exact opB; rfl; rfl) | (apply hd_pn_offG; rfl; rfl; rfl; (focus exact fun hs => absurd hs.1 (by exact nvMgTb1)); exact aM; rfl; rfl) | (apply hd_pn_undefG; rfl; rfl; rfl; exact aM; rfl; rfl) | refine hd_pnAB ?_ | (refine hd_pn_op rfl ?_)) | (refine is_co ?_; first | (apply hd_gon; rfl; rfl; (focus (constructor; exact pvMgTb1; trivial))) | (apply hd_goff; rfl; rfl; (focus exact fun hs => absurd hs.1 (by exact nvMgTb1)); rfl) | (apply hd_gundef; rfl; rfl; rfl) | ((first | apply hd_ok | apply ch_ok); (focus exact zMgTb3); rfl; rfl) | refine hd_storeA ?_ | refine hd_copyA ?_) | (refine is_ni ?_; first | (refine is_on ?_; first | refine pn_barA ?_ | refine pn_goA ?_ | refine pt_goA ?_ | refine ts_onA ?_) | refine hd_nil ?_) | refine wkA ?_ | (refine is_ch ?_; refine ch_opAB ?_) | ((first | apply hd_ok | apply ch_ok); (focus exact zMgTb3); rfl; rfl)); exact k.go) : A := h ⟨k⟩
theorem wMgTb6 {A B : Prop} (k : B) (h : Kx B → A := by intro k; ((refine is_cw ?_; refine is_rg ?_; first | (refine hd_planT (id := 5) _ [] [.one 0 true, .one 1 true, .one 2 true, .one 3 true, .one 4 true, .one 5 true, .one 6 true, .one 8 true, .one 9 true, .one 10 true, .one 11 true, .one 12 true, .one 13 true, .one 15 true, .one 16 true, .one 17 true, .one 18 true, .one 19 true, .one 20 true, .one 7 false, .one 14 false, .one 21 false, .one 22 true] follows_any (by kernel_rfl) rfl (by kernel_rfl) rfl ?_) | (refine hd_planT (id := 11) _ [] [.one 0 true, .one 1 true, .one 2 true, .one 5 true, .one 6 true, .one 3 false, .one 4 false, .one 7 false, .one 8 false, .one 9 true] follows_any (by kernel_rfl) rfl (by kernel_rfl) rfl ?_) | refine hd_draw follows_any (by decide +kernel) ?_)); exact k.go) : A := h ⟨k⟩
theorem ref20_putList {p q : Option Addr} {n c m d : Nat} {bs : List Int} {xs : List DsT} (h : PH) (hs : Bs h p n c bs) (hx : SlD h q m d xs) (hn : n ≤ 800000) (hm : m ≤ 64) (hf : ∀ x ∈ xs, x.2.2.2.length ≤ 4) : GV.Spec Tryz.prog 27 #[.slice p n c, .slice q m d] h fun v h' => ∃ p' n' c', v = .slice p' n' c' ∧ n' ≤ n + 3000 ∧ Bs h' p' n' c' (bs ++ wal wDesc xs) := by
  have hl := hx.len
  refine spec_enter (args := [_, _]) Tryz.func27 rfl Tryz.ntmps27 rfl (fun w l => ?_)
  repeat' (first | (refine is_cx ?_ (by rfl); first | (refine hd_cA (s := by exact ref20_put1 _ (by exact zMgTb1) (by omega) (by first | omega | exact ⟨by omega, by omega⟩)) (k := ?_); rintro _ h1 hle1 ⟨p1, n1, c1, rfl, hn1, hb1⟩) | (refine hd_cA (s := by exact ref20_put2 _ (by exact zMgTb1) (by omega) (by omega)) (k := ?_); rintro _ h1 hle1 ⟨p1, n1, c1, rfl, hn1, hb1⟩) | (refine hd_cA (s := by exact ref20_put4 _ (by exact zMgTb1) (by omega) (by omega)) (k := ?_); rintro _ h1 hle1 ⟨p1, n1, c1, rfl, hn1, hb1⟩)) | refine wMgTb6 ?_ | refine wMgTb3 ?_ | (refine is_cd ?_; first | refine hd_condA (fun _ => ?_) (fun _ => ?_)) | refine wMgTb5 ?_ | refine wkB (fun _ => ?_) | refine wkC (fun _ _ => ?_) | exact tsA | (refine ts_step rfl (fun HF h1 hle => ?_)))
  have e0 : putB (m : Int) 1 1 = putB (xs.length : Int) 1 1 := by rw [hl]
  rw [e0] at hb1
  refine hd_loopS (ι := Nat × PH × Option Addr × Nat × Nat) (fun i => i.1 ≤ m ∧ h.le i.2.1 ∧ Bs i.2.1 i.2.2.1 i.2.2.2.1 i.2.2.2.2 (bs ++ putB xs.length 1 1 ++ wli wDesc (xs.take i.1)) ∧ i.2.2.2.1 ≤ n + 1 + 37 * i.1) (fun i => [(0, [], .slice i.2.2.1 i.2.2.2.1 i.2.2.2.2), (1, [], .slice q m d), (5, [], .int .i64 i.1)]) (fun _ => []) (fun i => i.2.1) (fun i => m - i.1) (0, h1, p1, n1, c1) ⟨by simp, hle1, by simpa [wli] using hb1, by simp only; omega⟩ (by exact aU) (fun w hw => inv_only .nil hw) (fun i hi => ?_)
  obtain ⟨i, hk, pk, nk, ck⟩ := i
  obtain ⟨hi1, hlk, hbk, hnk⟩ := hi
  dsimp only at hi1 hlk hbk hnk ⊢
  have hxk := hx.mono hlk
  refine hd_split (c := decide (i < m)) (fun hlt => ?_) (fun hlt => ?_)
  · simp only [decide_eq_true_eq] at hlt
    obtain ⟨y, hy⟩ := get_of hl hlt
    obtain ⟨cs1, hpub, hok1, hptr⟩ := hxk.at hy
    obtain ⟨pf, nf, cf, rfl, hff, hz1, hz2, hz3⟩ := rDs_ok hok1
    simp only [inR] at hz1 hz2 hz3
    have lf := hff.len
    have hf4 := hf y (List.mem_of_getElem? hy)
    have hin := SlS_in hff
    repeat' (first | (refine is_cx ?_ (by rfl); first | (refine hd_cA (s := by exact ref20_put1 _ (by exact zMgTb1) (by omega) (by first | omega | exact ⟨by omega, by omega⟩)) (k := ?_); rintro _ h1 hle1 ⟨p1, n1, c1, rfl, hn1, hb1⟩) | (refine hd_cA (s := by exact ref20_put2 _ (by exact zMgTb1) (by omega) (by omega)) (k := ?_); rintro _ h1 hle1 ⟨p1, n1, c1, rfl, hn1, hb1⟩) | (refine hd_cA (s := by exact ref20_put4 _ (by exact zMgTb1) (by omega) (by omega)) (k := ?_); rintro _ h1 hle1 ⟨p1, n1, c1, rfl, hn1, hb1⟩)) | refine wMgTb6 ?_ | refine wMgTb3 ?_ | (refine is_cd ?_; first | refine hd_condA (fun _ => ?_) (fun _ => ?_)) | refine wMgTb5 ?_ | refine wkB (fun _ => ?_) | refine wkC (fun _ _ => ?_) | exact tsA | (refine ts_step rfl (fun HF h1 hle => ?_)))
    have e1 : putB (nf : Int) 1 1 = putB (y.2.2.2.length : Int) 1 1 := by rw [lf]
    rw [e1] at hb1
    generalize hX : bs ++ putB xs.length 1 1 ++ wli wDesc (xs.take i) ++ putB y.1 1 1 ++ putB y.2.1 2 2 ++ putB y.2.2.1 1 1 ++ putB (y.2.2.2.length : Int) 1 1 = X at hb1
    rename_i h2 hle2 _ _ _ _ _
    refine hd_loopS (ι := Nat × PH × Option Addr × Nat × Nat) (fun j => j.1 ≤ nf ∧ hk.le j.2.1 ∧ Bs j.2.1 j.2.2.1 j.2.2.2.1 j.2.2.2.2 (X ++ wli wSpan (y.2.2.2.take j.1)) ∧ j.2.2.2.1 ≤ n + 1 + 37 * i + 5 + 8 * j.1) (fun j => [(0, [], .slice j.2.2.1 j.2.2.2.1 j.2.2.2.2), (1, [], .slice q m d), (5, [], .int .i64 i), (6, [], .int .i64 j.1)]) (fun _ => []) (fun j => j.2.1) (fun j => nf - j.1) (0, h1, p1, n1, c1) ⟨by simp, by exact aL, by simpa [wli] using hb1, by simp only; omega⟩ (by exact aU) (fun w hw => inv_only .nil hw) (fun j hj => ?_)
    obtain ⟨j, hj0, pj, nj, cj⟩ := j
    obtain ⟨hj1, hlj, hbj, hnj⟩ := hj
    dsimp only at hj1 hlj hbj hnj ⊢
    have hpubj := hpub.mono hlj
    have hfj := hff.mono hlj
    refine hd_split (c := decide (j < nf)) (fun hltj => ?_) (fun hltj => ?_)
    · simp only [decide_eq_true_eq] at hltj
      obtain ⟨z, hz⟩ := get_of lf hltj
      obtain ⟨cs2, hpub2, hok2, hptr2⟩ := hfj.at hz
      obtain ⟨rfl, hr1, hr2⟩ := rSpan_ok hok2
      simp only [inR] at hr1 hr2
      repeat' (first | (refine is_cx ?_ (by rfl); first | (refine hd_cA (s := by exact ref20_put1 _ (by exact zMgTb1) (by omega) (by first | omega | exact ⟨by omega, by omega⟩)) (k := ?_); rintro _ h1 hle1 ⟨p1, n1, c1, rfl, hn1, hb1⟩) | (refine hd_cA (s := by exact ref20_put2 _ (by exact zMgTb1) (by omega) (by omega)) (k := ?_); rintro _ h1 hle1 ⟨p1, n1, c1, rfl, hn1, hb1⟩) | (refine hd_cA (s := by exact ref20_put4 _ (by exact zMgTb1) (by omega) (by omega)) (k := ?_); rintro _ h1 hle1 ⟨p1, n1, c1, rfl, hn1, hb1⟩)) | refine wMgTb6 ?_ | refine wMgTb3 ?_ | (refine is_cd ?_; first | refine hd_condA (fun _ => ?_) (fun _ => ?_)) | refine wMgTb5 ?_ | refine wkB (fun _ => ?_) | refine wkC (fun _ _ => ?_) | exact tsA | (refine ts_step rfl (fun HF h1 hle => ?_)))
      exact hd_again (j + 1, h1, p1, n1, c1) ⟨by dsimp only; omega, by exact aL, by rw [wli_snoc _ hz]; simpa only [wSpan, wVal, List.append_assoc] using hb1, by dsimp only; omega⟩ (by dsimp only; omega) (by exact aU) (fun w hw => inv_only .nil hw)
    · simp only [decide_eq_false_iff_not] at hltj
      repeat' (first | (refine is_cx ?_ (by rfl); first | (refine hd_cA (s := by exact ref20_put1 _ (by exact zMgTb1) (by omega) (by first | omega | exact ⟨by omega, by omega⟩)) (k := ?_); rintro _ h1 hle1 ⟨p1, n1, c1, rfl, hn1, hb1⟩) | (refine hd_cA (s := by exact ref20_put2 _ (by exact zMgTb1) (by omega) (by omega)) (k := ?_); rintro _ h1 hle1 ⟨p1, n1, c1, rfl, hn1, hb1⟩) | (refine hd_cA (s := by exact ref20_put4 _ (by exact zMgTb1) (by omega) (by omega)) (k := ?_); rintro _ h1 hle1 ⟨p1, n1, c1, rfl, hn1, hb1⟩)) | refine wMgTb6 ?_ | refine wMgTb3 ?_ | (refine is_cd ?_; first | refine hd_condA (fun _ => ?_) (fun _ => ?_)) | refine wMgTb5 ?_ | refine wkB (fun _ => ?_) | refine wkC (fun _ _ => ?_) | exact tsA | (refine ts_step rfl (fun HF h1 hle => ?_)))
      refine hd_again (i + 1, hj0, pj, nj, cj) ⟨by dsimp only; omega, by exact aL, ?_, by dsimp only; omega⟩ (by dsimp only; omega) (by exact aU) (fun w hw => inv_only .nil hw)
      rw [List.take_of_length_le (by omega), ← hX] at hbj
      rw [wli_snoc _ hy]
      simpa only [wDesc, wal, List.append_assoc] using hbj
  · simp only [decide_eq_false_iff_not] at hlt
    rw [List.take_of_length_le (by omega)] at hbk
    repeat' (first | (refine is_cx ?_ (by rfl); first | (refine hd_cA (s := by exact ref20_put1 _ (by exact zMgTb1) (by omega) (by first | omega | exact ⟨by omega, by omega⟩)) (k := ?_); rintro _ h1 hle1 ⟨p1, n1, c1, rfl, hn1, hb1⟩) | (refine hd_cA (s := by exact ref20_put2 _ (by exact zMgTb1) (by omega) (by omega)) (k := ?_); rintro _ h1 hle1 ⟨p1, n1, c1, rfl, hn1, hb1⟩) | (refine hd_cA (s := by exact ref20_put4 _ (by exact zMgTb1) (by omega) (by omega)) (k := ?_); rintro _ h1 hle1 ⟨p1, n1, c1, rfl, hn1, hb1⟩)) | refine wMgTb6 ?_ | refine wMgTb3 ?_ | (refine is_cd ?_; first | refine hd_condA (fun _ => ?_) (fun _ => ?_)) | refine wMgTb5 ?_ | refine wkB (fun _ => ?_) | refine wkC (fun _ _ => ?_) | exact tsA | (refine ts_step rfl (fun HF h1 hle => ?_)))
    ((repeat (refine hd_undefer (by first | exact .inl rfl | exact .inr rfl) (by exact aP) ?_)); apply hd_res0; (focus (first | exact .inl rfl | exact .inr rfl)); rfl; exact aR)
    exact ⟨_, _, _, rfl, by omega, by simpa only [wal, List.append_assoc] using hbk⟩
theorem putT_app (bs : List Int) {d : List Int} (hd : d.length ≤ 65535) : putT bs d = bs ++ putT [] d := by
  simp [putT, hd, List.append_assoc]
theorem ref20_putEvent {p pv pd : Option Addr} {n c nv cv nd cd : Nat} {bs : List Int} {x : EvD} (h : PH) (hs : Bs h p n c bs) (hx : EvR x) (hv : SlV h pv nv cv x.2.1) (hd : SlB h pd nd cd x.2.2) (hn : n ≤ 800000) (hv4 : nv ≤ 4) (hd64 : nd ≤ 64) : GV.Spec Tryz.prog 28 #[.slice p n c, .agg #[.int .u8 x.1.1, .int .u16 x.1.2.1, .int .u32 x.1.2.2, .slice pv nv cv, .slice pd nd cd]] h fun v h' => ∃ p' n' c', v = .slice p' n' c' ∧ n' ≤ n + 3000 ∧ Bs h' p' n' c' (bs ++ wEv x) := by
  have lv := hv.len
  have ld := hd.len
  have hin : ∀ v ∈ x.2.1, inR .i32 v := hx.2.1
  refine spec_enter (args := [_, _]) Tryz.func28 rfl Tryz.ntmps28 rfl (fun w l => ?_)
  repeat' (first | (refine is_cx ?_ (by rfl); first | (refine hd_cA (s := by exact ref20_put1 _ (by exact zMgTb1) (by omega) (by first | omega | exact ⟨by omega, by omega⟩)) (k := ?_); rintro _ h1 hle1 ⟨p1, n1, c1, rfl, hn1, hb1⟩) | (refine hd_cA (s := by exact ref20_put2 _ (by exact zMgTb1) (by omega) (by omega)) (k := ?_); rintro _ h1 hle1 ⟨p1, n1, c1, rfl, hn1, hb1⟩) | (refine hd_cA (s := by exact ref20_put4 _ (by exact zMgTb1) (by omega) (by omega)) (k := ?_); rintro _ h1 hle1 ⟨p1, n1, c1, rfl, hn1, hb1⟩) | (refine hd_cA (s := by exact ref20_putMark _ (by exact zMgTb1) (by omega) hx.1) (k := ?_); rintro _ h1 hle1 ⟨p1, n1, c1, rfl, hn1, hb1⟩) | (refine hd_cA (s := by exact ref_PutTextP _ (by exact zMgTb1) (by exact zMgTb1) (by omega) (by omega)) (k := ?_); rintro _ h1 hle1 ⟨p1, c1, rfl, hb1⟩)) | refine wMgTb2 ?_ | refine wMgTb3 ?_ | (refine is_cd ?_; first | refine hd_condA (fun _ => ?_) (fun _ => ?_)) | refine wMgTb5 ?_ | refine wkB (fun _ => ?_) | refine wkC (fun _ _ => ?_) | exact tsA | (refine ts_step rfl (fun HF h1 hle => ?_)))
  have e1 : putB (nv : Int) 1 1 = putB (x.2.1.length : Int) 1 1 := by rw [lv]
  rw [e1] at hb1
  rename_i b3 h2 hle2 _ _ _ _ _
  refine hd_loopS (ι := Nat × PH × Option Addr × Nat × Nat) (fun j => j.1 ≤ nv ∧ h.le j.2.1 ∧ Bs j.2.1 j.2.2.1 j.2.2.2.1 j.2.2.2.2 (bs ++ wMark x.1 ++ putB (x.2.1.length : Int) 1 1 ++ wli wVal (x.2.1.take j.1)) ∧ j.2.2.2.1 ≤ n + 8 + 4 * j.1) (fun j => [(0, [], .slice j.2.2.1 j.2.2.2.1 j.2.2.2.2), (3, [], .pointer (some ⟨b3, 0, none⟩)), (5, [], .int .i64 j.1)]) (fun _ => [box b3 [.int .u8 x.1.1, .int .u16 x.1.2.1, .int .u32 x.1.2.2, .slice pv nv cv, .slice pd nd cd] 31]) (fun j => j.2.1) (fun j => nv - j.1) (0, h1, p1, n1, c1) ⟨by simp, by exact aL, by simpa [wli] using hb1, by simp only; omega⟩ (by exact aU) (fun w hw => inv_only (by exact aS) hw) (fun j hj => ?_)
  obtain ⟨j, hj0, pj, nj, cj⟩ := j
  obtain ⟨hj1, hlj, hbj, hnj⟩ := hj
  dsimp only at hj1 hlj hbj hnj ⊢
  have hvj := hv.mono hlj
  refine hd_split (c := decide (j < nv)) (fun hltj => ?_) (fun hltj => ?_)
  · simp only [decide_eq_true_eq] at hltj
    obtain ⟨z, hz⟩ := get_of lv hltj
    obtain ⟨hpub2, hr1, hptr2⟩ := hvj.atI hz
    simp only [inR] at hr1
    repeat' (first | (refine is_cx ?_ (by rfl); first | (refine hd_cA (s := by exact ref20_put1 _ (by exact zMgTb1) (by omega) (by first | omega | exact ⟨by omega, by omega⟩)) (k := ?_); rintro _ h1 hle1 ⟨p1, n1, c1, rfl, hn1, hb1⟩) | (refine hd_cA (s := by exact ref20_put2 _ (by exact zMgTb1) (by omega) (by omega)) (k := ?_); rintro _ h1 hle1 ⟨p1, n1, c1, rfl, hn1, hb1⟩) | (refine hd_cA (s := by exact ref20_put4 _ (by exact zMgTb1) (by omega) (by omega)) (k := ?_); rintro _ h1 hle1 ⟨p1, n1, c1, rfl, hn1, hb1⟩) | (refine hd_cA (s := by exact ref20_putMark _ (by exact zMgTb1) (by omega) hx.1) (k := ?_); rintro _ h1 hle1 ⟨p1, n1, c1, rfl, hn1, hb1⟩) | (refine hd_cA (s := by exact ref_PutTextP _ (by exact zMgTb1) (by exact zMgTb1) (by omega) (by omega)) (k := ?_); rintro _ h1 hle1 ⟨p1, c1, rfl, hb1⟩)) | refine wMgTb2 ?_ | refine wMgTb3 ?_ | (refine is_cd ?_; first | refine hd_condA (fun _ => ?_) (fun _ => ?_)) | refine wMgTb5 ?_ | refine wkB (fun _ => ?_) | refine wkC (fun _ _ => ?_) | exact tsA | (refine ts_step rfl (fun HF h1 hle => ?_)))
    exact hd_again (j + 1, h1, p1, n1, c1) ⟨by dsimp only; omega, by exact aL, by rw [wli_snoc _ hz]; simpa only [wVal, List.append_assoc] using hb1, by dsimp only; omega⟩ (by dsimp only; omega) (by exact aU) (fun w hw => inv_only (by exact aS) hw)
  · simp only [decide_eq_false_iff_not] at hltj
    have hdj := hd.mono hlj
    rw [List.take_of_length_le (by omega)] at hbj
    repeat' (first | (refine is_cx ?_ (by rfl); first | (refine hd_cA (s := by exact ref20_put1 _ (by exact zMgTb1) (by omega) (by first | omega | exact ⟨by omega, by omega⟩)) (k := ?_); rintro _ h1 hle1 ⟨p1, n1, c1, rfl, hn1, hb1⟩) | (refine hd_cA (s := by exact ref20_put2 _ (by exact zMgTb1) (by omega) (by omega)) (k := ?_); rintro _ h1 hle1 ⟨p1, n1, c1, rfl, hn1, hb1⟩) | (refine hd_cA (s := by exact ref20_put4 _ (by exact zMgTb1) (by omega) (by omega)) (k := ?_); rintro _ h1 hle1 ⟨p1, n1, c1, rfl, hn1, hb1⟩) | (refine hd_cA (s := by exact ref20_putMark _ (by exact zMgTb1) (by omega) hx.1) (k := ?_); rintro _ h1 hle1 ⟨p1, n1, c1, rfl, hn1, hb1⟩) | (refine hd_cA (s := by exact ref_PutTextP _ (by exact zMgTb1) (by exact zMgTb1) (by omega) (by omega)) (k := ?_); rintro _ h1 hle1 ⟨p1, c1, rfl, hb1⟩)) | refine wMgTb2 ?_ | refine wMgTb3 ?_ | (refine is_cd ?_; first | refine hd_condA (fun _ => ?_) (fun _ => ?_)) | refine wMgTb5 ?_ | refine wkB (fun _ => ?_) | refine wkC (fun _ _ => ?_) | exact tsA | (refine ts_step rfl (fun HF h1 hle => ?_)))
    ((repeat (refine hd_undefer (by first | exact .inl rfl | exact .inr rfl) (by exact aP) ?_)); apply hd_res0; (focus (first | exact .inl rfl | exact .inr rfl)); rfl; exact aR)
    have e2 := putT_app (bs ++ wMark x.1 ++ putB (x.2.1.length : Int) 1 1 ++ wli wVal x.2.1) (d := x.2.2) (by omega)
    rw [e2] at hb1 ⊢
    have l2 := putT_len [] x.2.2
    have l3 := hbj.len
    simp only [List.length_nil] at l2
    refine ⟨_, _, _, rfl, by rw [List.length_append, l3]; omega, by simpa only [wEv, wal, List.append_assoc] using hb1⟩
end Go.Proofs.YtmpfeaoofkkhjaaGreat
