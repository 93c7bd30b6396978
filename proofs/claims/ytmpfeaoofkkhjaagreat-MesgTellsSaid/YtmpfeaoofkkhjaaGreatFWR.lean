/- What package grapevineref01 yields: the same, by definition. -/
import Derived.Test.YtmpfeaoofkkhjaaGreatFW
namespace Go.Proofs.YtmpfeaoofkkhjaaGreat
open Go Go.GV
attribute [local irreducible] cw Go.GV.SpecM Go.GV.wpList Exit.then Exit.inBlock Go.GV.bodyPost wpPl wpPm wpPn TS rnd rPost YieldsB wpPT ptK
set_option maxRecDepth 10000
set_option maxHeartbeats 4000000
set_option linter.unusedSimpArgs false
set_option linter.unusedVariables false
theorem zFWR2 {A : Prop} (h : A := by ((first | with_reducible apply inR_i64 | with_reducible apply inR_i32 | with_reducible apply inR_u8 | with_reducible apply inR_u16 | with_reducible apply inR_u32 | with_reducible apply inR_u64) <;> (first | omega | grind [Sat]))) : A := h
theorem zFWR4 {A : Prop} (h : A := by ((first | (apply OK.plain; rfl; apply OD.of) | (apply OKp.plain; rfl)); (first | (apply od_orlow 8; exact aX; exact aX; (focus (first | omega | grind [Sat])); (focus (first | omega | grind [Sat])); (focus (first | omega | grind [Sat])); (focus exact zFWR2)) | (apply od_andlow 32; exact aX; exact aX; rfl; (focus (first | omega | grind [Sat])); (focus exact zFWR2); (focus exact zFWR2))))) : A := h
theorem zFWR5 {A : Prop} (h : A := by ((first | (apply OK.plain; rfl) | (apply OK.guarded; rfl; rfl; (intro hg; (try have hk := hg.2); (try have hl := hg.2.2); (try have hm := hg.2.2.2)))); (first | (apply od_call; exact aX; infer_instance; exact aE; exact aN; (focus (first | fail))) ))) : A := h
theorem wFWR1 {A B : Prop} (k : B) (h : Kx B → A := by intro k; (first | (refine is_pu ?_ (by rfl); first | ((first | apply hd_ok | apply ch_ok | (apply hd_pn_run; rfl; exact aM)); (focus exact zFWR4); rfl; rfl) | refine hd_opAB ?_) | (refine is_pn ?_; first | refine hd_pn_nil ?_ | ((first | apply hd_ok | apply ch_ok | (apply hd_pn_run; rfl; exact aM)); (focus exact zFWR4); rfl; rfl) | refine hd_pnAB ?_ | (refine hd_pn_op rfl ?_)) | (refine is_co ?_; first | ((first | apply hd_ok | apply ch_ok); (focus exact zFWR5); rfl; rfl) | refine hd_storeA ?_ | refine hd_copyA ?_ | refine hd_storeRA ?_) | (refine is_ni ?_; first | (refine is_on ?_; first | refine pn_barA ?_ | refine pn_goA ?_ | refine pt_goA ?_ | refine ts_onA ?_) | refine hd_nil ?_) | refine wkA ?_ | (refine is_ch ?_; refine ch_opAB ?_) | ((first | apply hd_ok | apply ch_ok); (focus exact zFWR5); rfl; rfl)); exact k.go) : A := h ⟨k⟩
theorem wFWR2 {A B : Prop} (k : B) (h : Kx B → A := by intro k; ((refine is_cw ?_; refine is_rg ?_; first | refine hd_draw follows_any (by decide +kernel) ?_)); exact k.go) : A := h ⟨k⟩
theorem wFWR3 {A B : Prop} (k : B) (h : Kx B → A := by intro k; ((refine is_cw ?_; refine is_cd ?_; first | (refine hd_condT (by exact aX) (by (first | rfl | grind [Sat])) ?_) | (refine hd_condF (by exact aX) (by (first | rfl | grind [Sat])) ?_))); exact k.go) : A := h ⟨k⟩
theorem ref_Unsigned (x : Int) (h : PH) (hx : inR .i32 x) : Det Tryz.prog 50 #[.int .i32 x] h (.int .u64 (x + 2147483648)) := by
  have hx' := hx
  simp only [inR] at hx'
  refine spec_enter (args := [_]) Tryz.func50 rfl Tryz.ntmps50 rfl (fun w l => ?_)
  repeat' (first | refine wFWR2 ?_ | refine wFWR3 ?_ | (refine is_cd ?_; first | refine hd_condA (fun _ => ?_) (fun _ => ?_)) | refine wFWR1 ?_ | refine wkB (fun _ => ?_) | refine wkC (fun _ _ => ?_) | exact tsA | (refine ts_step rfl (fun HF h1 hle => ?_)))
  all_goals ((repeat (refine hd_undefer (by first | exact .inl rfl | exact .inr rfl) (by exact aP) ?_)); apply hd_res0; (focus (first | exact .inl rfl | exact .inr rfl)); rfl; exact aR)
  all_goals rfl
theorem ref_Signed (x : Int) (h : PH) (hx : inR .u64 x) : Det Tryz.prog 132 #[.int .u64 x] h (.int .i32 (x % 4294967296 - 2147483648)) := by
  have hx' := hx
  simp only [inR] at hx'
  refine spec_enter (args := [_]) Tryz.func132 rfl Tryz.ntmps132 rfl (fun w l => ?_)
  repeat' (first | refine wFWR2 ?_ | refine wFWR3 ?_ | (refine is_cd ?_; first | refine hd_condA (fun _ => ?_) (fun _ => ?_)) | refine wFWR1 ?_ | refine wkB (fun _ => ?_) | refine wkC (fun _ _ => ?_) | exact tsA | (refine ts_step rfl (fun HF h1 hle => ?_)))
  all_goals ((repeat (refine hd_undefer (by first | exact .inl rfl | exact .inr rfl) (by exact aP) ?_)); apply hd_res0; (focus (first | exact .inl rfl | exact .inr rfl)); rfl; exact aR)
  all_goals rfl
theorem ref_rest {p : Option Addr} {n c : Nat} {bs : List Int} (k : Int) (h : PH) (hs : Bs h p n c bs) (hk0 : 0 ≤ k) (hk : k ≤ n) (hn : n ≤ 1000000) : SpecM Tryz.prog 131 #[.slice p n c, .int .i64 k] h [] fun v h' Ho => ∃ p' c', v = .slice p' (n - k.toNat) c' ∧ Ho = [row8 p' (n - k.toNat) c' (bs.drop k.toNat)] := by
  have hcap := hs.cap
  have hdr := hs.dropS (lo := k.toNat) (by omega)
  refine spec_enter (args := [_, _]) Tryz.func131 rfl Tryz.ntmps131 rfl (fun w l => ?_)
  refine hd_nilrow 5 1 ?_
  repeat' (first | refine wFWR2 ?_ | refine wFWR3 ?_ | (refine is_cd ?_; first | refine hd_condA (fun _ => ?_) (fun _ => ?_)) | refine wFWR1 ?_ | refine wkB (fun _ => ?_) | refine wkC (fun _ _ => ?_) | exact tsA | (refine ts_step rfl (fun HF h1 hle => ?_)))
  all_goals ((repeat (refine hd_undefer (by first | exact .inl rfl | exact .inr rfl) (by exact aP) ?_)); apply hd_resR; (focus (first | exact .inl rfl | exact .inr rfl)); rfl; exact aR)
  all_goals exact ⟨_, _, by simp only [Nat.zero_add]; rfl, by simp only [Nat.zero_add, List.nil_append]⟩
theorem wFWR4 {A B : Prop} (k : B) (h : Kx B → A := by intro k; (first | (refine is_pu ?_ (by rfl); first | ((first | apply hd_ok | apply ch_ok | (apply hd_pn_run; rfl; exact aM)); (focus exact zFWR4); rfl; rfl) | refine hd_opAB ?_) | (refine is_pn ?_; first | refine hd_pn_nil ?_ | ((first | apply hd_ok | apply ch_ok | (apply hd_pn_run; rfl; exact aM)); (focus exact zFWR4); rfl; rfl) | refine hd_pnAB ?_ | (refine hd_pn_op rfl ?_)) | (refine is_co ?_; first | ((first | apply hd_ok | apply ch_ok); (focus exact zFWR5); rfl; rfl) | refine hd_storeA ?_ | refine hd_copyA ?_) | (refine is_ni ?_; first | (refine is_on ?_; first | refine pn_barA ?_ | refine pn_goA ?_ | refine pt_goA ?_ | refine ts_onA ?_) | refine hd_nil ?_) | refine wkA ?_ | (refine is_ch ?_; refine ch_opAB ?_) | ((first | apply hd_ok | apply ch_ok); (focus exact zFWR5); rfl; rfl)); exact k.go) : A := h ⟨k⟩
theorem zFWR6 {A : Prop} (h : A := by (first | assumption | exact Bs.mono (by assumption) (by exact aL) | exact Bs.mono (Bs.dropS (by assumption) (by (first | omega | grind [Sat]))) (by exact aL) | exact Bs.mono (Bs.sub (by assumption) (by (first | omega | grind [Sat])) (by (first | omega | grind [Sat]))) (by exact aL))) : A := h
theorem zFWR1 {A : Prop} (h : A := by exact ref_rest _ _ (by exact zFWR6) (by (first | omega | grind [Sat])) (by (first | omega | grind [Sat])) (by (first | omega | grind [Sat]))) : A := h
theorem ref_Take {p : Option Addr} {n c : Nat} {bs : List Int} (k : Int) (h : PH) (hs : Bs h p n c bs) (hn : n ≤ 1000000) : SpecM Tryz.prog 54 #[.slice p n c, .int .i64 k] h [] fun v h' Ho => ∃ p' m c', v = .tuple #[.int .u64 (takN bs k), .slice p' m c', .bool (takOk bs k)] ∧ m = (takR bs k).length ∧ Ho = [row8 p' m c' (takR bs k)] := by
  have hlen := hs.len
  have hcap := hs.cap
  refine spec_enter (args := [_, _]) Tryz.func54 rfl Tryz.ntmps54 rfl (fun w l => ?_)
  refine hd_split (c := takOk bs k) (fun hk => ?_) (fun hk => ?_)
  · have hk' : 1 ≤ k ∧ k ≤ 8 ∧ k ≤ n := by simp [takOk] at hk; omega
    obtain ⟨k, rfl⟩ := Int.eq_ofNat_of_zero_le (a := k) (by omega)
    repeat' (first | refine wFWR2 ?_ | refine wFWR3 ?_ | (refine is_cd ?_; first | refine hd_condA (fun _ => ?_) (fun _ => ?_)) | refine wFWR4 ?_ | refine wkB (fun _ => ?_) | refine wkC (fun _ _ => ?_) | (apply hd_callM (Hi := []); exact aX; infer_instance; exact aE; exact aN; rfl; (focus exact fun _ hw => hw); (focus exact zFWR1); (focus (rintro _ h1 _ hle1 ⟨p1, c1, rfl, rfl⟩; skip))) | exact tsA | (refine ts_step rfl (fun HF h1 hle => ?_)))
    · refine hd_loopS (ι := Nat) (fun i => i ≤ k) (fun i => [(7, [], .int .u64 (num (bs.take i))), (8, [], .int .i64 i), (0, [], .slice p n c), (1, [], .int .i64 k)]) (fun i => []) (fun _ => h) (fun i => k - i) 0 (by omega) (by exact aU) (fun _ hw => hw) (fun i hi => ?_)
      refine hd_split (c := decide (i < k)) (fun hlt => ?_) (fun hlt => ?_)
      · simp only [decide_eq_true_eq] at hlt
        have hil : i < bs.length := by omega
        obtain ⟨y, hy⟩ : ∃ y, bs[i]? = some y := ⟨_, List.getElem?_eq_getElem hil⟩
        obtain ⟨hpub, hy0, hy1, hptr⟩ := el8_at hs hy
        have hnb := num_bound hs.b8 i (by omega)
        have hpw := pow256_le (i := i) (by omega)
        have hsn : num (bs.take (i + 1)) = num (bs.take i) * 256 + y := by rw [take_snoc hy, num_snoc]
        generalize num (bs.take i) = X at *
        repeat' (first | refine wFWR2 ?_ | refine wFWR3 ?_ | (refine is_cd ?_; first | refine hd_condA (fun _ => ?_) (fun _ => ?_)) | refine wFWR4 ?_ | refine wkB (fun _ => ?_) | refine wkC (fun _ _ => ?_) | (apply hd_callM (Hi := []); exact aX; infer_instance; exact aE; exact aN; rfl; (focus exact fun _ hw => hw); (focus exact zFWR1); (focus (rintro _ h1 _ hle1 ⟨p1, c1, rfl, rfl⟩; skip))) | exact tsA | (refine ts_step rfl (fun HF h1 hle => ?_)))
        refine hd_again (i + 1) (by omega) (by omega) ?_ (fun w hw => hw)
        rw [hsn]
        exact aU
      · simp only [decide_eq_false_iff_not] at hlt
        have hik : i = k := by omega
        subst hik
        repeat' (first | refine wFWR2 ?_ | refine wFWR3 ?_ | (refine is_cd ?_; first | refine hd_condA (fun _ => ?_) (fun _ => ?_)) | refine wFWR4 ?_ | refine wkB (fun _ => ?_) | refine wkC (fun _ _ => ?_) | (apply hd_callM (Hi := []); exact aX; infer_instance; exact aE; exact aN; rfl; (focus exact fun _ hw => hw); (focus exact zFWR1); (focus (rintro _ h1 _ hle1 ⟨p1, c1, rfl, rfl⟩; skip))) | exact tsA | (refine ts_step rfl (fun HF h1 hle => ?_)))
        ((repeat (refine hd_undefer (by first | exact .inl rfl | exact .inr rfl) (by exact aP) ?_)); apply hd_resR; (focus (first | exact .inl rfl | exact .inr rfl)); rfl; exact aR)
        have e1 : takN bs i = num (bs.take i) := by simp only [takN]; rw [if_pos hk]; simp
        have e2 : takR bs i = bs.drop i := by simp only [takR]; rw [if_pos hk]; simp
        exact ⟨_, _, _, by rw [hk, e1]; rfl, by rw [e2]; simp [hlen], by rw [e2]; rfl⟩
  · have hk' : ¬ (1 ≤ k ∧ k ≤ 8 ∧ k ≤ n) := by simp [takOk] at hk; omega
    repeat' (first | refine wFWR2 ?_ | refine wFWR3 ?_ | (refine is_cd ?_; first | refine hd_condA (fun _ => ?_) (fun _ => ?_)) | refine wFWR4 ?_ | refine wkB (fun _ => ?_) | refine wkC (fun _ _ => ?_) | (apply hd_callM (Hi := []); exact aX; infer_instance; exact aE; exact aN; rfl; (focus exact fun _ hw => hw); (focus exact zFWR1); (focus (rintro _ h1 _ hle1 ⟨p1, c1, rfl, rfl⟩; skip))) | exact tsA | (refine ts_step rfl (fun HF h1 hle => ?_)))
    refine hd_nilrow 5 1 ?_
    ((repeat (refine hd_undefer (by first | exact .inl rfl | exact .inr rfl) (by exact aP) ?_)); apply hd_resR; (focus (first | exact .inl rfl | exact .inr rfl)); rfl; exact aR)
    have e1 : takN bs k = 0 := by simp [takN, hk]
    have e2 : takR bs k = [] := by simp [takR, hk]
    exact ⟨_, _, _, by rw [hk, e1]; rfl, by rw [e2]; rfl, by rw [e2]; rfl⟩
theorem div_step (x : Int) (j : Nat) : x / 2 ^ (8 * j) / 256 = x / 2 ^ (8 * (j + 1)) := by
  rw [Int.ediv_ediv_of_nonneg (by have := Int.pow_pos (n := 2) (m := 8 * j) (by omega); omega), show (256 : Int) = 2 ^ 8 by rfl, ← Int.pow_add, show 8 * (j + 1) = 8 * j + 8 by omega]
theorem div_in {x : Int} (hx : inR .u64 x) (j : Nat) : 0 ≤ x / 2 ^ (8 * j) ∧ x / 2 ^ (8 * j) ≤ 18446744073709551615 := by
  have h1 := Int.pow_pos (n := 2) (m := 8 * j) (by omega)
  have := nonneg_inR_div hx hx.1 h1
  exact this
theorem ref_Put {p : Option Addr} {n c : Nat} {bs : List Int} (x k : Int) (h : PH) (hs : Bs h p n c bs) (hn : n ≤ 1000000) (hx : inR .u64 x) : SpecM Tryz.prog 32 #[.slice p n c, .int .u64 x, .int .i64 k] h [] fun v h' Ho => ∃ p' m c', v = .slice p' m c' ∧ m = (putA bs x k).length ∧ Ho = [row8 p' m c' (putA bs x k)] := by
  have hlen := hs.len
  refine spec_enter (args := [_, _, _]) Tryz.func32 rfl Tryz.ntmps32 rfl (fun w l => ?_)
  refine hd_nilrow 5 1 ?_
  refine hd_split (c := decide (1 ≤ k ∧ k ≤ 8)) (fun hk => ?_) (fun hk => ?_)
  · have hk' : 1 ≤ k ∧ k ≤ 8 := by simpa using hk
    obtain ⟨k, rfl⟩ := Int.eq_ofNat_of_zero_le (a := k) (by omega)
    repeat' (first | refine wFWR2 ?_ | refine wFWR3 ?_ | (refine is_cd ?_; first | refine hd_condA (fun _ => ?_) (fun _ => ?_)) | refine wFWR4 ?_ | refine wkB (fun _ => ?_) | refine wkC (fun _ _ => ?_) | (apply hd_callM (Hi := []); exact aX; infer_instance; exact aE; exact aN; rfl; (focus exact fun _ hw => hw); (focus exact zFWR1); (focus (rintro _ h1 _ hle1 ⟨p1, c1, rfl, rfl⟩; skip))) | exact tsA | (refine ts_step rfl (fun HF h1 hle => ?_)))
    rename_i p1 c1
    refine hd_loopS (ι := Nat × Option Addr × Nat) (fun i => i.1 ≤ k) (fun i => [(7, [], .slice i.2.1 (n + i.1) i.2.2), (8, [], .int .i64 ((k : Int) - 1 - i.1)), (0, [], .slice p n c), (1, [], .int .u64 x), (2, [], .int .i64 k)]) (fun i => [row8 i.2.1 (n + i.1) i.2.2 (bs ++ putB x k i.1)]) (fun _ => h) (fun i => k - i.1) (0, p1, c1) (by simp only; omega) (by exact aU) (by simp [putB]) (fun i hi => ?_)
    obtain ⟨i, p2, c2⟩ := i
    simp only at hi
    simp only
    refine hd_split (c := decide (i < k)) (fun hlt => ?_) (fun hlt => ?_)
    · simp only [decide_eq_true_eq] at hlt
      repeat' (first | refine wFWR2 ?_ | refine wFWR3 ?_ | (refine is_cd ?_; first | refine hd_condA (fun _ => ?_) (fun _ => ?_)) | refine wFWR4 ?_ | refine wkB (fun _ => ?_) | refine wkC (fun _ _ => ?_) | (apply hd_callM (Hi := []); exact aX; infer_instance; exact aE; exact aN; rfl; (focus exact fun _ hw => hw); (focus exact zFWR1); (focus (rintro _ h1 _ hle1 ⟨p1, c1, rfl, rfl⟩; skip))) | exact tsA | (refine ts_step rfl (fun HF h1 hle => ?_)))
      refine hd_loopS (ι := Nat) (fun j => j ≤ k - 1 - i) (fun j => [(9, [], .int .u64 (x / 2 ^ (8 * j))), (10, [], .int .i64 j), (7, [], .slice p2 (n + i) c2), (8, [], .int .i64 ((k : Int) - 1 - i)), (0, [], .slice p n c), (1, [], .int .u64 x), (2, [], .int .i64 k)]) (fun _ => [row8 p2 (n + i) c2 (bs ++ putB x k i)]) (fun _ => h) (fun j => k - 1 - i - j) 0 (by omega) (by (repeat (first | exact Sub.nil | (apply Sub.cons; rfl; (focus (first | rfl | simp | (congr 1; omega)))))); done) (fun _ hw => hw) (fun j hj => ?_)
      have hdj := div_in hx j
      refine hd_split (c := decide (j < k - 1 - i)) (fun hjt => ?_) (fun hjt => ?_)
      · simp only [decide_eq_true_eq] at hjt
        have hst := div_step x j
        generalize hX : x / 2 ^ (8 * j) = X at *
        repeat' (first | refine wFWR2 ?_ | refine wFWR3 ?_ | (refine is_cd ?_; first | refine hd_condA (fun _ => ?_) (fun _ => ?_)) | refine wFWR4 ?_ | refine wkB (fun _ => ?_) | refine wkC (fun _ _ => ?_) | (apply hd_callM (Hi := []); exact aX; infer_instance; exact aE; exact aN; rfl; (focus exact fun _ hw => hw); (focus exact zFWR1); (focus (rintro _ h1 _ hle1 ⟨p1, c1, rfl, rfl⟩; skip))) | exact tsA | (refine ts_step rfl (fun HF h1 hle => ?_)))
        refine hd_again (j + 1) (by omega) (by omega) ?_ (fun w hw => hw)
        rw [← hst]
        exact aU
      · simp only [decide_eq_false_iff_not] at hjt
        have hje : j = k - 1 - i := by omega
        generalize hX : x / 2 ^ (8 * j) = X at *
        repeat' (first | refine wFWR2 ?_ | refine wFWR3 ?_ | (refine is_cd ?_; first | refine hd_condA (fun _ => ?_) (fun _ => ?_)) | refine wFWR4 ?_ | refine wkB (fun _ => ?_) | refine wkC (fun _ _ => ?_) | (apply hd_callM (Hi := []); exact aX; infer_instance; exact aE; exact aN; rfl; (focus exact fun _ hw => hw); (focus exact zFWR1); (focus (rintro _ h1 _ hle1 ⟨p1, c1, rfl, rfl⟩; skip))) | exact tsA | (refine ts_step rfl (fun HF h1 hle => ?_)))
        rename_i g p3 c3
        refine hd_again (i + 1, p3, c3) (by simp only; omega) (by simp only; omega) (by exact aU) (fun w hw => ?_)
        have e : X % 256 = (x / 2 ^ (8 * (k - 1 - i))) % 256 := by rw [← hX, hje]
        have := hw.drop2
        rw [e] at this
        simp only [row8, putB_succ, ← List.append_assoc, vI_append] at this ⊢
        exact this
    · simp only [decide_eq_false_iff_not] at hlt
      have hik : i = k := by omega
      subst hik
      repeat' (first | refine wFWR2 ?_ | refine wFWR3 ?_ | (refine is_cd ?_; first | refine hd_condA (fun _ => ?_) (fun _ => ?_)) | refine wFWR4 ?_ | refine wkB (fun _ => ?_) | refine wkC (fun _ _ => ?_) | (apply hd_callM (Hi := []); exact aX; infer_instance; exact aE; exact aN; rfl; (focus exact fun _ hw => hw); (focus exact zFWR1); (focus (rintro _ h1 _ hle1 ⟨p1, c1, rfl, rfl⟩; skip))) | exact tsA | (refine ts_step rfl (fun HF h1 hle => ?_)))
      ((repeat (refine hd_undefer (by first | exact .inl rfl | exact .inr rfl) (by exact aP) ?_)); apply hd_resR; (focus (first | exact .inl rfl | exact .inr rfl)); rfl; exact aR)
      have e : putA bs x i = bs ++ putB x i i := by simp only [putA]; rw [if_pos hk']; simp
      exact ⟨_, _, _, rfl, by rw [e]; simp [hlen, putB_len], by rw [e]⟩
  · have hk' : ¬ (1 ≤ k ∧ k ≤ 8) := by simpa using hk
    repeat' (first | refine wFWR2 ?_ | refine wFWR3 ?_ | (refine is_cd ?_; first | refine hd_condA (fun _ => ?_) (fun _ => ?_)) | refine wFWR4 ?_ | refine wkB (fun _ => ?_) | refine wkC (fun _ _ => ?_) | (apply hd_callM (Hi := []); exact aX; infer_instance; exact aE; exact aN; rfl; (focus exact fun _ hw => hw); (focus exact zFWR1); (focus (rintro _ h1 _ hle1 ⟨p1, c1, rfl, rfl⟩; skip))) | exact tsA | (refine ts_step rfl (fun HF h1 hle => ?_)))
    ((repeat (refine hd_undefer (by first | exact .inl rfl | exact .inr rfl) (by exact aP) ?_)); apply hd_resR; (focus (first | exact .inl rfl | exact .inr rfl)); rfl; exact aR)
    have e : putA bs x k = bs := by simp only [putA]; rw [if_neg hk']
    exact ⟨_, _, _, by simp only [Nat.zero_add]; rfl, by rw [e, hlen], by rw [e]; simp only [Nat.zero_add, List.nil_append]⟩
theorem ref_PutP {p : Option Addr} {n c : Nat} {bs : List Int} (x k : Int) (h : PH) (hs : Bs h p n c bs) (hn : n ≤ 1000000) (hx : inR .u64 x) : GV.Spec Tryz.prog 32 #[.slice p n c, .int .u64 x, .int .i64 k] h fun v h' => ∃ p' c', v = .slice p' (putA bs x k).length c' ∧ Bs h' p' (putA bs x k).length c' (putA bs x k) := by
  refine SpecM.turn (ref_Put x k h hs hn hx) ?_
  rintro C v h' Ho w ⟨p', m, c', rfl, rfl, rfl⟩ hi
  have hl := hs.len
  obtain ⟨h2, _, hb, hi2⟩ := Inv.pub8 hi rfl (putA_b8 hs.b8 x k) (by unfold putA; split <;> (try simp [putB_len]) <;> omega)
  exact ⟨h2, [], ⟨⟨p', c', rfl, hb⟩, rfl⟩, hi2⟩
theorem ref_TakeP {p : Option Addr} {n c : Nat} {bs : List Int} (k : Int) (h : PH) (hs : Bs h p n c bs) (hn : n ≤ 1000000) : GV.Spec Tryz.prog 54 #[.slice p n c, .int .i64 k] h fun v h' => ∃ p' c', v = .tuple #[.int .u64 (takN bs k), .slice p' (takR bs k).length c', .bool (takOk bs k)] ∧ Bs h' p' (takR bs k).length c' (takR bs k) := by
  refine SpecM.turn (ref_Take k h hs hn) ?_
  rintro C v h' Ho w ⟨p', m, c', rfl, rfl, rfl⟩ hi
  have hl := hs.len
  have hl2 := takR_len bs k
  obtain ⟨h2, _, hb, hi2⟩ := Inv.pub8 hi rfl (takR_b8 hs.b8 k) (by omega)
  exact ⟨h2, [], ⟨⟨p', c', rfl, hb⟩, rfl⟩, hi2⟩
theorem putA_two (bs : List Int) (x : Int) : putA bs x 2 = bs ++ putB x 2 2 := by simp only [putA]; rw [if_pos (by decide)]; rfl
theorem zFWR3 {A : Prop} (h : A := by exact ref_Put _ _ _ (by exact zFWR6) (by (first | omega | grind [Sat])) (by exact zFWR2)) : A := h
theorem ref_PutText {p q : Option Addr} {n c m d : Nat} {bs ts : List Int} (h : PH) (hs : Bs h p n c bs) (ht : Bs h q m d ts) (hn : n ≤ 1000000) (hm : m ≤ 1000000) : SpecM Tryz.prog 51 #[.slice p n c, .slice q m d] h [] fun v h' Ho => ∃ p' m c', v = .slice p' m c' ∧ m = (putT bs ts).length ∧ Ho = [row8 p' m c' (putT bs ts)] := by
  have hlen := hs.len
  have hlen2 := ht.len
  have hpl : (putA bs m 2).length = n + 2 := by rw [putA_two]; simp [putB_len, hlen]
  refine spec_enter (args := [_, _]) Tryz.func51 rfl Tryz.ntmps51 rfl (fun w l => ?_)
  refine hd_split (c := decide (m ≤ 65535)) (fun hk => ?_) (fun hk => ?_)
  · have hk' : m ≤ 65535 := by simpa using hk
    repeat' (first | refine wFWR2 ?_ | refine wFWR3 ?_ | (refine is_cd ?_; first | refine hd_condA (fun _ => ?_) (fun _ => ?_)) | refine wFWR4 ?_ | refine wkB (fun _ => ?_) | refine wkC (fun _ _ => ?_) | (apply hd_callM (Hi := []); exact aX; infer_instance; exact aE; exact aN; rfl; (focus exact fun _ hw => hw); (focus exact zFWR1); (focus (rintro _ h1 _ hle1 ⟨p1, c1, rfl, rfl⟩; skip))) | (apply hd_callM (Hi := []); exact aX; infer_instance; exact aE; exact aN; rfl; (focus exact fun _ hw => hw); (focus exact zFWR3); (focus (rintro _ h1 _ hle1 ⟨p1, m1, c1, rfl, hm1, rfl⟩; skip))) | exact tsA | (refine ts_step rfl (fun HF h1 hle => ?_)))
    ((repeat (refine hd_undefer (by first | exact .inl rfl | exact .inr rfl) (by exact aP) ?_)); apply hd_resR; (focus (first | exact .inl rfl | exact .inr rfl)); rfl; exact aR)
    have e : putT bs ts = bs ++ putB m 2 2 ++ ts := by simp only [putT]; rw [if_pos (by omega), hlen2]
    exact ⟨_, _, _, rfl, by rw [e]; simp [hlen, hlen2, putB_len, hm1, hpl]; omega, by rw [e, putA_two]; simp only [row8, vI_append]; rfl⟩
  · have hk' : ¬ m ≤ 65535 := by simpa using hk
    repeat' (first | refine wFWR2 ?_ | refine wFWR3 ?_ | (refine is_cd ?_; first | refine hd_condA (fun _ => ?_) (fun _ => ?_)) | refine wFWR4 ?_ | refine wkB (fun _ => ?_) | refine wkC (fun _ _ => ?_) | (apply hd_callM (Hi := []); exact aX; infer_instance; exact aE; exact aN; rfl; (focus exact fun _ hw => hw); (focus exact zFWR1); (focus (rintro _ h1 _ hle1 ⟨p1, c1, rfl, rfl⟩; skip))) | (apply hd_callM (Hi := []); exact aX; infer_instance; exact aE; exact aN; rfl; (focus exact fun _ hw => hw); (focus exact zFWR3); (focus (rintro _ h1 _ hle1 ⟨p1, m1, c1, rfl, hm1, rfl⟩; skip))) | exact tsA | (refine ts_step rfl (fun HF h1 hle => ?_)))
    ((repeat (refine hd_undefer (by first | exact .inl rfl | exact .inr rfl) (by exact aP) ?_)); apply hd_resR; (focus (first | exact .inl rfl | exact .inr rfl)); rfl; exact aR)
    have e : putT bs ts = bs := by simp only [putT]; rw [if_neg (by omega)]
    exact ⟨_, _, _, rfl, by rw [e, hlen]; rfl, by rw [e]; rfl⟩
theorem wFWR5 {A B : Prop} (k : B) (h : Kx B → A := by intro k; ((refine is_cw ?_; refine is_rg ?_; first | (refine hd_planT (id := 3) _ [] [.one 0 true, .one 1 true, .one 2 true, .one 3 true, .one 4 true, .one 5 true, .one 6 true, .one 7 true, .one 8 true, .one 9 true, .one 10 true] follows_any (by kernel_rfl) rfl (by kernel_rfl) rfl ?_) | refine hd_draw follows_any (by decide +kernel) ?_)); exact k.go) : A := h ⟨k⟩
theorem ref_TakeText {p : Option Addr} {n c : Nat} {bs : List Int} (k : Int) (h : PH) (hs : Bs h p n c bs) (hn : n ≤ 1000000) : SpecM Tryz.prog 133 #[.slice p n c, .int .i64 k] h [] fun v h' Ho => ∃ p' m c' q' j d', v = .tuple #[.slice p' m c', .slice q' j d', .bool (tkOk bs k)] ∧ m = (tkT bs k).length ∧ j = (tkR bs k).length ∧ Ho = [row8 q' j d' (tkR bs k), row8 p' m c' (tkT bs k)] := by
  have hlen := hs.len
  have hcap := hs.cap
  refine spec_enter (args := [_, _]) Tryz.func133 rfl Tryz.ntmps133 rfl (fun w l => ?_)
  refine hd_split (c := decide (2 ≤ n)) (fun hk => ?_) (fun hk => ?_)
  · have hk2 : 2 ≤ n := by simpa using hk
    obtain ⟨y0, hy0⟩ : ∃ y, bs[0]? = some y := ⟨_, List.getElem?_eq_getElem (by omega)⟩
    obtain ⟨y1, hy1⟩ : ∃ y, bs[1]? = some y := ⟨_, List.getElem?_eq_getElem (by omega)⟩
    obtain ⟨hpub0, hy00, hy01, hptr⟩ := el8_at hs hy0
    obtain ⟨hpub1, hy10, hy11, _⟩ := el8_at hs hy1
    have h2 : two bs = y0 * 256 + y1 := by simp [two, hy0, hy1]
    have hok : tkOk bs k = (decide (y0 * 256 + y1 ≤ n - 2) && decide (y0 * 256 + y1 ≤ k)) := by simp [tkOk, h2, hlen, hk2]
    refine hd_split (c := tkOk bs k) (fun hk3 => ?_) (fun hk3 => ?_)
    · have hk4 : y0 * 256 + y1 ≤ n - 2 ∧ y0 * 256 + y1 ≤ k := by rw [hok] at hk3; simpa using hk3
      have hT : Bs h (subp p c 0 1) ((2 + (y0 * 256 + y1)).toNat - 0) (c - 0) ((bs.take (2 + (y0 * 256 + y1)).toNat).drop 0) := hs.sub (by omega) (by omega)
      have e1 : tkT bs k = ((bs.take (2 + (y0 * 256 + y1)).toNat).drop 0).drop (2 : Int).toNat := by
        simp only [tkT, hk3, if_true, h2]
        rw [List.drop_zero, show (2 + (y0 * 256 + y1)).toNat = 2 + (y0 * 256 + y1).toNat by omega, show (2 : Int).toNat = 2 from rfl, List.drop_take, Nat.add_sub_cancel_left]
      have e2 : tkR bs k = bs.drop (2 + (y0 * 256 + y1)).toNat := by
        simp only [tkR, hk3, if_true, h2]
        rw [List.drop_drop, show (2 + (y0 * 256 + y1)).toNat = 2 + (y0 * 256 + y1).toNat by omega]
      have l1 := hT.len
      repeat' (first | refine wFWR5 ?_ | refine wFWR3 ?_ | (refine is_cd ?_; first | refine hd_condA (fun _ => ?_) (fun _ => ?_)) | refine wFWR4 ?_ | refine wkB (fun _ => ?_) | refine wkC (fun _ _ => ?_) | (apply hd_callM (Hi := []); exact aX; infer_instance; exact aE; exact aN; rfl; (focus exact fun _ hw => hw); (focus exact zFWR1); (focus (rintro _ h1 _ hle1 ⟨p1, c1, rfl, rfl⟩; skip))) | (apply hd_callM (Hi := []); exact aX; infer_instance; exact aE; exact aN; rfl; (focus exact fun _ hw => hw); (focus exact zFWR3); (focus (rintro _ h1 _ hle1 ⟨p1, m1, c1, rfl, hm1, rfl⟩; skip))) | exact tsA | (refine ts_step rfl (fun HF h1 hle => ?_)))
      ((repeat (refine hd_undefer (by first | exact .inl rfl | exact .inr rfl) (by exact aP) ?_)); apply hd_resR; (focus (first | exact .inl rfl | exact .inr rfl)); rfl; exact aR)
      exact ⟨_, _, _, _, _, _, by rw [hk3]; rfl, by rw [e1, List.length_drop, l1], by rw [e2, List.length_drop, hlen], by rw [e1, e2]; rfl⟩
    · have hk4 : ¬ (y0 * 256 + y1 ≤ n - 2 ∧ y0 * 256 + y1 ≤ k) := by rw [hok] at hk3; simpa using hk3
      repeat' (first | refine wFWR5 ?_ | refine wFWR3 ?_ | (refine is_cd ?_; first | refine hd_condA (fun _ => ?_) (fun _ => ?_)) | refine wFWR4 ?_ | refine wkB (fun _ => ?_) | refine wkC (fun _ _ => ?_) | (apply hd_callM (Hi := []); exact aX; infer_instance; exact aE; exact aN; rfl; (focus exact fun _ hw => hw); (focus exact zFWR1); (focus (rintro _ h1 _ hle1 ⟨p1, c1, rfl, rfl⟩; skip))) | (apply hd_callM (Hi := []); exact aX; infer_instance; exact aE; exact aN; rfl; (focus exact fun _ hw => hw); (focus exact zFWR3); (focus (rintro _ h1 _ hle1 ⟨p1, m1, c1, rfl, hm1, rfl⟩; skip))) | exact tsA | (refine ts_step rfl (fun HF h1 hle => ?_)))
      all_goals (refine hd_nilrow 5 1 ?_; refine hd_nilrow 5 1 ?_; ((repeat (refine hd_undefer (by first | exact .inl rfl | exact .inr rfl) (by exact aP) ?_)); apply hd_resR; (focus (first | exact .inl rfl | exact .inr rfl)); rfl; exact aR))
      all_goals (have e1 : tkT bs k = [] := by simp [tkT, hk3])
      all_goals (have e2 : tkR bs k = [] := by simp [tkR, hk3])
      all_goals exact ⟨_, _, _, _, _, _, by rw [hk3]; rfl, by rw [e1]; rfl, by rw [e2]; rfl, by rw [e1, e2]; rfl⟩
  · have hk2 : ¬ 2 ≤ n := by simpa using hk
    have hk3 : tkOk bs k = false := by simp [tkOk]; intro h9; omega
    repeat' (first | refine wFWR5 ?_ | refine wFWR3 ?_ | (refine is_cd ?_; first | refine hd_condA (fun _ => ?_) (fun _ => ?_)) | refine wFWR4 ?_ | refine wkB (fun _ => ?_) | refine wkC (fun _ _ => ?_) | (apply hd_callM (Hi := []); exact aX; infer_instance; exact aE; exact aN; rfl; (focus exact fun _ hw => hw); (focus exact zFWR1); (focus (rintro _ h1 _ hle1 ⟨p1, c1, rfl, rfl⟩; skip))) | (apply hd_callM (Hi := []); exact aX; infer_instance; exact aE; exact aN; rfl; (focus exact fun _ hw => hw); (focus exact zFWR3); (focus (rintro _ h1 _ hle1 ⟨p1, m1, c1, rfl, hm1, rfl⟩; skip))) | exact tsA | (refine ts_step rfl (fun HF h1 hle => ?_)))
    all_goals (refine hd_nilrow 5 1 ?_; refine hd_nilrow 5 1 ?_; ((repeat (refine hd_undefer (by first | exact .inl rfl | exact .inr rfl) (by exact aP) ?_)); apply hd_resR; (focus (first | exact .inl rfl | exact .inr rfl)); rfl; exact aR))
    all_goals (have e1 : tkT bs k = [] := by simp [tkT, hk3])
    all_goals (have e2 : tkR bs k = [] := by simp [tkR, hk3])
    all_goals exact ⟨_, _, _, _, _, _, by rw [hk3]; rfl, by rw [e1]; rfl, by rw [e2]; rfl, by rw [e1, e2]; rfl⟩
theorem ref_PutTextP {p q : Option Addr} {n c m d : Nat} {bs ts : List Int} (h : PH) (hs : Bs h p n c bs) (ht : Bs h q m d ts) (hn : n ≤ 1000000) (hm : m ≤ 1000000) : GV.Spec Tryz.prog 51 #[.slice p n c, .slice q m d] h fun v h' => ∃ p' c', v = .slice p' (putT bs ts).length c' ∧ Bs h' p' (putT bs ts).length c' (putT bs ts) := by
  refine SpecM.turn (ref_PutText h hs ht hn hm) ?_
  rintro C v h' Ho w ⟨p', m, c', rfl, rfl, rfl⟩ hi
  have hl := hs.len
  have hl2 := ht.len
  have hl3 := putT_len bs ts
  obtain ⟨h2, _, hb, hi2⟩ := Inv.pub8 hi rfl (putT_b8 hs.b8 ht.b8) (by omega)
  exact ⟨h2, [], ⟨⟨p', c', rfl, hb⟩, rfl⟩, hi2⟩
theorem ref_TakeTextP {p : Option Addr} {n c : Nat} {bs : List Int} (k : Int) (h : PH) (hs : Bs h p n c bs) (hn : n ≤ 1000000) : GV.Spec Tryz.prog 133 #[.slice p n c, .int .i64 k] h fun v h' => ∃ p' c' q' d', v = .tuple #[.slice p' (tkT bs k).length c', .slice q' (tkR bs k).length d', .bool (tkOk bs k)] ∧ Bs h' p' (tkT bs k).length c' (tkT bs k) ∧ Bs h' q' (tkR bs k).length d' (tkR bs k) := by
  refine SpecM.turn (ref_TakeText k h hs hn) ?_
  rintro C v h' Ho w ⟨p', m, c', q', j, d', rfl, rfl, rfl, rfl⟩ hi
  have hl := hs.len
  have hl1 := tkT_len bs k
  have hl2 := tkR_len bs k
  obtain ⟨h2, hle2, hb, hi2⟩ := Inv.pub8 hi rfl (tkR_b8 hs.b8 k) (by omega)
  obtain ⟨h3, hle3, hb3, hi3⟩ := Inv.pub8 hi2 rfl (tkT_b8 hs.b8 k) (by omega)
  exact ⟨h3, [], ⟨⟨p', c', q', d', rfl, hb3, hb.mono hle3⟩, rfl⟩, hi3⟩
end Go.Proofs.YtmpfeaoofkkhjaaGreat
