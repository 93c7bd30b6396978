/- What package wire yields, function by function. -/
import Derived.Test.YtmpfeaoofkkhjaaGreatF0
namespace Go.Proofs.YtmpfeaoofkkhjaaGreat
open Go Go.GV
attribute [local irreducible] cw Go.GV.SpecM Go.GV.wpList Exit.then Exit.inBlock Go.GV.bodyPost wpPl wpPm wpPn TS rnd rPost YieldsB wpPT ptK
set_option maxRecDepth 10000
set_option maxHeartbeats 4000000
set_option linter.unusedSimpArgs false
set_option linter.unusedVariables false
def B8 (bs : List Int) : Prop := ∀ b ∈ bs, inR .u8 b
/-- A slice of bytes that nobody writes. -/
abbrev Bs := SlR (rInt .u8)
theorem Bs.b8 {h : PH} {p : Option Addr} {n c : Nat} {bs : List Int} (hs : Bs h p n c bs) : B8 bs := SlR.inR hs
theorem Bs.src {H : List HE} {h : PH} {p : Option Addr} {n c : Nat} {bs : List Int} (hs : Bs h p n c bs) : Src H h p n 1 (vI .u8 bs) := SlR.srcI hs
theorem Bs.mono {h h' : PH} {p : Option Addr} {n c : Nat} {bs : List Int} (hs : Bs h p n c bs) (hl : h.le h') : Bs h' p n c bs := SlR.mono hs hl
theorem Bs.len {h : PH} {p : Option Addr} {n c : Nat} {bs : List Int} (hs : Bs h p n c bs) : bs.length = n := SlR.len hs
abbrev row8 (p : Option Addr) (n c : Nat) (bs : List Int) : HE := row p n c 5 1 (vI .u8 bs)

theorem wrap_u8 (n : Int) : IntKind.u8.wrap n = n % 256 := by simp [IntKind.wrap, IntKind.bits, IntKind.signed]
theorem zFW2 {A : Prop} (h : A := by ((first | with_reducible apply inR_i64 | with_reducible apply inR_i32 | with_reducible apply inR_u8 | with_reducible apply inR_u16 | with_reducible apply inR_u32 | with_reducible apply inR_u64) <;> (first | omega | grind [Sat]))) : A := h
theorem zFW3 {A : Prop} (h : A := by ((first | (apply OK.plain; rfl) | (apply OK.guarded; rfl; rfl; (intro hg; (try have hk := hg.2); (try have hl := hg.2.2); (try have hm := hg.2.2.2)))); (first | (apply od_call; exact aX; infer_instance; exact aE; exact aN; (focus (first | fail))) ))) : A := h
theorem zFW5 {A : Prop} (h : A := by ((first | (apply OK.plain; rfl; apply OD.of) | (apply OKp.plain; rfl)); (first | (apply od_orlow 8; exact aX; exact aX; (focus (first | omega | grind [Sat])); (focus (first | omega | grind [Sat])); (focus (first | omega | grind [Sat])); (focus exact zFW2))))) : A := h
theorem wFW1 {A B : Prop} (k : B) (h : Kx B → A := by intro k; (first | (refine is_pu ?_ (by rfl); first | ((first | apply hd_ok | apply ch_ok | (apply hd_pn_run; rfl; exact aM)); (focus exact zFW5); rfl; rfl) | refine hd_opAB ?_) | (refine is_pn ?_; first | refine hd_pn_nil ?_ | ((first | apply hd_ok | apply ch_ok | (apply hd_pn_run; rfl; exact aM)); (focus exact zFW5); rfl; rfl) | refine hd_pnAB ?_ | (refine hd_pn_op rfl ?_)) | (refine is_co ?_; first | ((first | apply hd_ok | apply ch_ok); (focus exact zFW3); rfl; rfl) | refine hd_storeA ?_ | refine hd_copyA ?_ | refine hd_storeRA ?_) | (refine is_ni ?_; first | (refine is_on ?_; first | refine pn_barA ?_ | refine pn_goA ?_ | refine pt_goA ?_ | refine ts_onA ?_) | refine hd_nil ?_) | refine wkA ?_ | (refine is_ch ?_; refine ch_opAB ?_) | ((first | apply hd_ok | apply ch_ok); (focus exact zFW3); rfl; rfl)); exact k.go) : A := h ⟨k⟩
theorem wFW2 {A B : Prop} (k : B) (h : Kx B → A := by intro k; ((refine is_cw ?_; refine is_rg ?_; first | refine hd_draw follows_any (by decide +kernel) ?_)); exact k.go) : A := h ⟨k⟩
theorem wire_room1 (b : Nat) (t n : Int) (h : PH) (hp : Pub h b 0 [.int .i64 t]) : Det Tryz.prog 134 #[.int .i64 n, .pointer (some ⟨b, 0, none⟩)] h (.bool (decide (1 ≤ n) && decide (n ≤ 8) && decide (n ≤ t))) := by
  refine spec_enter (args := [_, _]) Tryz.func134 rfl Tryz.ntmps134 rfl (fun w l => ?_)
  repeat' (first | refine wFW2 ?_ | (refine is_cd ?_; first | refine hd_condA (fun _ => ?_) (fun _ => ?_)) | refine wFW1 ?_ | refine wkB (fun _ => ?_) | refine wkC (fun _ _ => ?_) | exact tsA | (refine ts_step rfl (fun HF h1 hle => ?_)))
  all_goals ((repeat (refine hd_undefer (by first | exact .inl rfl | exact .inr rfl) (by exact aP) ?_)); apply hd_res0; (focus (first | exact .inl rfl | exact .inr rfl)); rfl; exact aR)
  all_goals exact ret_bool (by grind)
theorem wire_room (t : Int) (h : PH) : GV.Spec Tryz.prog 60 #[.int .i64 t] h fun v h' => ∃ b, v = .func (.func 134) #[] #[.pointer (some ⟨b, 0, none⟩)] ∧ Pub h' b 0 [.int .i64 t] := by
  refine spec_enter (args := [_]) Tryz.func60 rfl Tryz.ntmps60 rfl (fun w l => ?_)
  repeat' (first | refine wFW2 ?_ | (refine is_cd ?_; first | refine hd_condA (fun _ => ?_) (fun _ => ?_)) | refine wFW1 ?_ | refine wkB (fun _ => ?_) | refine wkC (fun _ _ => ?_) | exact tsA | (refine ts_step rfl (fun HF h1 hle => ?_)))
  rename_i b
  refine hd_pubbox (.here) (fun h' hl hp => ?_)
  all_goals ((repeat (refine hd_undefer (by first | exact .inl rfl | exact .inr rfl) (by exact aP) ?_)); apply hd_res0; (focus (first | exact .inl rfl | exact .inr rfl)); rfl; exact aR)
  exact ⟨b, rfl, hp⟩
theorem wire_longer {p : Option Addr} {n c : Nat} {bs : List Int} (more : Nat) (h : PH) (hs : Bs h p n c bs) (hn : n + more ≤ 1000000000) : SpecM Tryz.prog 61 #[.slice p n c, .int .i64 more] h [] fun v h' Ho => ∃ p' c', v = .slice p' n c' ∧ Ho = [row8 p' n c' bs] := by
  refine spec_enter (args := [_, _]) Tryz.func61 rfl Tryz.ntmps61 rfl (fun w l => ?_)
  repeat' (first | refine wFW2 ?_ | (refine is_cd ?_; first | refine hd_condA (fun _ => ?_) (fun _ => ?_)) | refine wFW1 ?_ | refine wkB (fun _ => ?_) | refine wkC (fun _ _ => ?_) | exact tsA | (refine ts_step rfl (fun HF h1 hle => ?_)))
  all_goals ((repeat (refine hd_undefer (by first | exact .inl rfl | exact .inr rfl) (by exact aP) ?_)); apply hd_resR; (focus (first | exact .inl rfl | exact .inr rfl)); rfl; exact aR)
  have hl := hs.len
  refine ⟨_, _, rfl, ?_⟩
  rw [List.take_of_length_le (by simp [vI, hl]), List.drop_of_length_le (by simp [zs]), List.append_nil]
def putB (x : Int) (n i : Nat) : List Int := (List.range i).map fun j => (x / 2 ^ (8 * (n - 1 - j))) % 256
theorem putB_succ (x : Int) (n i : Nat) : putB x n (i + 1) = putB x n i ++ [(x / 2 ^ (8 * (n - 1 - i))) % 256] := by simp [putB, List.range_succ]
theorem putB_len (x : Int) (n i : Nat) : (putB x n i).length = i := by simp [putB]
theorem putB_b8 (x : Int) (n i : Nat) : B8 (putB x n i) := by
  intro b hb
  simp only [putB, List.mem_map] at hb
  obtain ⟨j, _, rfl⟩ := hb
  exact inR_u8 (by omega) (by omega)
def putA (bs : List Int) (x : Int) (n : Int) : List Int := if 1 ≤ n ∧ n ≤ 8 then bs ++ putB x n.toNat n.toNat else bs
theorem zFW8 {A : Prop} (h : A := by ((first | (apply OK.plain; rfl) | (apply OK.guarded; rfl; rfl; (intro hg; (try have hk := hg.2); (try have hl := hg.2.2); (try have hm := hg.2.2.2)))); (first | (apply od_call; exact aX; infer_instance; exact aE; exact aN; (focus (first | (exact wire_room1 _ _ _ _ (by assumption))))) ))) : A := h
theorem wFW3 {A B : Prop} (k : B) (h : Kx B → A := by intro k; (first | (refine is_pu ?_ (by rfl); first | ((first | apply hd_ok | apply ch_ok | (apply hd_pn_run; rfl; exact aM)); (focus exact zFW5); rfl; rfl) | refine hd_opAB ?_) | (refine is_pn ?_; first | refine hd_pn_nil ?_ | ((first | apply hd_ok | apply ch_ok | (apply hd_pn_run; rfl; exact aM)); (focus exact zFW5); rfl; rfl) | refine hd_pnAB ?_ | (refine hd_pn_op rfl ?_)) | (refine is_co ?_; first | ((first | apply hd_ok | apply ch_ok); (focus exact zFW8); rfl; rfl) | refine hd_storeA ?_ | refine hd_copyA ?_) | (refine is_ni ?_; first | (refine is_on ?_; first | refine pn_barA ?_ | refine pn_goA ?_ | refine pt_goA ?_ | refine ts_onA ?_) | refine hd_nil ?_) | refine wkA ?_ | (refine is_ch ?_; refine ch_opAB ?_) | ((first | apply hd_ok | apply ch_ok); (focus exact zFW8); rfl; rfl)); exact k.go) : A := h ⟨k⟩
theorem wFW4 {A B : Prop} (k : B) (h : Kx B → A := by intro k; ((refine is_cw ?_; refine is_cd ?_; first | (refine hd_condT (by exact aX) (by (first | rfl | grind [Sat])) ?_) | (refine hd_condF (by exact aX) (by (first | rfl | grind [Sat])) ?_))); exact k.go) : A := h ⟨k⟩
theorem zFW9 {A : Prop} (h : A := by exact wire_longer _ _ (by (first | assumption | exact Bs.mono (by assumption) (by exact aL))) (by (first | omega | grind [Sat]))) : A := h
theorem wire_Put {p : Option Addr} {n c : Nat} {bs : List Int} (x k : Int) (h : PH) (hs : Bs h p n c bs) (hn : n ≤ 1000000) (hx : inR .u64 x) : SpecM Tryz.prog 40 #[.slice p n c, .int .u64 x, .int .i64 k] h [] fun v h' Ho => ∃ p' m c', v = .slice p' m c' ∧ m = (putA bs x k).length ∧ Ho = [row8 p' m c' (putA bs x k)] := by
  have hlen := hs.len
  refine spec_enter (args := [_, _, _]) Tryz.func40 rfl Tryz.ntmps40 rfl (fun w l => ?_)
  refine hd_split (c := decide (1 ≤ k ∧ k ≤ 8)) (fun hk => ?_) (fun hk => ?_)
  · have hk' : 1 ≤ k ∧ k ≤ 8 := by simpa using hk
    obtain ⟨k, rfl⟩ := Int.eq_ofNat_of_zero_le (a := k) (by omega)
    repeat' (first | refine wFW2 ?_ | refine wFW4 ?_ | (refine is_cd ?_; first | refine hd_condA (fun _ => ?_) (fun _ => ?_)) | refine wFW3 ?_ | refine wkB (fun _ => ?_) | refine wkC (fun _ _ => ?_) | (apply hd_call; exact aX; infer_instance; exact aE; exact aN; rfl; (focus exact wire_room _ _); (focus (rintro _ h1 hle1 ⟨b, rfl, hpu⟩; skip))) | (apply hd_callM (Hi := []); exact aX; infer_instance; exact aE; exact aN; rfl; (focus exact fun _ hw => hw); (focus exact zFW9); (focus (rintro _ h1 _ hle1 ⟨p1, c1, rfl, rfl⟩; skip))) | exact tsA | (refine ts_step rfl (fun HF h1 hle => ?_)))
    · refine hd_loopS (ι := Nat × Option Addr × Nat) (fun i => i.1 ≤ k) (fun i => [(8, [], .slice i.2.1 (n + i.1) i.2.2), (20, [], .int .i64 k), (21, [], .int .i64 i.1), (0, [], .slice p n c), (1, [], .int .u64 x), (2, [], .int .i64 k)]) (fun i => [row8 i.2.1 (n + i.1) i.2.2 (bs ++ putB x k i.1)]) (fun _ => h1) (fun i => k - i.1) (0, p1, c1) (by omega) (by exact aU) (by simp [putB]) (fun i hi => ?_)
      obtain ⟨i, p2, c2⟩ := i
      simp only at hi
      simp only
      repeat' (first | refine wFW2 ?_ | refine wFW4 ?_ | (refine is_cd ?_; first | refine hd_condA (fun _ => ?_) (fun _ => ?_)) | refine wFW3 ?_ | refine wkB (fun _ => ?_) | refine wkC (fun _ _ => ?_) | (apply hd_call; exact aX; infer_instance; exact aE; exact aN; rfl; (focus exact wire_room _ _); (focus (rintro _ h1 hle1 ⟨b, rfl, hpu⟩; skip))) | (apply hd_callM (Hi := []); exact aX; infer_instance; exact aE; exact aN; rfl; (focus exact fun _ hw => hw); (focus exact zFW9); (focus (rintro _ h1 _ hle1 ⟨p1, c1, rfl, rfl⟩; skip))) | exact tsA | (refine ts_step rfl (fun HF h1 hle => ?_)))
      · rename_i hlt g p3 c3
        simp only [decide_eq_true_eq] at hlt
        refine hd_again (i + 1, p3, c3) (by simp only; omega) (by simp only; omega) (by exact aU) (fun w hw => ?_)
        have e : IntKind.u8.wrap (x / 2 ^ (8 * ((k : Int) - 1 - i)).toNat) = (x / 2 ^ (8 * (k - 1 - i))) % 256 := by
          rw [wrap_u8, show (8 * ((k : Int) - 1 - i)).toNat = 8 * (k - 1 - i) by omega]
        have := hw.drop2
        rw [e] at this
        simp only [row8, putB_succ, ← List.append_assoc, vI_append] at this ⊢
        exact this
      · rename_i hlt
        simp only [decide_eq_false_iff_not] at hlt
        have hik : i = k := by omega
        subst hik
        ((repeat (refine hd_undefer (by first | exact .inl rfl | exact .inr rfl) (by exact aP) ?_)); apply hd_resR; (focus (first | exact .inl rfl | exact .inr rfl)); rfl; exact aR)
        have e : putA bs x i = bs ++ putB x i i := by simp only [putA]; rw [if_pos hk']; simp
        exact ⟨_, _, _, rfl, by rw [e]; simp [hlen, putB_len], by rw [e]⟩
  · have hk' : ¬ (1 ≤ k ∧ k ≤ 8) := by simpa using hk
    repeat' (first | refine wFW2 ?_ | refine wFW4 ?_ | (refine is_cd ?_; first | refine hd_condA (fun _ => ?_) (fun _ => ?_)) | refine wFW3 ?_ | refine wkB (fun _ => ?_) | refine wkC (fun _ _ => ?_) | (apply hd_call; exact aX; infer_instance; exact aE; exact aN; rfl; (focus exact wire_room _ _); (focus (rintro _ h1 hle1 ⟨b, rfl, hpu⟩; skip))) | (apply hd_callM (Hi := []); exact aX; infer_instance; exact aE; exact aN; rfl; (focus exact fun _ hw => hw); (focus exact zFW9); (focus (rintro _ h1 _ hle1 ⟨p1, c1, rfl, rfl⟩; skip))) | exact tsA | (refine ts_step rfl (fun HF h1 hle => ?_)))
    ((repeat (refine hd_undefer (by first | exact .inl rfl | exact .inr rfl) (by exact aP) ?_)); apply hd_resR; (focus (first | exact .inl rfl | exact .inr rfl)); rfl; exact aR)
    have e : putA bs x k = bs := by simp only [putA]; rw [if_neg hk']
    exact ⟨_, _, _, rfl, by rw [e, hlen], by rw [e]; rfl⟩
def num (bs : List Int) : Int := bs.foldl (fun x b => x * 256 + b) 0
theorem num_snoc (bs : List Int) (y : Int) : num (bs ++ [y]) = num bs * 256 + y := by simp [num]
theorem take_snoc {bs : List Int} {i : Nat} {y : Int} (hy : bs[i]? = some y) : bs.take (i + 1) = bs.take i ++ [y] := by
  have hl := (List.getElem?_eq_some_iff.1 hy).1
  rw [List.take_succ_eq_append_getElem hl, (List.getElem?_eq_some_iff.1 hy).2]
theorem num_bound {bs : List Int} (hb : B8 bs) : ∀ i, i ≤ bs.length → 0 ≤ num (bs.take i) ∧ num (bs.take i) < 256 ^ i
  | 0, _ => by simp [num]
  | i + 1, hi => by
    have hl : i < bs.length := by omega
    have ih := num_bound hb i (by omega)
    have hy : bs[i]? = some bs[i] := List.getElem?_eq_getElem hl
    have hr := hb bs[i] (List.getElem_mem hl)
    simp only [inR] at hr
    rw [take_snoc hy, num_snoc, Int.pow_succ]
    omega
def takOk (bs : List Int) (n : Int) : Bool := decide (1 ≤ n) && decide (n ≤ 8) && decide (n ≤ bs.length)
def takN (bs : List Int) (n : Int) : Int := if takOk bs n then num (bs.take n.toNat) else 0
def takR (bs : List Int) (n : Int) : List Int := if takOk bs n then bs.drop n.toNat else []
theorem el8_at {h : PH} {p : Option Addr} {n c : Nat} {bs : List Int} (hs : Bs h p n c bs) {i : Nat} {y : Int} (hy : bs[i]? = some y) : Pub h (pb p) (po p + i * 1) [.int .u8 y] ∧ 0 ≤ y ∧ y ≤ 255 ∧ p = some ⟨pb p, po p, none⟩ := by
  obtain ⟨h1, h2, h3⟩ := SlR.atI hs hy
  exact ⟨h1, h2.1, h2.2, h3⟩
theorem pow256_le {i : Nat} (hi : i ≤ 7) : (256 : Int) ^ i ≤ 72057594037927936 := by
  have : i = 0 ∨ i = 1 ∨ i = 2 ∨ i = 3 ∨ i = 4 ∨ i = 5 ∨ i = 6 ∨ i = 7 := by omega
  rcases this with rfl | rfl | rfl | rfl | rfl | rfl | rfl | rfl <;> decide
theorem B8.drop {bs : List Int} (hb : B8 bs) (k : Nat) : B8 (bs.drop k) := fun b hm => hb b (List.mem_of_mem_drop hm)
theorem B8.take {bs : List Int} (hb : B8 bs) (k : Nat) : B8 (bs.take k) := fun b hm => hb b (List.mem_of_mem_take hm)
theorem Bs.sub {h : PH} {p : Option Addr} {n c : Nat} {bs : List Int} (hs : Bs h p n c bs) {lo hi : Nat} (h1 : lo ≤ hi) (h2 : hi ≤ n) : Bs h (subp p c lo 1) (hi - lo) (c - lo) ((bs.take hi).drop lo) := SlR.sub hs h1 h2
theorem Bs.dropS {h : PH} {p : Option Addr} {n c : Nat} {bs : List Int} (hs : Bs h p n c bs) {lo : Nat} (h1 : lo ≤ n) : Bs h (subp p c lo 1) (n - lo) (c - lo) (bs.drop lo) := SlR.dropS hs h1
theorem zFW6 {A : Prop} (h : A := by exact wire_longer _ _ (by (first | assumption | exact Bs.mono (by assumption) (by exact aL) | exact Bs.mono (Bs.dropS (by assumption) (by (first | omega | grind [Sat]))) (by exact aL))) (by (first | omega | grind [Sat]))) : A := h
theorem wire_Take {p : Option Addr} {n c : Nat} {bs : List Int} (k : Int) (h : PH) (hs : Bs h p n c bs) (hn : n ≤ 1000000) : SpecM Tryz.prog 53 #[.slice p n c, .int .i64 k] h [] fun v h' Ho => ∃ p' m c', v = .tuple #[.int .u64 (takN bs k), .slice p' m c', .bool (takOk bs k)] ∧ m = (takR bs k).length ∧ Ho = [row8 p' m c' (takR bs k)] := by
  have hlen := hs.len
  have hcap := hs.cap
  refine spec_enter (args := [_, _]) Tryz.func53 rfl Tryz.ntmps53 rfl (fun w l => ?_)
  refine hd_split (c := takOk bs k) (fun hk => ?_) (fun hk => ?_)
  · have hk' : 1 ≤ k ∧ k ≤ 8 ∧ k ≤ n := by simp [takOk] at hk; omega
    obtain ⟨k, rfl⟩ := Int.eq_ofNat_of_zero_le (a := k) (by omega)
    repeat' (first | refine wFW2 ?_ | refine wFW4 ?_ | (refine is_cd ?_; first | refine hd_condA (fun _ => ?_) (fun _ => ?_)) | refine wFW3 ?_ | refine wkB (fun _ => ?_) | refine wkC (fun _ _ => ?_) | (apply hd_call; exact aX; infer_instance; exact aE; exact aN; rfl; (focus exact wire_room _ _); (focus (rintro _ h1 hle1 ⟨b, rfl, hpu⟩; skip))) | (apply hd_callM (Hi := []); exact aX; infer_instance; exact aE; exact aN; rfl; (focus exact fun _ hw => hw); (focus exact zFW6); (focus (rintro _ h1 _ hle1 ⟨p1, c1, rfl, rfl⟩; skip))) | exact tsA | (refine ts_step rfl (fun HF h1 hle => ?_)))
    · refine hd_loopS (ι := Nat) (fun i => i ≤ k) (fun i => [(8, [], .int .u64 (num (bs.take i))), (17, [], .int .i64 k), (18, [], .int .i64 i), (0, [], .slice p n c), (1, [], .int .i64 k)]) (fun i => []) (fun _ => h1) (fun i => k - i) 0 (by omega) (by exact aU) (fun _ hw => hw) (fun i hi => ?_)
      have hs1 := hs.mono hle1
      refine hd_split (c := decide (i < k)) (fun hlt => ?_) (fun hlt => ?_)
      · simp only [decide_eq_true_eq] at hlt
        have hil : i < bs.length := by omega
        obtain ⟨y, hy⟩ : ∃ y, bs[i]? = some y := ⟨_, List.getElem?_eq_getElem hil⟩
        obtain ⟨hpub, hy0, hy1, hptr⟩ := el8_at hs1 hy
        have hnb := num_bound hs.b8 i (by omega)
        have hpw := pow256_le (i := i) (by omega)
        have hsn : num (bs.take (i + 1)) = num (bs.take i) * 256 + y := by rw [take_snoc hy, num_snoc]
        generalize num (bs.take i) = X at *
        repeat' (first | refine wFW2 ?_ | refine wFW4 ?_ | (refine is_cd ?_; first | refine hd_condA (fun _ => ?_) (fun _ => ?_)) | refine wFW3 ?_ | refine wkB (fun _ => ?_) | refine wkC (fun _ _ => ?_) | (apply hd_call; exact aX; infer_instance; exact aE; exact aN; rfl; (focus exact wire_room _ _); (focus (rintro _ h1 hle1 ⟨b, rfl, hpu⟩; skip))) | (apply hd_callM (Hi := []); exact aX; infer_instance; exact aE; exact aN; rfl; (focus exact fun _ hw => hw); (focus exact zFW6); (focus (rintro _ h1 _ hle1 ⟨p1, c1, rfl, rfl⟩; skip))) | exact tsA | (refine ts_step rfl (fun HF h1 hle => ?_)))
        refine hd_again (i + 1) (by omega) (by omega) ?_ (fun w hw => hw)
        rw [hsn]
        exact aU
      · simp only [decide_eq_false_iff_not] at hlt
        have hik : i = k := by omega
        subst hik
        repeat' (first | refine wFW2 ?_ | refine wFW4 ?_ | (refine is_cd ?_; first | refine hd_condA (fun _ => ?_) (fun _ => ?_)) | refine wFW3 ?_ | refine wkB (fun _ => ?_) | refine wkC (fun _ _ => ?_) | (apply hd_call; exact aX; infer_instance; exact aE; exact aN; rfl; (focus exact wire_room _ _); (focus (rintro _ h1 hle1 ⟨b, rfl, hpu⟩; skip))) | (apply hd_callM (Hi := []); exact aX; infer_instance; exact aE; exact aN; rfl; (focus exact fun _ hw => hw); (focus exact zFW6); (focus (rintro _ h1 _ hle1 ⟨p1, c1, rfl, rfl⟩; skip))) | exact tsA | (refine ts_step rfl (fun HF h1 hle => ?_)))
        ((repeat (refine hd_undefer (by first | exact .inl rfl | exact .inr rfl) (by exact aP) ?_)); apply hd_resR; (focus (first | exact .inl rfl | exact .inr rfl)); rfl; exact aR)
        have e1 : takN bs i = num (bs.take i) := by simp only [takN]; rw [if_pos hk]; simp
        have e2 : takR bs i = bs.drop i := by simp only [takR]; rw [if_pos hk]; simp
        exact ⟨_, _, _, by rw [hk, e1]; rfl, by rw [e2]; simp [hlen], by rw [e2]; rfl⟩
  · have hk' : ¬ (1 ≤ k ∧ k ≤ 8 ∧ k ≤ n) := by simp [takOk] at hk; omega
    repeat' (first | refine wFW2 ?_ | refine wFW4 ?_ | (refine is_cd ?_; first | refine hd_condA (fun _ => ?_) (fun _ => ?_)) | refine wFW3 ?_ | refine wkB (fun _ => ?_) | refine wkC (fun _ _ => ?_) | (apply hd_call; exact aX; infer_instance; exact aE; exact aN; rfl; (focus exact wire_room _ _); (focus (rintro _ h1 hle1 ⟨b, rfl, hpu⟩; skip))) | (apply hd_callM (Hi := []); exact aX; infer_instance; exact aE; exact aN; rfl; (focus exact fun _ hw => hw); (focus exact zFW6); (focus (rintro _ h1 _ hle1 ⟨p1, c1, rfl, rfl⟩; skip))) | exact tsA | (refine ts_step rfl (fun HF h1 hle => ?_)))
    refine hd_nilrow 5 1 ?_
    ((repeat (refine hd_undefer (by first | exact .inl rfl | exact .inr rfl) (by exact aP) ?_)); apply hd_resR; (focus (first | exact .inl rfl | exact .inr rfl)); rfl; exact aR)
    have e1 : takN bs k = 0 := by simp [takN, hk]
    have e2 : takR bs k = [] := by simp [takR, hk]
    exact ⟨_, _, _, by rw [hk, e1]; rfl, by rw [e2]; rfl, by rw [e2]; rfl⟩
theorem zFW7 {A : Prop} (h : A := by ((first | (apply OK.plain; rfl; apply OD.of) | (apply OKp.plain; rfl)); (first | (apply od_orlow 8; exact aX; exact aX; (focus (first | omega | grind [Sat])); (focus (first | omega | grind [Sat])); (focus (first | omega | grind [Sat])); (focus exact zFW2)) | (apply od_andlow 32; exact aX; exact aX; rfl; (focus (first | omega | grind [Sat])); (focus exact zFW2); (focus exact zFW2))))) : A := h
theorem wFW5 {A B : Prop} (k : B) (h : Kx B → A := by intro k; (first | (refine is_pu ?_ (by rfl); first | ((first | apply hd_ok | apply ch_ok | (apply hd_pn_run; rfl; exact aM)); (focus exact zFW7); rfl; rfl) | refine hd_opAB ?_) | (refine is_pn ?_; first | refine hd_pn_nil ?_ | ((first | apply hd_ok | apply ch_ok | (apply hd_pn_run; rfl; exact aM)); (focus exact zFW7); rfl; rfl) | refine hd_pnAB ?_ | (refine hd_pn_op rfl ?_)) | (refine is_co ?_; first | ((first | apply hd_ok | apply ch_ok); (focus exact zFW3); rfl; rfl) | refine hd_storeA ?_ | refine hd_copyA ?_) | (refine is_ni ?_; first | (refine is_on ?_; first | refine pn_barA ?_ | refine pn_goA ?_ | refine pt_goA ?_ | refine ts_onA ?_) | refine hd_nil ?_) | refine wkA ?_ | (refine is_ch ?_; refine ch_opAB ?_) | ((first | apply hd_ok | apply ch_ok); (focus exact zFW3); rfl; rfl)); exact k.go) : A := h ⟨k⟩
theorem zFW1 {A : Prop} (h : A := by exact wire_longer _ _ (by (first | assumption | exact Bs.mono (by assumption) (by exact aL) | exact Bs.mono (Bs.dropS (by assumption) (by (first | omega | grind [Sat]))) (by exact aL) | exact Bs.mono (Bs.sub (by assumption) (by (first | omega | grind [Sat])) (by (first | omega | grind [Sat]))) (by exact aL))) (by (first | omega | grind [Sat]))) : A := h
theorem wire_Signed (x : Int) (h : PH) (hx : inR .u64 x) : Det Tryz.prog 158 #[.int .u64 x] h (.int .i32 (x % 4294967296 - 2147483648)) := by
  have hx' := hx
  simp only [inR] at hx'
  refine spec_enter (args := [_]) Tryz.func158 rfl Tryz.ntmps158 rfl (fun w l => ?_)
  repeat' (first | refine wFW2 ?_ | refine wFW4 ?_ | (refine is_cd ?_; first | refine hd_condA (fun _ => ?_) (fun _ => ?_)) | refine wFW5 ?_ | refine wkB (fun _ => ?_) | refine wkC (fun _ _ => ?_) | (apply hd_callM (Hi := []); exact aX; infer_instance; exact aE; exact aN; rfl; (focus exact fun _ hw => hw); (focus exact zFW1); (focus (rintro _ h1 _ hle1 ⟨p1, c1, rfl, rfl⟩; skip))) | exact tsA | (refine ts_step rfl (fun HF h1 hle => ?_)))
  all_goals ((repeat (refine hd_undefer (by first | exact .inl rfl | exact .inr rfl) (by exact aP) ?_)); apply hd_res0; (focus (first | exact .inl rfl | exact .inr rfl)); rfl; exact aR)
  all_goals rfl
theorem wire_Unsigned (x : Int) (h : PH) (hx : inR .i32 x) : Det Tryz.prog 155 #[.int .i32 x] h (.int .u64 (x + 2147483648)) := by
  have hx' := hx
  simp only [inR] at hx'
  refine spec_enter (args := [_]) Tryz.func155 rfl Tryz.ntmps155 rfl (fun w l => ?_)
  repeat' (first | refine wFW2 ?_ | refine wFW4 ?_ | (refine is_cd ?_; first | refine hd_condA (fun _ => ?_) (fun _ => ?_)) | refine wFW5 ?_ | refine wkB (fun _ => ?_) | refine wkC (fun _ _ => ?_) | (apply hd_callM (Hi := []); exact aX; infer_instance; exact aE; exact aN; rfl; (focus exact fun _ hw => hw); (focus exact zFW1); (focus (rintro _ h1 _ hle1 ⟨p1, c1, rfl, rfl⟩; skip))) | exact tsA | (refine ts_step rfl (fun HF h1 hle => ?_)))
  all_goals ((repeat (refine hd_undefer (by first | exact .inl rfl | exact .inr rfl) (by exact aP) ?_)); apply hd_res0; (focus (first | exact .inl rfl | exact .inr rfl)); rfl; exact aR)
  all_goals rfl
def putT (bs text : List Int) : List Int := if text.length ≤ 65535 then bs ++ putB text.length 2 2 ++ text else bs
theorem wire_PutText {p q : Option Addr} {n c m d : Nat} {bs ts : List Int} (h : PH) (hs : Bs h p n c bs) (ht : Bs h q m d ts) (hn : n ≤ 1000000) (hm : m ≤ 1000000) : SpecM Tryz.prog 147 #[.slice p n c, .slice q m d] h [] fun v h' Ho => ∃ p' m c', v = .slice p' m c' ∧ m = (putT bs ts).length ∧ Ho = [row8 p' m c' (putT bs ts)] := by
  have hlen := hs.len
  have hlen2 := ht.len
  refine spec_enter (args := [_, _]) Tryz.func147 rfl Tryz.ntmps147 rfl (fun w l => ?_)
  refine hd_split (c := decide (m ≤ 65535)) (fun hk => ?_) (fun hk => ?_)
  · have hk' : m ≤ 65535 := by simpa using hk
    repeat' (first | refine wFW2 ?_ | refine wFW4 ?_ | (refine is_cd ?_; first | refine hd_condA (fun _ => ?_) (fun _ => ?_)) | refine wFW5 ?_ | refine wkB (fun _ => ?_) | refine wkC (fun _ _ => ?_) | (apply hd_callM (Hi := []); exact aX; infer_instance; exact aE; exact aN; rfl; (focus exact fun _ hw => hw); (focus exact zFW1); (focus (rintro _ h1 _ hle1 ⟨p1, c1, rfl, rfl⟩; skip))) | exact tsA | (refine ts_step rfl (fun HF h1 hle => ?_)))
    · refine hd_loopS (ι := Nat × Option Addr × Nat) (fun i => i.1 ≤ 2) (fun i => [(5, [], .slice i.2.1 (n + i.1) i.2.2), (17, [], .int .i64 i.1), (0, [], .slice p n c), (1, [], .slice q m d)]) (fun i => [row8 i.2.1 (n + i.1) i.2.2 (bs ++ putB m 2 i.1)]) (fun _ => h1) (fun i => 2 - i.1) (0, p1, c1) (by omega) (by exact aU) (by simp [putB]) (fun i hi => ?_)
      obtain ⟨i, p2, c2⟩ := i
      simp only at hi
      simp only
      have ht1 := ht.mono hle1
      repeat' (first | refine wFW2 ?_ | refine wFW4 ?_ | (refine is_cd ?_; first | refine hd_condA (fun _ => ?_) (fun _ => ?_)) | refine wFW5 ?_ | refine wkB (fun _ => ?_) | refine wkC (fun _ _ => ?_) | (apply hd_callM (Hi := []); exact aX; infer_instance; exact aE; exact aN; rfl; (focus exact fun _ hw => hw); (focus exact zFW1); (focus (rintro _ h1 _ hle1 ⟨p1, c1, rfl, rfl⟩; skip))) | exact tsA | (refine ts_step rfl (fun HF h1 hle => ?_)))
      · rename_i hlt g p3 c3
        simp only [decide_eq_true_eq] at hlt
        refine hd_again (i + 1, p3, c3) (by simp only; omega) (by simp only; omega) (by exact aU) (fun w hw => ?_)
        have e : IntKind.u8.wrap ((m : Int) / 2 ^ (8 * (1 - (i : Int))).toNat) = ((m : Int) / 2 ^ (8 * (2 - 1 - i))) % 256 := by
          rw [wrap_u8, show (8 * (1 - (i : Int))).toNat = 8 * (2 - 1 - i) by omega]
        have := hw.drop2
        rw [e] at this
        simp only [row8, putB_succ, ← List.append_assoc, vI_append] at this ⊢
        exact this
      · rename_i hlt p3 c3
        simp only [decide_eq_false_iff_not] at hlt
        have hik : i = 2 := by omega
        subst hik
        ((repeat (refine hd_undefer (by first | exact .inl rfl | exact .inr rfl) (by exact aP) ?_)); apply hd_resR; (focus (first | exact .inl rfl | exact .inr rfl)); rfl; exact aR)
        have e : putT bs ts = bs ++ putB m 2 2 ++ ts := by simp only [putT]; rw [if_pos (by omega), hlen2]
        exact ⟨_, _, _, rfl, by rw [e]; simp [hlen, hlen2, putB_len]; omega, by rw [e]; simp only [row8, vI_append]⟩
  · have hk' : ¬ m ≤ 65535 := by simpa using hk
    repeat' (first | refine wFW2 ?_ | refine wFW4 ?_ | (refine is_cd ?_; first | refine hd_condA (fun _ => ?_) (fun _ => ?_)) | refine wFW5 ?_ | refine wkB (fun _ => ?_) | refine wkC (fun _ _ => ?_) | (apply hd_callM (Hi := []); exact aX; infer_instance; exact aE; exact aN; rfl; (focus exact fun _ hw => hw); (focus exact zFW1); (focus (rintro _ h1 _ hle1 ⟨p1, c1, rfl, rfl⟩; skip))) | exact tsA | (refine ts_step rfl (fun HF h1 hle => ?_)))
    ((repeat (refine hd_undefer (by first | exact .inl rfl | exact .inr rfl) (by exact aP) ?_)); apply hd_resR; (focus (first | exact .inl rfl | exact .inr rfl)); rfl; exact aR)
    have e : putT bs ts = bs := by simp only [putT]; rw [if_neg (by omega)]
    exact ⟨_, _, _, rfl, by rw [e, hlen], by rw [e]; rfl⟩
def two (bs : List Int) : Int := bs.getD 0 0 * 256 + bs.getD 1 0
def tkOk (bs : List Int) (most : Int) : Bool := decide (2 ≤ bs.length) && decide (two bs ≤ bs.length - 2) && decide (two bs ≤ most)
def tkT (bs : List Int) (most : Int) : List Int := if tkOk bs most then (bs.drop 2).take (two bs).toNat else []
def tkR (bs : List Int) (most : Int) : List Int := if tkOk bs most then (bs.drop 2).drop (two bs).toNat else []
theorem wFW6 {A B : Prop} (k : B) (h : Kx B → A := by intro k; ((refine is_cw ?_; refine is_rg ?_; first | (refine hd_planT (id := 3) _ [] [.one 0 true, .one 1 true, .one 2 true, .one 3 true, .one 4 true, .one 5 true, .one 6 true, .one 7 true, .one 8 true, .one 9 true, .one 10 true] follows_any (by kernel_rfl) rfl (by kernel_rfl) rfl ?_) | (refine hd_planT (id := 7) _ [] [.one 0 true, .one 1 true, .one 2 true, .one 4 true, .one 5 true, .one 6 true, .one 3 false, .one 7 false, .one 8 true, .one 9 true, .one 10 true] follows_any (by kernel_rfl) rfl (by kernel_rfl) rfl ?_) | refine hd_draw follows_any (by decide +kernel) ?_)); exact k.go) : A := h ⟨k⟩
theorem wire_TakeText {p : Option Addr} {n c : Nat} {bs : List Int} (k : Int) (h : PH) (hs : Bs h p n c bs) (hn : n ≤ 1000000) : SpecM Tryz.prog 159 #[.slice p n c, .int .i64 k] h [] fun v h' Ho => ∃ p' m c' q' j d', v = .tuple #[.slice p' m c', .slice q' j d', .bool (tkOk bs k)] ∧ m = (tkT bs k).length ∧ j = (tkR bs k).length ∧ Ho = [row8 q' j d' (tkR bs k), row8 p' m c' (tkT bs k)] := by
  have hlen := hs.len
  have hcap := hs.cap
  refine spec_enter (args := [_, _]) Tryz.func159 rfl Tryz.ntmps159 rfl (fun w l => ?_)
  refine hd_split (c := decide (2 ≤ n)) (fun hk => ?_) (fun hk => ?_)
  · have hk2 : 2 ≤ n := by simpa using hk
    obtain ⟨y0, hy0⟩ : ∃ y, bs[0]? = some y := ⟨_, List.getElem?_eq_getElem (by omega)⟩
    obtain ⟨y1, hy1⟩ : ∃ y, bs[1]? = some y := ⟨_, List.getElem?_eq_getElem (by omega)⟩
    obtain ⟨hpub0, hy00, hy01, hptr⟩ := el8_at hs hy0
    obtain ⟨hpub1, hy10, hy11, _⟩ := el8_at hs hy1
    have h2 : two bs = y0 * 256 + y1 := by simp [two, hy0, hy1]
    have hok : tkOk bs k = (decide (y0 * 256 + y1 ≤ n - 2) && decide (y0 * 256 + y1 ≤ k)) := by simp [tkOk, h2, hlen, hk2]
    have hdr := hs.dropS hk2
    refine hd_split (c := tkOk bs k) (fun hk3 => ?_) (fun hk3 => ?_)
    · have hk4 : y0 * 256 + y1 ≤ n - 2 ∧ y0 * 256 + y1 ≤ k := by rw [hok] at hk3; simpa using hk3
      have hT : Bs h (subp (subp p c 2 1) (c - 2) 0 1) ((y0 * 2 ^ 8 + y1).toNat - 0) (c - 2 - 0) (((bs.drop 2).take (y0 * 2 ^ 8 + y1).toNat).drop 0) := hdr.sub (by omega) (by omega)
      have hR : Bs h (subp (subp p c 2 1) (c - 2) (y0 * 2 ^ 8 + y1).toNat 1) (n - 2 - (y0 * 2 ^ 8 + y1).toNat) (c - 2 - (y0 * 2 ^ 8 + y1).toNat) ((bs.drop 2).drop (y0 * 2 ^ 8 + y1).toNat) := hdr.dropS (by omega)
      have e1 : tkT bs k = ((bs.drop 2).take (y0 * 2 ^ 8 + y1).toNat).drop 0 := by simp only [tkT, hk3, if_true, h2]; rfl
      have e2 : tkR bs k = (bs.drop 2).drop (y0 * 2 ^ 8 + y1).toNat := by simp only [tkR, hk3, if_true, h2]; rfl
      have l1 := hT.len
      have l2 := hR.len
      repeat' (first | refine wFW6 ?_ | refine wFW4 ?_ | (refine is_cd ?_; first | refine hd_condA (fun _ => ?_) (fun _ => ?_)) | refine wFW5 ?_ | refine wkB (fun _ => ?_) | refine wkC (fun _ _ => ?_) | (apply hd_callM (Hi := []); exact aX; infer_instance; exact aE; exact aN; rfl; (focus exact fun _ hw => hw); (focus exact zFW1); (focus (rintro _ h1 _ hle1 ⟨p1, c1, rfl, rfl⟩; skip))) | exact tsA | (refine ts_step rfl (fun HF h1 hle => ?_)))
      ((repeat (refine hd_undefer (by first | exact .inl rfl | exact .inr rfl) (by exact aP) ?_)); apply hd_resR; (focus (first | exact .inl rfl | exact .inr rfl)); rfl; exact aR)
      exact ⟨_, _, _, _, _, _, by rw [hk3]; rfl, by rw [e1, l1], by rw [e2, l2], by rw [e1, e2]; rfl⟩
    · have hk4 : ¬ (y0 * 256 + y1 ≤ n - 2 ∧ y0 * 256 + y1 ≤ k) := by rw [hok] at hk3; simpa using hk3
      repeat' (first | refine wFW6 ?_ | refine wFW4 ?_ | (refine is_cd ?_; first | refine hd_condA (fun _ => ?_) (fun _ => ?_)) | refine wFW5 ?_ | refine wkB (fun _ => ?_) | refine wkC (fun _ _ => ?_) | (apply hd_callM (Hi := []); exact aX; infer_instance; exact aE; exact aN; rfl; (focus exact fun _ hw => hw); (focus exact zFW1); (focus (rintro _ h1 _ hle1 ⟨p1, c1, rfl, rfl⟩; skip))) | exact tsA | (refine ts_step rfl (fun HF h1 hle => ?_)))
      all_goals (refine hd_nilrow 5 1 ?_; refine hd_nilrow 5 1 ?_; ((repeat (refine hd_undefer (by first | exact .inl rfl | exact .inr rfl) (by exact aP) ?_)); apply hd_resR; (focus (first | exact .inl rfl | exact .inr rfl)); rfl; exact aR))
      all_goals (have e1 : tkT bs k = [] := by simp [tkT, hk3])
      all_goals (have e2 : tkR bs k = [] := by simp [tkR, hk3])
      all_goals exact ⟨_, _, _, _, _, _, by rw [hk3]; rfl, by rw [e1]; rfl, by rw [e2]; rfl, by rw [e1, e2]; rfl⟩
  · have hk2 : ¬ 2 ≤ n := by simpa using hk
    have hk3 : tkOk bs k = false := by simp [tkOk]; intro h9; omega
    repeat' (first | refine wFW6 ?_ | refine wFW4 ?_ | (refine is_cd ?_; first | refine hd_condA (fun _ => ?_) (fun _ => ?_)) | refine wFW5 ?_ | refine wkB (fun _ => ?_) | refine wkC (fun _ _ => ?_) | (apply hd_callM (Hi := []); exact aX; infer_instance; exact aE; exact aN; rfl; (focus exact fun _ hw => hw); (focus exact zFW1); (focus (rintro _ h1 _ hle1 ⟨p1, c1, rfl, rfl⟩; skip))) | exact tsA | (refine ts_step rfl (fun HF h1 hle => ?_)))
    all_goals (refine hd_nilrow 5 1 ?_; refine hd_nilrow 5 1 ?_; ((repeat (refine hd_undefer (by first | exact .inl rfl | exact .inr rfl) (by exact aP) ?_)); apply hd_resR; (focus (first | exact .inl rfl | exact .inr rfl)); rfl; exact aR))
    all_goals (have e1 : tkT bs k = [] := by simp [tkT, hk3])
    all_goals (have e2 : tkR bs k = [] := by simp [tkR, hk3])
    all_goals exact ⟨_, _, _, _, _, _, by rw [hk3]; rfl, by rw [e1]; rfl, by rw [e2]; rfl, by rw [e1, e2]; rfl⟩
theorem B8.append {a b : List Int} (ha : B8 a) (hb : B8 b) : B8 (a ++ b) := fun x hx => by
  rcases List.mem_append.1 hx with h | h
  · exact ha x h
  · exact hb x h
theorem B8.nil : B8 [] := fun x hx => by cases hx
theorem putA_b8 {bs : List Int} (hb : B8 bs) (x k : Int) : B8 (putA bs x k) := by
  unfold putA
  split
  · exact hb.append (putB_b8 _ _ _)
  · exact hb
theorem takR_b8 {bs : List Int} (hb : B8 bs) (k : Int) : B8 (takR bs k) := by
  unfold takR
  split
  · exact hb.drop _
  · exact B8.nil
theorem tkT_b8 {bs : List Int} (hb : B8 bs) (k : Int) : B8 (tkT bs k) := by
  unfold tkT
  split
  · exact (hb.drop _).take _
  · exact B8.nil
theorem tkR_b8 {bs : List Int} (hb : B8 bs) (k : Int) : B8 (tkR bs k) := by
  unfold tkR
  split
  · exact (hb.drop _).drop _
  · exact B8.nil
theorem putT_b8 {bs ts : List Int} (hb : B8 bs) (ht : B8 ts) : B8 (putT bs ts) := by
  unfold putT
  split
  · exact (hb.append (putB_b8 _ _ _)).append ht
  · exact hb
theorem Inv.pub8 {C : Ctx} {H : List HE} {h : PH} {w : World} {p : Option Addr} {n c : Nat} {bs : List Int} (hw : GV.Inv C (row8 p n c bs :: H) h w) (hn : n = bs.length) (hb : B8 bs) (htop : n ≤ 9223372036854775807) : ∃ h', h.le h' ∧ Bs h' p n c bs ∧ GV.Inv C H h' w := by
  refine Inv.pubR (r := rInt .u8) (css := elI .u8 bs) (e := 5) ?_ (All2.of_map fun x hx => ⟨rfl, hb x hx⟩) hn.symm htop
  rw [elI_flat]; exact hw
theorem takR_len (bs : List Int) (k : Int) : (takR bs k).length ≤ bs.length := by unfold takR; split <;> simp
theorem putT_len (bs ts : List Int) : (putT bs ts).length ≤ bs.length + ts.length + 2 := by unfold putT; split <;> (try simp [putB_len]) <;> omega
theorem tkT_len (bs : List Int) (k : Int) : (tkT bs k).length ≤ bs.length := by unfold tkT; split <;> simp <;> omega
theorem tkR_len (bs : List Int) (k : Int) : (tkR bs k).length ≤ bs.length := by unfold tkR; split <;> simp <;> omega
theorem zFW4 {A : Prop} (h : A := by ((first | (apply OK.plain; rfl; apply OD.of) | (apply OKp.plain; rfl)); (first | (apply od_b2s; exact aX; (focus (first | exact s1 | exact s2)); rfl) | (apply od_seq; exact aX; exact aX; (focus (first | exact hb1 | exact hb2)); (focus (first | exact hb2 | exact hb1)))))) : A := h
theorem wFW7 {A B : Prop} (k : B) (h : Kx B → A := by intro k; (first | (refine is_pu ?_ (by rfl); first | ((first | apply hd_ok | apply ch_ok | (apply hd_pn_run; rfl; exact aM)); (focus exact zFW4); rfl; rfl) | refine hd_opAB ?_ | ((first | apply hd_ok | apply ch_ok | (apply hd_pn_run; rfl; exact aM)); (focus exact zFW4); rfl; rfl)) | (refine is_pn ?_; first | refine hd_pn_nil ?_ | ((first | apply hd_ok | apply ch_ok | (apply hd_pn_run; rfl; exact aM)); (focus exact zFW4); rfl; rfl) | refine hd_pnAB ?_ | ((first | apply hd_ok | apply ch_ok | (apply hd_pn_run; rfl; exact aM)); (focus exact zFW4); rfl; rfl) | (refine hd_pn_op rfl ?_)) | (refine is_co ?_; first | ((first | apply hd_ok | apply ch_ok); (focus exact zFW3); rfl; rfl) | refine hd_storeA ?_ | refine hd_copyA ?_) | (refine is_ni ?_; first | (refine is_on ?_; first | refine pn_barA ?_ | refine pn_goA ?_ | refine pt_goA ?_ | refine ts_onA ?_) | refine hd_nil ?_) | refine wkA ?_ | (refine is_ch ?_; refine ch_opAB ?_) | ((first | apply hd_ok | apply ch_ok); (focus exact zFW3); rfl; rfl) | ((first | apply hd_ok | apply ch_ok | (apply hd_pn_run; rfl; exact aM)); (focus exact zFW4); rfl; rfl)); exact k.go) : A := h ⟨k⟩
theorem law_Same {p q : Option Addr} {n c m d : Nat} {xs ys : List Int} (h : PH) (h1 : Bs h p n c xs) (h2 : Bs h q m d ys) : Det Tryz.prog 13 #[.slice p n c, .slice q m d] h (.bool (decide (xs = ys))) := by
  refine spec_enter (args := [_, _]) Tryz.func13 rfl Tryz.ntmps13 rfl (fun w l => ?_)
  have hb1 := h1.b8
  have hb2 := h2.b8
  have s1 : Src [] h p n 1 (vI .u8 xs) := h1.src
  have s2 : Src [] h q m 1 (vI .u8 ys) := h2.src
  repeat' (first | refine wFW6 ?_ | refine wFW4 ?_ | (refine is_cd ?_; first | refine hd_condA (fun _ => ?_) (fun _ => ?_)) | refine wFW7 ?_ | refine wkB (fun _ => ?_) | refine wkC (fun _ _ => ?_) | (apply hd_callM (Hi := []); exact aX; infer_instance; exact aE; exact aN; rfl; (focus exact fun _ hw => hw); (focus exact zFW1); (focus (rintro _ h1 _ hle1 ⟨p1, c1, rfl, rfl⟩; skip))) | exact tsA | (refine ts_step rfl (fun HF h1 hle => ?_)))
  all_goals ((repeat (refine hd_undefer (by first | exact .inl rfl | exact .inr rfl) (by exact aP) ?_)); apply hd_res0; (focus (first | exact .inl rfl | exact .inr rfl)); rfl; exact aR)
  all_goals rfl
end Go.Proofs.YtmpfeaoofkkhjaaGreat
