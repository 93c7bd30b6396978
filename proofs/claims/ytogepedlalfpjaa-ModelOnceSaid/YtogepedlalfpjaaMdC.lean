/- Rows of what was given, and of ranges, in memory of their own; where an event stands. -/
import Derived.Test.YtogepedlalfpjaaMdL
import Derived.Test.YtogepedlalfpjaaMdP
import Derived.Test.YtogepedlalfpjaaFSch
import Derived.Test.YtogepedlalfpjaaMdN
namespace Go.Proofs.Ytogepedlalfpjaa
open Go Go.GV
attribute [local irreducible] cw Go.GV.SpecM Go.GV.wpList Exit.then Exit.inBlock Go.GV.bodyPost wpPl wpPm wpPn TS rnd rPost YieldsB wpPT ptK
set_option maxRecDepth 10000
set_option maxHeartbeats 8000000
set_option linter.unusedVariables false
set_option linter.unusedSimpArgs false
theorem csG_one (xs : List GD) : ((xs.map csG).flatten).all (·.oneCell') = true := by
  rw [List.all_eq_true]
  intro v hv
  obtain ⟨l, hl, hv⟩ := List.mem_flatten.1 hv
  obtain ⟨x, _, rfl⟩ := List.mem_map.1 hl
  simp only [csG, List.mem_cons, List.not_mem_nil, or_false] at hv
  rcases hv with rfl | rfl | rfl | rfl | rfl <;> rfl
theorem SlG_in {h : PH} {p : Option Addr} {n c : Nat} {xs : List GD} (hs : SlG h p n c xs) : ∀ x ∈ xs, GdR x := fun x hx => by
  obtain ⟨css, _, h2⟩ := hs
  obtain ⟨a, ha⟩ := h2.mem x hx
  exact (rGiven_ok ha).2
theorem SlG_src {H : List HE} {h : PH} {p : Option Addr} {n c : Nat} {xs : List GD} (hs : SlG h p n c xs) : Src H h p n 5 ((xs.map csG).flatten) := by
  obtain ⟨css, h1, h2⟩ := hs
  have : css = xs.map csG := All2.to_map (f := csG) (fun a b hab => (rGiven_ok hab).1) h2
  rw [this] at h1
  exact .sl h1
theorem csG_ok {h : PH} {xs : List GD} (hx : ∀ x ∈ xs, GdR x) : All2 (rGiven.ok h) (xs.map csG) xs := All2.of_map fun x hm => rGiven_mk (hx x hm)
theorem SlG_at {h : PH} {p : Option Addr} {n c : Nat} {xs : List GD} (hs : SlG h p n c xs) {i : Nat} {x : GD} (hx : xs[i]? = some x) : Pub h (pb p) (po p + i * 5) [.int .u8 x.node, .int .u16 x.inc, .int .u8 x.id.1, .int .u16 x.id.2.1, .int .u32 x.id.2.2] ∧ GdR x ∧ p = some ⟨pb p, po p, none⟩ := by
  obtain ⟨cs, h1, h2, h3⟩ := hs.at hx
  obtain ⟨rfl, h4⟩ := rGiven_ok h2
  exact ⟨h1, h4, h3⟩
theorem isNone_len {α : Type} {r : Rp α} {h : PH} {p : Option Addr} {n c : Nat} {xs : List α} (hs : SlR r h p n c xs) (hp : p.isNone = true) : n = 0 ∧ xs = [] := by
  rcases Nat.eq_zero_or_pos n with h0 | h0
  · exact ⟨h0, by rw [← List.length_eq_zero_iff, hs.len]; exact h0⟩
  · rw [hs.ptr h0] at hp; cases hp

theorem pvMdC1 {A : Prop} (h : A := by (first | rfl | assumption | (simp only [decide_eq_true_eq, decide_eq_false_iff_not]; omega) | fail)) : A := h
theorem nvMdC1 {A : Prop} (h : A := by (first | decide | fail)) : A := h
theorem clone_G {p : Option Addr} {n c : Nat} {xs : List GD} (h : PH) (hx : SlG h p n c xs) (hn : n ≤ 1000000) : SpecM Try.prog 47 #[.slice p n c] h [] fun v h' Ho => ∃ p' c', v = .slice p' n c' ∧ Ho = [row p' n c' 52 5 ((xs.map csG).flatten)] := by
  refine spec_enter (args := [_]) Try.func47 rfl Try.ntmps47 rfl (fun w l => ?_)
  refine hd_split (c := p.isNone) (fun hp => ?_) (fun hp => ?_)
  · obtain ⟨rfl, rfl⟩ := isNone_len hx hp
    refine hd_nilrow 52 5 ?_
    repeat' (first | (refine is_pu ?_ (by rfl); first  | ((first | apply hd_ok | apply ch_ok | (apply hd_pn_run; rfl; exact aM)); (focus ((first | (apply OK.plain; rfl; apply OD.of) | (apply OKp.plain; rfl)); (first | (apply od_eqnil; exact aX)))); rfl; rfl) | refine hd_opAB ?_ | ((first | apply hd_ok | apply ch_ok | (apply hd_pn_run; rfl; exact aM)); (focus ((first | (apply OK.plain; rfl; apply OD.of) | (apply OKp.plain; rfl)); (first | (apply od_pickX; exact aX; exact pvMdC1; exact aX) | (apply od_pickY; exact aX; exact pvMdC1; exact aX)))); rfl; rfl)) | (refine is_pn ?_; first | refine hd_pn_nil ?_ | fail  | ((first | apply hd_ok | apply ch_ok | (apply hd_pn_run; rfl; exact aM)); (focus ((first | (apply OK.plain; rfl; apply OD.of) | (apply OKp.plain; rfl)); (first | (apply od_eqnil; exact aX)))); rfl; rfl) | refine hd_pnAB ?_ | ((first | apply hd_ok | apply ch_ok | (apply hd_pn_run; rfl; exact aM)); (focus ((first | (apply OK.plain; rfl; apply OD.of) | (apply OKp.plain; rfl)); (first | (apply od_pickX; exact aX; exact pvMdC1; exact aX) | (apply od_pickY; exact aX; exact pvMdC1; exact aX)))); rfl; rfl) | (refine hd_pn_op rfl ?_)) | (refine is_co ?_; first | fail  | ((first | apply hd_ok | apply ch_ok); (focus ((first | (apply OK.plain; rfl) | (apply OK.guarded; rfl; rfl; (intro hg; (try have hk := hg.2); (try have hl := hg.2.2); (try have hm := hg.2.2.2)))); (first | (apply od_call; exact aX; infer_instance; exact aE; exact aN; (focus (first | fail))) ))); rfl; rfl) | refine hd_storeA ?_ | refine hd_boxA (fun _ => ?_) | refine hd_alloc rfl (fun _ => ?_) | refine hd_appendA (hs := SlG_src hx) (hone := csG_one _) (fun _ _ => ?_) | refine hd_makeA (fun _ => ?_) | refine hd_copyA ?_ | refine hd_litA (fun _ => ?_) | refine hd_appendA (fun _ _ => ?_)) | (refine is_ni ?_; first | (refine is_on ?_; first | refine pn_barA ?_ | refine pn_goA ?_ | refine pt_goA ?_  | refine ts_onA ?_) | refine hd_nil ?_) | (refine is_cw ?_; first | (refine is_rg ?_; first | fail | fail) | (refine is_cd ?_; first | (refine hd_condT (by exact aX) (by exact pvMdC1) ?_) | (refine hd_condF (by exact aX) (by exact pvMdC1) ?_) | (refine hd_cond (by exact aX) (fun _ => ?_) (fun _ => ?_))) | fail | refine wkA ?_) | refine wkA ?_ | fail | exact tsA | fail | (refine ts_step rfl (fun HF h1 hle => ?_)) | fail | fail)
    apply hd_resS (Hi := [row none 0 0 52 5 []])
    · (first | exact .inl rfl | exact .inr rfl)
    · rfl
    · exact aR
    · exact aS
    · exact ⟨_, _, rfl, rfl⟩
  · repeat' (first | (refine is_pu ?_ (by rfl); first  | ((first | apply hd_ok | apply ch_ok | (apply hd_pn_run; rfl; exact aM)); (focus ((first | (apply OK.plain; rfl; apply OD.of) | (apply OKp.plain; rfl)); (first | (apply od_eqnil; exact aX)))); rfl; rfl) | refine hd_opAB ?_ | ((first | apply hd_ok | apply ch_ok | (apply hd_pn_run; rfl; exact aM)); (focus ((first | (apply OK.plain; rfl; apply OD.of) | (apply OKp.plain; rfl)); (first | (apply od_pickX; exact aX; exact pvMdC1; exact aX) | (apply od_pickY; exact aX; exact pvMdC1; exact aX)))); rfl; rfl)) | (refine is_pn ?_; first | refine hd_pn_nil ?_ | fail  | ((first | apply hd_ok | apply ch_ok | (apply hd_pn_run; rfl; exact aM)); (focus ((first | (apply OK.plain; rfl; apply OD.of) | (apply OKp.plain; rfl)); (first | (apply od_eqnil; exact aX)))); rfl; rfl) | refine hd_pnAB ?_ | ((first | apply hd_ok | apply ch_ok | (apply hd_pn_run; rfl; exact aM)); (focus ((first | (apply OK.plain; rfl; apply OD.of) | (apply OKp.plain; rfl)); (first | (apply od_pickX; exact aX; exact pvMdC1; exact aX) | (apply od_pickY; exact aX; exact pvMdC1; exact aX)))); rfl; rfl) | (refine hd_pn_op rfl ?_)) | (refine is_co ?_; first | fail  | ((first | apply hd_ok | apply ch_ok); (focus ((first | (apply OK.plain; rfl) | (apply OK.guarded; rfl; rfl; (intro hg; (try have hk := hg.2); (try have hl := hg.2.2); (try have hm := hg.2.2.2)))); (first | (apply od_call; exact aX; infer_instance; exact aE; exact aN; (focus (first | fail))) ))); rfl; rfl) | refine hd_storeA ?_ | refine hd_boxA (fun _ => ?_) | refine hd_alloc rfl (fun _ => ?_) | refine hd_appendA (hs := SlG_src hx) (hone := csG_one _) (fun _ _ => ?_) | refine hd_makeA (fun _ => ?_) | refine hd_copyA ?_ | refine hd_litA (fun _ => ?_) | refine hd_appendA (fun _ _ => ?_)) | (refine is_ni ?_; first | (refine is_on ?_; first | refine pn_barA ?_ | refine pn_goA ?_ | refine pt_goA ?_  | refine ts_onA ?_) | refine hd_nil ?_) | (refine is_cw ?_; first | (refine is_rg ?_; first | fail | fail) | (refine is_cd ?_; first | (refine hd_condT (by exact aX) (by exact pvMdC1) ?_) | (refine hd_condF (by exact aX) (by exact pvMdC1) ?_) | (refine hd_cond (by exact aX) (fun _ => ?_) (fun _ => ?_))) | fail | refine wkA ?_) | refine wkA ?_ | fail | exact tsA | fail | (refine ts_step rfl (fun HF h1 hle => ?_)) | fail | fail)
    rename_i p1 c1
    apply hd_resS (Hi := [row p1 (0 + n) c1 52 5 ([] ++ (xs.map csG).flatten)])
    · (first | exact .inl rfl | exact .inr rfl)
    · rfl
    · exact aR
    · exact aS
    · exact ⟨p1, c1, by rw [Nat.zero_add]; rfl, by rw [Nat.zero_add]; rfl⟩
theorem clone_S {p : Option Addr} {n c : Nat} {xs : List Sp} (h : PH) (hx : SlS h p n c xs) (hn : n ≤ 1000000) : GV.Spec Try.prog 39 #[.slice p n c] h fun v h' => ∃ p' n' c', v = .slice p' n' c' ∧ SlS (PH.new h h') p' n' c' xs := by
  have hl := hx.len
  have hx2 := SlS_in hx
  refine spec_enter (args := [_]) Try.func39 rfl Try.ntmps39 rfl (fun w l => ?_)
  refine hd_split (c := p.isNone) (fun hp => ?_) (fun hp => ?_)
  · obtain ⟨rfl, rfl⟩ := isNone_len hx hp
    repeat' (first | (refine is_pu ?_ (by rfl); first  | ((first | apply hd_ok | apply ch_ok | (apply hd_pn_run; rfl; exact aM)); (focus ((first | (apply OK.plain; rfl; apply OD.of) | (apply OKp.plain; rfl)); (first | (apply od_eqnil; exact aX)))); rfl; rfl) | refine hd_opAB ?_ | ((first | apply hd_ok | apply ch_ok | (apply hd_pn_run; rfl; exact aM)); (focus ((first | (apply OK.plain; rfl; apply OD.of) | (apply OKp.plain; rfl)); (first | (apply od_pickX; exact aX; exact pvMdC1; exact aX) | (apply od_pickY; exact aX; exact pvMdC1; exact aX)))); rfl; rfl)) | (refine is_pn ?_; first | refine hd_pn_nil ?_ | fail  | ((first | apply hd_ok | apply ch_ok | (apply hd_pn_run; rfl; exact aM)); (focus ((first | (apply OK.plain; rfl; apply OD.of) | (apply OKp.plain; rfl)); (first | (apply od_eqnil; exact aX)))); rfl; rfl) | refine hd_pnAB ?_ | ((first | apply hd_ok | apply ch_ok | (apply hd_pn_run; rfl; exact aM)); (focus ((first | (apply OK.plain; rfl; apply OD.of) | (apply OKp.plain; rfl)); (first | (apply od_pickX; exact aX; exact pvMdC1; exact aX) | (apply od_pickY; exact aX; exact pvMdC1; exact aX)))); rfl; rfl) | (refine hd_pn_op rfl ?_)) | (refine is_co ?_; first | fail  | ((first | apply hd_ok | apply ch_ok); (focus ((first | (apply OK.plain; rfl) | (apply OK.guarded; rfl; rfl; (intro hg; (try have hk := hg.2); (try have hl := hg.2.2); (try have hm := hg.2.2.2)))); (first | (apply od_call; exact aX; infer_instance; exact aE; exact aN; (focus (first | fail))) ))); rfl; rfl) | refine hd_storeA ?_ | refine hd_boxA (fun _ => ?_) | refine hd_alloc rfl (fun _ => ?_) | refine hd_appendA (hs := SlS_src hx) (hone := vS_one _) (fun _ _ => ?_) | refine hd_makeA (fun _ => ?_) | refine hd_copyA ?_ | refine hd_litA (fun _ => ?_) | refine hd_appendA (fun _ _ => ?_)) | (refine is_ni ?_; first | (refine is_on ?_; first | refine pn_barA ?_ | refine pn_goA ?_ | refine pt_goA ?_  | refine ts_onA ?_) | refine hd_nil ?_) | (refine is_cw ?_; first | (refine is_rg ?_; first | fail | fail) | (refine is_cd ?_; first | (refine hd_condT (by exact aX) (by exact pvMdC1) ?_) | (refine hd_condF (by exact aX) (by exact pvMdC1) ?_) | (refine hd_cond (by exact aX) (fun _ => ?_) (fun _ => ?_))) | fail | refine wkA ?_) | refine wkA ?_ | fail | exact tsA | fail | (refine ts_step rfl (fun HF h1 hle => ?_)) | fail | fail)
    all_goals ((repeat (refine hd_undefer (by first | exact .inl rfl | exact .inr rfl) (by exact aP) ?_)); apply hd_res0; (focus (first | exact .inl rfl | exact .inr rfl)); rfl; exact aR)
    exact ⟨_, _, _, rfl, SlR.nil _ _⟩
  · repeat' (first | (refine is_pu ?_ (by rfl); first  | ((first | apply hd_ok | apply ch_ok | (apply hd_pn_run; rfl; exact aM)); (focus ((first | (apply OK.plain; rfl; apply OD.of) | (apply OKp.plain; rfl)); (first | (apply od_eqnil; exact aX)))); rfl; rfl) | refine hd_opAB ?_ | ((first | apply hd_ok | apply ch_ok | (apply hd_pn_run; rfl; exact aM)); (focus ((first | (apply OK.plain; rfl; apply OD.of) | (apply OKp.plain; rfl)); (first | (apply od_pickX; exact aX; exact pvMdC1; exact aX) | (apply od_pickY; exact aX; exact pvMdC1; exact aX)))); rfl; rfl)) | (refine is_pn ?_; first | refine hd_pn_nil ?_ | fail  | ((first | apply hd_ok | apply ch_ok | (apply hd_pn_run; rfl; exact aM)); (focus ((first | (apply OK.plain; rfl; apply OD.of) | (apply OKp.plain; rfl)); (first | (apply od_eqnil; exact aX)))); rfl; rfl) | refine hd_pnAB ?_ | ((first | apply hd_ok | apply ch_ok | (apply hd_pn_run; rfl; exact aM)); (focus ((first | (apply OK.plain; rfl; apply OD.of) | (apply OKp.plain; rfl)); (first | (apply od_pickX; exact aX; exact pvMdC1; exact aX) | (apply od_pickY; exact aX; exact pvMdC1; exact aX)))); rfl; rfl) | (refine hd_pn_op rfl ?_)) | (refine is_co ?_; first | fail  | ((first | apply hd_ok | apply ch_ok); (focus ((first | (apply OK.plain; rfl) | (apply OK.guarded; rfl; rfl; (intro hg; (try have hk := hg.2); (try have hl := hg.2.2); (try have hm := hg.2.2.2)))); (first | (apply od_call; exact aX; infer_instance; exact aE; exact aN; (focus (first | fail))) ))); rfl; rfl) | refine hd_storeA ?_ | refine hd_boxA (fun _ => ?_) | refine hd_alloc rfl (fun _ => ?_) | refine hd_appendA (hs := SlS_src hx) (hone := vS_one _) (fun _ _ => ?_) | refine hd_makeA (fun _ => ?_) | refine hd_copyA ?_ | refine hd_litA (fun _ => ?_) | refine hd_appendA (fun _ _ => ?_)) | (refine is_ni ?_; first | (refine is_on ?_; first | refine pn_barA ?_ | refine pn_goA ?_ | refine pt_goA ?_  | refine ts_onA ?_) | refine hd_nil ?_) | (refine is_cw ?_; first | (refine is_rg ?_; first | fail | fail) | (refine is_cd ?_; first | (refine hd_condT (by exact aX) (by exact pvMdC1) ?_) | (refine hd_condF (by exact aX) (by exact pvMdC1) ?_) | (refine hd_cond (by exact aX) (fun _ => ?_) (fun _ => ?_))) | fail | refine wkA ?_) | refine wkA ?_ | fail | exact tsA | fail | (refine ts_step rfl (fun HF h1 hle => ?_)) | fail | fail)
    rename_i p1 c1
    refine hd_pubNS (hb := h) (xs := xs) (PH.le_refl _) (by exact aP) (by rw [List.nil_append]; exact C2.of xs) hx2 (by omega) (by omega) (fun h1 hle1 hsl => ?_)
    all_goals ((repeat (refine hd_undefer (by first | exact .inl rfl | exact .inr rfl) (by exact aP) ?_)); apply hd_res0; (focus (first | exact .inl rfl | exact .inr rfl)); rfl; exact aR)
    exact ⟨_, _, _, rfl, hsl⟩
theorem schema_CopyN {a b e : Int} {p q : Option Addr} {n c m d : Nat} {vs ds : List Int} (h : PH) (ha : inR .u8 a) (hb : inR .u16 b) (he : inR .u32 e) (hv : SlV h p n c vs) (hd : SlB h q m d ds) (h1 : n ≤ 1000000) (h2 : m ≤ 1000000) :
    GV.Spec Try.prog 46 #[.agg #[.int .u8 a, .int .u16 b, .int .u32 e, .slice p n c, .slice q m d]] h fun u h' => ∃ p' c' q' d', u = .agg #[.int .u8 a, .int .u16 b, .int .u32 e, .slice p' n c', .slice q' m d'] ∧ SlV (PH.new h h') p' n c' vs ∧ SlB (PH.new h h') q' m d' ds := by
  have l1 := hv.len
  have l2 := hd.len
  refine SpecM.turnN (schema_Copy h (VEv.mk ha hb he hv hd) (by simp only; omega)) ?_
  rintro C u h' Ho w hC ⟨p', n', c', q', m', d', rfl, rfl, rfl, rfl⟩ hi
  have hle : h.le h' := by rw [← hC]; exact hi.le0
  rw [← elI_flat] at hi
  obtain ⟨h3, le3, s3, hi3⟩ := hi.publishN hle (by simp [elI]) (fun x hx => by simp only [elI, List.mem_map] at hx; obtain ⟨y, _, rfl⟩ := hx; rfl) (by simp only; omega)
  rw [← elI_flat] at hi3
  obtain ⟨h4, le4, s4, hi4⟩ := hi3.publishN (PH.le_trans hle le3) (by simp [elI]) (fun x hx => by simp only [elI, List.mem_map] at hx; obtain ⟨y, _, rfl⟩ := hx; rfl) (by simp only; omega)
  have t3 := slI_iff.2 ⟨s3.mono (PH.new_mono le4), hd.inR⟩
  have t4 := slI_iff.2 ⟨s4, hv.inR⟩
  exact ⟨h4, [], ⟨⟨p', c', q', d', by simp only [l1, l2], by simp only [l1] at t4; exact t4, by simp only [l2] at t3; exact t3⟩, rfl⟩, hi4⟩
/-! ### The first event of an id -/
theorem id_eq {a b : IDt} : eqL [.int .u8 a.1, .int .u16 a.2.1, .int .u32 a.2.2] [.int .u8 b.1, .int .u16 b.2.1, .int .u32 b.2.2] = decide (a = b) := by
  obtain ⟨a1, a2, a3⟩ := a
  obtain ⟨b1, b2, b3⟩ := b
  rw [Bool.eq_iff_iff]; simp [eqL, eqV, and_assoc]
def findN (l : List EvD) (x : IDt) : Nat → Int
  | k => match l with
    | [] => -1
    | e :: r => if e.1 = x then (k : Int) else findN r x (k + 1)
theorem findN_at (x : IDt) : ∀ (l : List EvD) (k : Nat), (∃ j e, l[j]? = some e ∧ findE l x = some e ∧ findN l x k = ((k + j : Nat) : Int)) ∨ (findE l x = none ∧ findN l x k = -1)
  | [], k => .inr ⟨rfl, rfl⟩
  | e :: l, k => by
    by_cases h : e.1 = x
    · exact .inl ⟨0, e, rfl, by simp [findE, h], by simp [findN, h]⟩
    · rcases findN_at x l (k + 1) with ⟨j, f, h1, h2, h3⟩ | ⟨h1, h2⟩
      · exact .inl ⟨j + 1, f, by simpa using h1, by simpa [findE, h] using h2, by simp only [findN, h, if_false]; rw [h3]; congr 1; omega⟩
      · exact .inr ⟨by simpa [findE, h] using h1, by simp [findN, h, h2]⟩
end Go.Proofs.Ytogepedlalfpjaa
