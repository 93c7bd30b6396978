/- What a kind of steps has, a letter each; steps with one part more; bytes of strings. -/
import Derived.Test.YtikkkfamflmgeaaStA
namespace Go.Proofs.Ytikkkfamflmgeaa
open Go Go.GV
attribute [local irreducible] cw Go.GV.SpecM Go.GV.wpList Exit.then Exit.inBlock Go.GV.bodyPost wpPl wpPm wpPn TS rnd rPost YieldsB wpPT ptK
set_option maxRecDepth 10000
set_option maxHeartbeats 8000000
set_option linter.unusedVariables false
set_option linter.unusedSimpArgs false
/-- A byte of a string that is told by its numbers. -/
theorem strOf_get {xs : List Int} {i : Nat} {y : Int} (hy : xs[i]? = some y) : (strOfNums xs)[i]? = some (UInt8.ofNat y.toNat) := by
  have h1 : (strOfNums xs).data.toList = xs.map fun n => UInt8.ofNat n.toNat := strOfNums_data xs
  have h2 : (strOfNums xs).data[i]? = some (UInt8.ofNat y.toNat) := by
    rw [← Array.getElem?_toList, h1, List.getElem?_map, hy]; rfl
  obtain ⟨h3, h4⟩ := Array.getElem?_eq_some_iff.1 h2
  have h5 : i < (strOfNums xs).size := h3
  rw [getElem?_pos (strOfNums xs) i h5]
  exact congrArg some h4
theorem od_sindexE {P : Program} {C : Ctx} {L : En} {H : List HE} {h : PH} {dst : Option Tmp} {ty : TypeId} {pos : String} {after : Array Edge} {gd : Option (Nat × Bool)} {t : TypeId} [TStr P t] {x y : Operand} {k : IntKind} {s : ByteArray} (xs : List Int) {m : Int} {i : Nat} {v : Int}
    (hx : Ev L x (.string s)) (hs : s = strOfNums xs) (hy : Ev L y (.int k m)) (hm : m = (i : Int)) (hv : xs[i]? = some v) (hr : inR .u8 v) :
    OP P C ⟨dst, .index t x y, ty, pos, after, gd⟩ L H h (.int .u8 v) := by
  subst hs
  have := od_sindex (P := P) (C := C) (H := H) (h := h) (dst := dst) (ty := ty) (pos := pos) (after := after) (gd := gd) (t := t) hx hy hm (strOf_get hv)
  simp only [inR] at hr
  have e : ((UInt8.ofNat v.toNat).toNat : Int) = v := by simp; omega
  rwa [e] at this
/-- The letters of the parts that a kind has. -/
def ownL (k : Int) : List Int :=
  if k = 2 ∨ k = 3 ∨ k = 4 then [97] else if k = 5 then [97, 102, 116] else if k = 6 then [97, 98] else if k = 7 then [110, 115] else if k = 9 then [110, 118, 100] else if k = 10 then [110, 111] else [110]
theorem ownL_u8 (k : Int) : ∀ x ∈ ownL k, inR .u8 x := by
  unfold ownL
  repeat' split
  all_goals (intro x hx; simp at hx; rcases hx with rfl | rfl | rfl <;> simp [inR])
theorem ownL_len (k : Int) : (ownL k).length ≤ 3 := by
  unfold ownL
  repeat' split
  all_goals simp

theorem parts_det (k : Int) (h : PH) (hk : known k = true) : Det Try.prog 11 #[.int .u8 k] h (.string (strOfNums (ownL k))) := by
  simp only [known, Bool.and_eq_true, decide_eq_true_eq] at hk
  refine spec_enter (args := [_]) Try.func11 rfl Try.ntmps11 rfl (fun w l => ?_)
  have hc : (k = 1 ∨ k = 2 ∨ k = 3 ∨ k = 4 ∨ k = 5 ∨ k = 6 ∨ k = 7) ∨ (k = 8 ∨ k = 9 ∨ k = 10 ∨ k = 11 ∨ k = 12 ∨ k = 13) := by omega
  rcases hc with hc | hc
  · rcases hc with rfl | rfl | rfl | rfl | rfl | rfl | rfl
    all_goals repeat' (first | fail | fail | refine wkA ?_ | fail | fail | refine hd_draw follows_any (by decide +kernel) ?_ | (refine is_on ?_; first | refine ts_onA ?_ | refine pn_barA ?_ | refine pn_goA ?_ | refine pt_goA ?_) | refine hd_nil ?_ | exact tsA | fail | (refine hd_condT (by exact aX) (by (first | rfl | (simp only [beq_eq_false_iff_ne]; omega) | fail)) ?_) | (refine hd_condF (by exact aX) (by (first | rfl | (simp only [beq_eq_false_iff_ne]; omega) | fail)) ?_) | (refine hd_cond (by exact aX) (fun _ => ?_) (fun _ => ?_))  | fail | refine hd_opA ?_ | refine ch_opA ?_ | refine hd_pnA ?_ | ((first | apply hd_ok | apply ch_ok | (apply hd_pn_run; rfl; exact aM)); (focus ((first | (apply OK.plain; rfl; apply OD.of) | (apply OKp.plain; rfl)); (first | (apply od_pickX; exact aX; (focus (first | rfl | (simp only [beq_eq_false_iff_ne]; omega) | fail)); exact aX) | (apply od_pickY; exact aX; (focus (first | rfl | (simp only [beq_eq_false_iff_ne]; omega) | fail)); exact aX)))); rfl; rfl) | ((first | apply hd_ok | apply ch_ok); (focus ((first | (apply OK.plain; rfl) | (apply OK.guarded; rfl; rfl; (intro hg; (try have hk := hg.2); (try have hl := hg.2.2); (try have hm := hg.2.2.2)))); (first | (apply od_call; exact aX; infer_instance; exact aE; exact aN; (focus (first | fail))) ))); rfl; rfl) | (refine hd_pn_op rfl ?_) | (refine ts_step rfl (fun HF h1 hle => ?_)) | refine hd_storeA ?_ | refine hd_boxA (fun _ => ?_) | refine hd_alloc rfl (fun _ => ?_) | refine hd_makeA (fun _ => ?_) | refine hd_copyA ?_ | refine hd_litA (fun _ => ?_) | refine hd_appendA (fun _ _ => ?_) | refine hd_storeRA ?_)
    all_goals ((repeat (refine hd_undefer (by first | exact .inl rfl | exact .inr rfl) (by exact aP) ?_)); apply hd_res0; (focus (first | exact .inl rfl | exact .inr rfl)); rfl; exact aR)
    all_goals rfl
  · rcases hc with rfl | rfl | rfl | rfl | rfl | rfl
    all_goals repeat' (first | fail | fail | refine wkA ?_ | fail | fail | refine hd_draw follows_any (by decide +kernel) ?_ | (refine is_on ?_; first | refine ts_onA ?_ | refine pn_barA ?_ | refine pn_goA ?_ | refine pt_goA ?_) | refine hd_nil ?_ | exact tsA | fail | (refine hd_condT (by exact aX) (by (first | rfl | (simp only [beq_eq_false_iff_ne]; omega) | fail)) ?_) | (refine hd_condF (by exact aX) (by (first | rfl | (simp only [beq_eq_false_iff_ne]; omega) | fail)) ?_) | (refine hd_cond (by exact aX) (fun _ => ?_) (fun _ => ?_))  | fail | refine hd_opA ?_ | refine ch_opA ?_ | refine hd_pnA ?_ | ((first | apply hd_ok | apply ch_ok | (apply hd_pn_run; rfl; exact aM)); (focus ((first | (apply OK.plain; rfl; apply OD.of) | (apply OKp.plain; rfl)); (first | (apply od_pickX; exact aX; (focus (first | rfl | (simp only [beq_eq_false_iff_ne]; omega) | fail)); exact aX) | (apply od_pickY; exact aX; (focus (first | rfl | (simp only [beq_eq_false_iff_ne]; omega) | fail)); exact aX)))); rfl; rfl) | ((first | apply hd_ok | apply ch_ok); (focus ((first | (apply OK.plain; rfl) | (apply OK.guarded; rfl; rfl; (intro hg; (try have hk := hg.2); (try have hl := hg.2.2); (try have hm := hg.2.2.2)))); (first | (apply od_call; exact aX; infer_instance; exact aE; exact aN; (focus (first | fail))) ))); rfl; rfl) | (refine hd_pn_op rfl ?_) | (refine ts_step rfl (fun HF h1 hle => ?_)) | refine hd_storeA ?_ | refine hd_boxA (fun _ => ?_) | refine hd_alloc rfl (fun _ => ?_) | refine hd_makeA (fun _ => ?_) | refine hd_copyA ?_ | refine hd_litA (fun _ => ?_) | refine hd_appendA (fun _ _ => ?_) | refine hd_storeRA ?_)
    all_goals ((repeat (refine hd_undefer (by first | exact .inl rfl | exact .inr rfl) (by exact aP) ?_)); apply hd_res0; (focus (first | exact .inl rfl | exact .inr rfl)); rfl; exact aR)
    all_goals rfl
/-- A step with a part put to it, by the part's letter. -/
def odd (x : SD) (q : Int) : SD :=
  if q = 110 then { x with node := 1 } else if q = 111 then { x with other := 1 } else if q = 97 then { x with at_ := 1 } else if q = 98 then { x with to_ := 1 } else if q = 102 then { x with from_ := 1 } else if q = 116 then { x with turns := 1 }
  else if q = 115 then { x with filter := [(0, 0)] } else if q = 118 then { x with vals := [0] } else { x with data := [0] }
def letters : List Int := [110, 111, 97, 98, 102, 116, 115, 118, 100]
theorem odd_ok {x : SD} {q : Int} (hk : stepOk x = true) (hq : q ∈ letters) : stepOk (odd x q) = (ownL x.kind).any (· == q) := by
  obtain ⟨k, nd, ot, a, t, f, u, fl, vs, da⟩ := x
  simp only [stepOk, Bool.and_eq_true] at hk
  obtain ⟨⟨⟨⟨⟨⟨⟨⟨⟨hk0, k1⟩, k2⟩, k3⟩, k4⟩, k5⟩, k6⟩, k7⟩, k8⟩, k9⟩ := hk
  have hc : (k = 1 ∨ k = 2 ∨ k = 3 ∨ k = 4 ∨ k = 5 ∨ k = 6 ∨ k = 7) ∨ (k = 8 ∨ k = 9 ∨ k = 10 ∨ k = 11 ∨ k = 12 ∨ k = 13) := by simp only [known, Bool.and_eq_true, decide_eq_true_eq] at hk0; omega
  simp only [letters, List.mem_cons, List.not_mem_nil, or_false] at hq
  rcases hq with rfl | rfl | rfl | rfl | rfl | rfl | rfl | rfl | rfl <;> rcases hc with hc | hc
  all_goals first
    | (rcases hc with rfl | rfl | rfl | rfl | rfl | rfl | rfl <;> simp only [odd, stepOk] <;> simp_all [known, hNode, hOther, hAt, hTo, hFrom, hFil, hVal, ownL, fitB] <;> done)
    | (rcases hc with rfl | rfl | rfl | rfl | rfl | rfl <;> simp only [odd, stepOk] <;> simp_all [known, hNode, hOther, hAt, hTo, hFrom, hFil, hVal, ownL, fitB] <;> done)
theorem far_ok {x : SD} {n : Int} (hn : n < 0 ∨ 65535 < n) : stepOk { x with at_ := n } = false := by
  rw [← Bool.not_eq_true]
  intro hk
  simp only [stepOk, Bool.and_eq_true, fitB_iff] at hk
  obtain ⟨⟨⟨⟨⟨⟨⟨⟨⟨hk0, k1⟩, k2⟩, k3⟩, k4⟩, k5⟩, k6⟩, k7⟩, k8⟩, k9⟩ := hk
  cases e : hAt x.kind with
  | true => have := k3.2.1 e; omega
  | false => have := k3.2.2 e; omega
theorem kind_ok (k : Int) : stepOk ⟨k, 0, 0, 0, 0, 0, 0, [], [], []⟩ = (decide (1 ≤ k) && decide (k ≤ 13)) := by
  simp only [stepOk, known, fitB]
  cases hNode k <;> cases hOther k <;> cases hAt k <;> cases hTo k <;> cases hFrom k <;> cases hFil k <;> cases hVal k <;> simp
theorem any_take_step {l : List Int} {i : Nat} {y q : Int} (hy : l[i]? = some y) : (l.take (i + 1)).any (· == q) = ((l.take i).any (· == q) || y == q) := by
  rw [take_step hy]; simp
end Go.Proofs.Ytikkkfamflmgeaa
