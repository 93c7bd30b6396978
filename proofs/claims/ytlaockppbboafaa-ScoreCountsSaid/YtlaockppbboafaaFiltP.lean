/- Filters in plain lists: what they match, cover, have in common. -/
import Derived.Test.YtlaockppbboafaaFSpan
namespace Go.Proofs.Ytlaockppbboafaa
open Go Go.GV
attribute [local irreducible] cw Go.GV.SpecM Go.GV.wpList Exit.then Exit.inBlock Go.GV.bodyPost wpPl wpPm wpPn TS rnd rPost YieldsB wpPT ptK
set_option linter.unusedVariables false
set_option linter.unusedSimpArgs false
def mtb (x : Sp × Sp) : Bool := mtOk x.1.1 x.1.2 x.2.1 x.2.2
def mtp (x : Sp × Sp) : Sp := (mt1 x.1.1 x.1.2 x.2.1 x.2.2, mt2 x.1.1 x.1.2 x.2.1 x.2.2)
def meetF (a b : List Sp) : List Sp := if a.length = b.length ∧ (a.zip b).all mtb = true then (a.zip b).map mtp else []
def covb (x : Sp × Sp) : Bool := cov x.1.1 x.1.2 x.2.1 x.2.2
def coversF (a b : List Sp) : Bool := decide (b.length = 0) || (decide (a.length = b.length) && (a.zip b).all covb)
def matchF (f : List Sp) (vs : List Int) : Bool := !decide (f.length = 0) && (decide (f.length = vs.length) && (f.zip vs).all inS)
def rgb (x : Sp × Sp) : Bool := decide (x.2.1 ≤ x.2.2) && covb x
def rightF (s f : List Sp) : Bool := decide (f.length = 0) || (decide (f.length = s.length) && (s.zip f).all rgb)
def normF (s f : List Sp) : List Sp := if f.length = 0 then [] else if f.length ≠ s.length then [] else meetF s f
def normE (s f : List Sp) : Int := if f.length = 0 then 0 else if f.length ≠ s.length then 50 else 0
theorem zip_at {α β : Type} {s : List α} {vs : List β} {i : Nat} {x : α} {y : β} (hx : s[i]? = some x) (hy : vs[i]? = some y) : (s.zip vs)[i]? = some (x, y) := by
  rw [List.getElem?_zip_eq_some]; exact ⟨hx, hy⟩
theorem mtp_in {x : Sp × Sp} (h1 : inR .i32 x.1.1 ∧ inR .i32 x.1.2) (h2 : inR .i32 x.2.1 ∧ inR .i32 x.2.2) : inR .i32 (mtp x).1 ∧ inR .i32 (mtp x).2 := by
  simp only [mtp, mt1, mt2, inR] at *; constructor <;> split <;> omega
theorem meet_in {a b : List Sp} (ha : ∀ x ∈ a, inR .i32 x.1 ∧ inR .i32 x.2) (hb : ∀ x ∈ b, inR .i32 x.1 ∧ inR .i32 x.2) : ∀ x ∈ (a.zip b).map mtp, inR .i32 x.1 ∧ inR .i32 x.2 := by
  intro x hx
  obtain ⟨⟨y, z⟩, hm, rfl⟩ := List.mem_map.1 hx
  obtain ⟨h1, h2⟩ := List.of_mem_zip hm
  exact mtp_in (ha y h1) (hb z h2)
theorem meetF_in {a b : List Sp} (ha : ∀ x ∈ a, inR .i32 x.1 ∧ inR .i32 x.2) (hb : ∀ x ∈ b, inR .i32 x.1 ∧ inR .i32 x.2) : ∀ x ∈ meetF a b, inR .i32 x.1 ∧ inR .i32 x.2 := by
  unfold meetF
  split
  · exact meet_in ha hb
  · intro x hx; cases hx
theorem meetF_len_le (a b : List Sp) : (meetF a b).length ≤ a.length := by
  unfold meetF
  split
  · simp; omega
  · simp
/-! ### Two lists, place by place -/
theorem mtb_comm (x y : Sp) : mtb (x, y) = mtb (y, x) := by simp only [mtb, mtOk]; grind
theorem mtp_comm (x y : Sp) : mtp (x, y) = mtp (y, x) := by simp only [mtp, mt1, mt2]; grind
theorem zip_comm_all : ∀ a b : List Sp, (a.zip b).all mtb = (b.zip a).all mtb
  | [], b => by simp
  | _ :: _, [] => by simp
  | x :: a, y :: b => by simp [mtb_comm x y, zip_comm_all a b]
theorem zip_comm_map : ∀ a b : List Sp, (a.zip b).map mtp = (b.zip a).map mtp
  | [], b => by simp
  | _ :: _, [] => by simp
  | x :: a, y :: b => by simp [mtp_comm x y, zip_comm_map a b]
theorem meetF_comm (a b : List Sp) : meetF a b = meetF b a := by
  simp only [meetF, zip_comm_all a b, zip_comm_map a b, eq_comm (a := a.length)]
theorem match_meet_aux : ∀ (a b : List Sp) (vs : List Int), a.length = b.length → a.length = vs.length →
    ((a.zip b).all mtb && (((a.zip b).map mtp).zip vs).all inS) = ((a.zip vs).all inS && (b.zip vs).all inS)
  | [], [], vs, _, _ => by simp
  | [], _ :: _, _, h, _ => by simp at h
  | _ :: _, [], _, h, _ => by simp at h
  | x :: a, y :: b, [], _, h => by simp at h
  | x :: a, y :: b, v :: vs, h1, h2 => by
    have ih := match_meet_aux a b vs (by simpa using h1) (by simpa using h2)
    have e : (mtb (x, y) && inS (mtp (x, y), v)) = (inS (x, v) && inS (y, v)) := by
      simp only [mtb, mtp, inS, mtOk, mt1, mt2]; grind
    simp only [List.zip_cons_cons, List.all_cons, List.map_cons]
    generalize (a.zip b).all mtb = p1 at *
    generalize (((a.zip b).map mtp).zip vs).all inS = p2 at *
    generalize (a.zip vs).all inS = p3 at *
    generalize (b.zip vs).all inS = p4 at *
    generalize mtb (x, y) = q1 at *
    generalize inS (mtp (x, y), v) = q2 at *
    generalize inS (x, v) = q3 at *
    generalize inS (y, v) = q4 at *
    revert ih e
    cases p1 <;> cases p2 <;> cases p3 <;> cases p4 <;> cases q1 <;> cases q2 <;> cases q3 <;> cases q4 <;> simp
theorem match_meet (a b : List Sp) (vs : List Int) : matchF (meetF a b) vs = (matchF a vs && matchF b vs) := by
  by_cases hl : a.length = b.length
  · by_cases hv : a.length = vs.length
    · have h := match_meet_aux a b vs hl hv
      unfold meetF
      by_cases ha : (a.zip b).all mtb = true
      · rw [if_pos ⟨hl, ha⟩]
        rw [ha, Bool.true_and] at h
        have e : ((a.zip b).map mtp).length = a.length := by simp [hl]
        simp only [matchF, e, h, ← hl, hv, decide_true, Bool.true_and]
        generalize (a.zip vs).all inS = p1
        generalize (b.zip vs).all inS = p2
        generalize (!decide (vs.length = 0)) = p3
        cases p1 <;> cases p2 <;> cases p3 <;> rfl
      · rw [if_neg (fun e => ha e.2)]
        simp only [Bool.not_eq_true] at ha
        rw [ha, Bool.false_and] at h
        simp only [matchF, ← hl, hv, decide_true, Bool.true_and]
        generalize (a.zip vs).all inS = p1 at *
        generalize (b.zip vs).all inS = p2 at *
        generalize (!decide (vs.length = 0)) = p3
        revert h
        cases p1 <;> cases p2 <;> cases p3 <;> simp
    · have h1 : matchF a vs = false := by simp [matchF, hv]
      have h2 : matchF (meetF a b) vs = false := by
        unfold meetF
        split
        · simp [matchF, ← hl, hv]
        · simp [matchF]
      rw [h1, h2]; rfl
  · have h2 : matchF (meetF a b) vs = false := by
      unfold meetF
      rw [if_neg (fun e => hl e.1)]; simp [matchF]
    rw [h2]
    simp only [matchF]
    by_cases h3 : a.length = vs.length
    · have : ¬ b.length = vs.length := by omega
      simp [this]
    · simp [h3]
theorem cov_meet_aux : ∀ (a b : List Sp), (a.zip b).all mtb = true → a.length = b.length → (a.zip ((a.zip b).map mtp)).all covb = true
  | [], b, _, _ => by simp
  | _ :: _, [], _, h => by simp at h
  | x :: a, y :: b, h, hl => by
    simp only [List.zip_cons_cons, List.all_cons, Bool.and_eq_true, List.map_cons] at *
    refine ⟨?_, cov_meet_aux a b h.2 (by simpa using hl)⟩
    have h1 := h.1
    simp only [mtb, mtp, covb, cov, mtOk, mt1, mt2] at *; grind
theorem covers_meet (a b : List Sp) : coversF a (meetF a b) = true := by
  unfold meetF
  split
  · rename_i h
    simp [coversF, cov_meet_aux a b h.2 h.1, h.1]
  · simp [coversF]
theorem covers_meet' (a b : List Sp) : coversF b (meetF a b) = true := by rw [meetF_comm]; exact covers_meet b a
theorem cov_match_aux : ∀ (a b : List Sp) (vs : List Int), (a.zip b).all covb = true → (b.zip vs).all inS = true → a.length = b.length → b.length = vs.length → (a.zip vs).all inS = true
  | [], _, _, _, _, _, _ => by simp
  | _ :: _, [], _, _, _, h, _ => by simp at h
  | _ :: _, _ :: _, [], _, _, _, h => by simp at h
  | x :: a, y :: b, v :: vs, h1, h2, h3, h4 => by
    simp only [List.zip_cons_cons, List.all_cons, Bool.and_eq_true] at *
    refine ⟨?_, cov_match_aux a b vs h1.2 h2.2 (by simpa using h3) (by simpa using h4)⟩
    have k1 := h1.1
    have k2 := h2.1
    simp only [covb, cov, inS] at *; grind
theorem covers_match {a b : List Sp} {vs : List Int} (h1 : coversF a b = true) (h2 : matchF b vs = true) : matchF a vs = true := by
  simp only [coversF, matchF, Bool.or_eq_true, Bool.and_eq_true, decide_eq_true_eq, Bool.not_eq_true', decide_eq_false_iff_not] at *
  rcases h1 with h1 | h1
  · exact absurd h1 h2.1
  · exact ⟨by omega, by omega, cov_match_aux a b vs h1.2 h2.2.2 h1.1 h2.2.1⟩
theorem cov_trans_aux : ∀ (a b c : List Sp), (a.zip b).all covb = true → (b.zip c).all covb = true → a.length = b.length → b.length = c.length → (a.zip c).all covb = true
  | [], _, _, _, _, _, _ => by simp
  | _ :: _, [], _, _, _, h, _ => by simp at h
  | _ :: _, _ :: _, [], _, _, _, h => by simp at h
  | x :: a, y :: b, v :: vs, h1, h2, h3, h4 => by
    simp only [List.zip_cons_cons, List.all_cons, Bool.and_eq_true] at *
    refine ⟨?_, cov_trans_aux a b vs h1.2 h2.2 (by simpa using h3) (by simpa using h4)⟩
    have k1 := h1.1
    have k2 := h2.1
    simp only [covb, cov] at *; grind
theorem covers_trans {a b c : List Sp} (h1 : coversF a b = true) (h2 : coversF b c = true) : coversF a c = true := by
  simp only [coversF, Bool.or_eq_true, Bool.and_eq_true, decide_eq_true_eq] at *
  by_cases h0 : c.length = 0
  · exact .inl h0
  · right
    rcases h2 with h2 | h2
    · exact absurd h2 h0
    · rcases h1 with h1 | h1
      · omega
      · exact ⟨by omega, cov_trans_aux a b c h1.2 h2.2 h1.1 h2.1⟩
theorem cov_refl_aux : ∀ a : List Sp, (a.zip a).all covb = true
  | [] => by simp
  | x :: a => by
    simp only [List.zip_cons_cons, List.all_cons, Bool.and_eq_true]
    refine ⟨?_, cov_refl_aux a⟩
    simp only [covb, cov]; grind
theorem covers_refl (a : List Sp) : coversF a a = true := by simp [coversF, cov_refl_aux]
theorem covers_nil (a : List Sp) : coversF a [] = true := by simp [coversF]
theorem meet_eq_aux : ∀ (a b : List Sp), (a.zip b).map mtp = b → (a.zip b).all mtb = true → (a.zip b).all covb = true
  | [], _, _, _ => by simp
  | _ :: _, [], _, _ => by simp
  | x :: a, y :: b, h1, h2 => by
    simp only [List.zip_cons_cons, List.all_cons, Bool.and_eq_true, List.map_cons, List.cons.injEq] at *
    refine ⟨?_, meet_eq_aux a b h1.2 h2.2⟩
    have k1 := h1.1
    have k2 := h2.1
    obtain ⟨y1, y2⟩ := y
    simp only [covb, cov, mtb, mtp, mtOk, mt1, mt2, Prod.mk.injEq] at *; grind
theorem covers_of_meet {a b : List Sp} (h : meetF a b = b) : coversF a b = true := by
  unfold meetF at h
  split at h
  · rename_i h2
    simp [coversF, h2.1, meet_eq_aux a b h h2.2]
  · rw [← h]; simp [coversF]
theorem right_meet_aux : ∀ (s f : List Sp), (s.zip f).all mtb = true → s.length = f.length → (s.zip ((s.zip f).map mtp)).all rgb = true
  | [], _, _, _ => by simp
  | _ :: _, [], _, h => by simp at h
  | x :: a, y :: b, h, hl => by
    simp only [List.zip_cons_cons, List.all_cons, Bool.and_eq_true, List.map_cons] at *
    refine ⟨?_, right_meet_aux a b h.2 (by simpa using hl)⟩
    have h1 := h.1
    simp only [mtb, mtp, rgb, covb, cov, mtOk, mt1, mt2] at *; grind
theorem right_meet (s f : List Sp) : rightF s (meetF s f) = true := by
  unfold meetF
  split
  · rename_i h
    simp [rightF, right_meet_aux s f h.2 h.1, h.1]
  · simp [rightF]
theorem right_norm (s f : List Sp) : rightF s (normF s f) = true := by
  unfold normF
  split
  · simp [rightF]
  · split
    · simp [rightF]
    · exact right_meet s f
theorem matchF_nil (vs : List Int) : matchF [] vs = false := by simp [matchF]
theorem fits_match (s : List Sp) (vs : List Int) (h : fits s vs = true) (h0 : s.length ≠ 0) : matchF s vs = true := by
  simp only [fits, Bool.and_eq_true, decide_eq_true_eq, matchF, Bool.not_eq_true', decide_eq_false_iff_not] at *
  exact ⟨h0, by omega, h.2⟩
theorem match_norm {s f : List Sp} {vs : List Int} (hf : fits s vs = true) (h0 : s.length ≠ 0) (hl : f.length = 0 ∨ f.length = s.length) : matchF (normF s f) vs = matchF f vs := by
  unfold normF
  by_cases h1 : f.length = 0
  · rw [if_pos h1]
    simp [matchF, h1]
  · rw [if_neg h1, if_neg (by omega), match_meet, fits_match s vs hf h0, Bool.true_and]
theorem right_meet_id_aux : ∀ (s f : List Sp), (s.zip f).all rgb = true → s.length = f.length → (s.zip f).all mtb = true ∧ (s.zip f).map mtp = f
  | [], [], _, _ => by simp
  | [], _ :: _, _, h => by simp at h
  | _ :: _, [], _, h => by simp at h
  | x :: a, y :: b, h, hl => by
    simp only [List.zip_cons_cons, List.all_cons, Bool.and_eq_true, List.map_cons, List.cons.injEq] at *
    have ih := right_meet_id_aux a b h.2 (by simpa using hl)
    have h1 := h.1
    obtain ⟨y1, y2⟩ := y
    refine ⟨⟨?_, ih.1⟩, ?_, ih.2⟩
    · simp only [mtb, mtp, rgb, covb, cov, mtOk, mt1, mt2] at *; grind
    · simp only [mtb, mtp, rgb, covb, cov, mtOk, mt1, mt2, Prod.mk.injEq] at *; grind
theorem norm_right {s f : List Sp} (h : rightF s f = true) : normF s f = f ∧ normE s f = 0 := by
  simp only [rightF, Bool.or_eq_true, decide_eq_true_eq, Bool.and_eq_true] at h
  unfold normF normE
  rcases h with h | h
  · rw [if_pos h, if_pos h]
    exact ⟨(List.length_eq_zero_iff.1 h).symm, rfl⟩
  · by_cases h0 : f.length = 0
    · rw [if_pos h0, if_pos h0]
      exact ⟨(List.length_eq_zero_iff.1 h0).symm, rfl⟩
    · rw [if_neg h0, if_neg h0, if_neg (by omega), if_neg (by omega)]
      obtain ⟨k1, k2⟩ := right_meet_id_aux s f h.2 h.1.symm
      exact ⟨by rw [meetF, if_pos ⟨h.1.symm, k1⟩, k2], rfl⟩
theorem norm_idem (s f : List Sp) : normF s (normF s f) = normF s f ∧ normE s (normF s f) = 0 := norm_right (right_norm s f)
theorem right_eq_norm {s f : List Sp} (hl : f.length = 0 ∨ f.length = s.length) : rightF s f = decide (normF s f = f) := by
  by_cases h : rightF s f = true
  · rw [h, (norm_right h).1]; simp
  · have h2 : normF s f ≠ f := fun e => h (by rw [← e]; exact right_norm s f)
    simp only [Bool.not_eq_true] at h
    rw [h]; simp [h2]
theorem normE_eq (s f : List Sp) : decide (normE s f = 0) = (decide (f.length = 0) || decide (f.length = s.length)) := by
  unfold normE
  by_cases h0 : f.length = 0
  · simp [h0]
  · rw [if_neg h0]
    by_cases h1 : f.length = s.length
    · simp [h1]
    · rw [if_pos h1]; simp [h0, h1]
end Go.Proofs.Ytlaockppbboafaa
