/- What package script's reader reads: a step. -/
import Derived.Test.YtikkkfamflmgeaaStX
namespace Go.Proofs.Ytikkkfamflmgeaa
open Go Go.GV
attribute [local irreducible] cw Go.GV.SpecM Go.GV.wpList Exit.then Exit.inBlock Go.GV.bodyPost wpPl wpPm wpPn TS rnd rPost YieldsB wpPT ptK
set_option maxRecDepth 10000
set_option maxHeartbeats 8000000
set_option linter.unusedVariables false
set_option linter.unusedSimpArgs false
theorem rdSpans_snoc : ∀ (k : Nat) (b : List Int), rdSpans (k + 1) b = (rdSpans k b).bind fun p => (rdN true 4 p.2).bind fun u => (rdN true 4 u.2).bind fun v => some (p.1 ++ [(u.1 - 2147483648, v.1 - 2147483648)], v.2)
  | 0, b => by
    simp only [rdSpans, Option.bind_some, List.nil_append]
  | k + 1, b => by
    rw [rdSpans]
    rw [show rdSpans (k + 1) b = (rdN true 4 b).bind fun p => (rdN true 4 p.2).bind fun q => (rdSpans k q.2).bind fun r => some ((p.1 - 2147483648, q.1 - 2147483648) :: r.1, r.2) from rfl]
    cases h1 : rdN true 4 b with
    | none => rfl
    | some p =>
      simp only [Option.bind_some]
      cases h2 : rdN true 4 p.2 with
      | none => rfl
      | some q =>
        simp only [Option.bind_some]
        rw [rdSpans_snoc k q.2]
        cases h3 : rdSpans k q.2 with
        | none => rfl
        | some r =>
          simp only [Option.bind_some]
          cases h4 : rdN true 4 r.2 with
          | none => rfl
          | some u =>
            simp only [Option.bind_some]
            cases h5 : rdN true 4 u.2 with
            | none => rfl
            | some v => simp only [Option.bind_some, List.cons_append]
theorem rdVals_snoc : ∀ (k : Nat) (b : List Int), rdVals (k + 1) b = (rdVals k b).bind fun p => (rdN true 4 p.2).bind fun u => some (p.1 ++ [u.1 - 2147483648], u.2)
  | 0, b => by
    simp only [rdVals, Option.bind_some, List.nil_append]
  | k + 1, b => by
    rw [rdVals]
    rw [show rdVals (k + 1) b = (rdN true 4 b).bind fun p => (rdVals k p.2).bind fun r => some ((p.1 - 2147483648) :: r.1, r.2) from rfl]
    cases h1 : rdN true 4 b with
    | none => rfl
    | some p =>
      simp only [Option.bind_some]
      rw [rdVals_snoc k p.2]
      cases h3 : rdVals k p.2 with
      | none => rfl
      | some r =>
        simp only [Option.bind_some]
        cases h4 : rdN true 4 r.2 with
        | none => rfl
        | some u => simp only [Option.bind_some, List.cons_append]
/-- What is read, behind what was read. -/
structure Rds {α : Type} (o : Option (List Int)) (f : List Int → Option (α × List Int)) (o' : Option (List Int)) (x : α) : Prop where
  rest : (o.bind f).map (·.2) = o'
  val : ∀ y r, o.bind f = some (y, r) → y = x
theorem rds_tk {bs : List Int} {s : RS} (t : Bool) (K : Nat) (hs : s.1 ≤ bs.length) : Rds (rst bs s) (rdN t K) (rst bs (tkS bs s t K)) (tkX bs s t K) :=
  ⟨(tk_rst t K hs).symm, fun y r e => by rw [tk_num t K hs, e]; rfl⟩
theorem rds_tx {bs : List Int} {s : RS} (hs : s.1 ≤ bs.length) : Rds (rst bs s) (rdText true) (rst bs (txS bs s)) (txX bs s) :=
  ⟨by rw [tx_rst hs]; cases rst bs (txS bs s) <;> rfl, fun y r e => by rw [tx_rst hs] at e; simp at e; exact e.2.symm⟩
theorem Rds.sm {α : Type} {o : Option (List Int)} {f : List Int → Option (α × List Int)} {o' : Option (List Int)} {x : α} (h : Rds o f o' x) {r : List Int} (hr : o' = Option.some r) : ∃ b, o = Option.some b ∧ f b = Option.some (x, r) := by
  have h1 := h.rest
  rw [hr] at h1
  simp only [Option.map_eq_some_iff] at h1
  obtain ⟨⟨y, r'⟩, h2, h3⟩ := h1
  have hv := h.val y r' h2
  simp only at h3
  subst h3 hv
  simp only [Option.bind_eq_some_iff] at h2
  exact h2
theorem Rds.nn {α : Type} {o : Option (List Int)} {f : List Int → Option (α × List Int)} {o' : Option (List Int)} {x : α} (h : Rds o f o' x) (hr : o' = Option.none) : o.bind f = Option.none := by
  have h1 := h.rest
  rw [hr] at h1
  simpa using h1
/-- All that a step's reading comes to. -/
theorem rd_chain {b : List Int} {o0 o1 o2 o3 o4 o5 o6 o7 o8 o9 o10 : Option (List Int)} {k nd ot a t f u cf cv : Int} {fl : List Sp} {vs da : List Int} {oe : Option (List Int)}
    (h0 : Rds (some b) (rdN true 1) o0 k) (h1 : Rds o0 (rdN (hNode k) 1) o1 nd) (h2 : Rds o1 (rdN (hOther k) 1) o2 ot) (h3 : Rds o2 (rdN (hAt k) 2) o3 a) (h4 : Rds o3 (rdN (hTo k) 2) o4 t) (h5 : Rds o4 (rdN (hFrom k) 2) o5 f) (h6 : Rds o5 (rdN (hFrom k) 4) o6 u)
    (h7 : Rds o6 (rdN (hFil k) 1) o7 cf) (h8 : Rds o7 (rdSpans cf.toNat) o8 fl) (h9 : Rds o8 (rdN (hVal k) 1) o9 cv) (h10 : Rds o9 (rdVals cv.toNat) o10 vs) (h11 : Rds o10 (rdText (hVal k)) oe da) (hk : known k = true) :
    rd b = oe.map fun r => (⟨k, nd, ot, a, t, f, u, fl, vs, da⟩, r) := by
  cases oe with
  | some r =>
    obtain ⟨b10, rfl, e11⟩ := h11.sm rfl
    obtain ⟨b9, rfl, e10⟩ := h10.sm rfl
    obtain ⟨b8, rfl, e9⟩ := h9.sm rfl
    obtain ⟨b7, rfl, e8⟩ := h8.sm rfl
    obtain ⟨b6, rfl, e7⟩ := h7.sm rfl
    obtain ⟨b5, rfl, e6⟩ := h6.sm rfl
    obtain ⟨b4, rfl, e5⟩ := h5.sm rfl
    obtain ⟨b3, rfl, e4⟩ := h4.sm rfl
    obtain ⟨b2, rfl, e3⟩ := h3.sm rfl
    obtain ⟨b1, rfl, e2⟩ := h2.sm rfl
    obtain ⟨b0, rfl, e1⟩ := h1.sm rfl
    obtain ⟨bb, hbb, e0⟩ := h0.sm rfl
    simp only [Option.some.injEq] at hbb
    subst hbb
    simp only [rd, e0, Option.bind_some, hk, cond_true, e1, e2, e3, e4, e5, e6, e7, e8, e9, e10, e11, Option.map_some]
  | none =>
    simp only [Option.map_none]
    cases o0 with
    | none => have := h0.nn rfl; simp only [Option.bind_some] at this; simp [rd, this]
    | some b0 =>
      obtain ⟨bb, hbb, e0⟩ := h0.sm rfl
      simp only [Option.some.injEq] at hbb
      subst hbb
      simp only [rd, e0, Option.bind_some, hk, cond_true]
      cases o1 with
      | none => have := h1.nn rfl; simp only [Option.bind_some] at this; simp [this]
      | some b1 =>
      obtain ⟨bb, hbb, e1⟩ := h1.sm rfl
      cases hbb
      simp only [e1, Option.bind_some]
      cases o2 with
      | none => have := h2.nn rfl; simp only [Option.bind_some] at this; simp [this]
      | some b2 =>
      obtain ⟨bb, hbb, e2⟩ := h2.sm rfl
      cases hbb
      simp only [e2, Option.bind_some]
      cases o3 with
      | none => have := h3.nn rfl; simp only [Option.bind_some] at this; simp [this]
      | some b3 =>
      obtain ⟨bb, hbb, e3⟩ := h3.sm rfl
      cases hbb
      simp only [e3, Option.bind_some]
      cases o4 with
      | none => have := h4.nn rfl; simp only [Option.bind_some] at this; simp [this]
      | some b4 =>
      obtain ⟨bb, hbb, e4⟩ := h4.sm rfl
      cases hbb
      simp only [e4, Option.bind_some]
      cases o5 with
      | none => have := h5.nn rfl; simp only [Option.bind_some] at this; simp [this]
      | some b5 =>
      obtain ⟨bb, hbb, e5⟩ := h5.sm rfl
      cases hbb
      simp only [e5, Option.bind_some]
      cases o6 with
      | none => have := h6.nn rfl; simp only [Option.bind_some] at this; simp [this]
      | some b6 =>
      obtain ⟨bb, hbb, e6⟩ := h6.sm rfl
      cases hbb
      simp only [e6, Option.bind_some]
      cases o7 with
      | none => have := h7.nn rfl; simp only [Option.bind_some] at this; simp [this]
      | some b7 =>
      obtain ⟨bb, hbb, e7⟩ := h7.sm rfl
      cases hbb
      simp only [e7, Option.bind_some]
      cases o8 with
      | none => have := h8.nn rfl; simp only [Option.bind_some] at this; simp [this]
      | some b8 =>
      obtain ⟨bb, hbb, e8⟩ := h8.sm rfl
      cases hbb
      simp only [e8, Option.bind_some]
      cases o9 with
      | none => have := h9.nn rfl; simp only [Option.bind_some] at this; simp [this]
      | some b9 =>
      obtain ⟨bb, hbb, e9⟩ := h9.sm rfl
      cases hbb
      simp only [e9, Option.bind_some]
      cases o10 with
      | none => have := h10.nn rfl; simp only [Option.bind_some] at this; simp [this]
      | some b10 =>
      obtain ⟨bb, hbb, e10⟩ := h10.sm rfl
      cases hbb
      simp only [e10, Option.bind_some]
      have := h11.nn rfl
      simp only [Option.bind_some] at this
      simp [this]
theorem Rds.spans {o oi o1 o2 : Option (List Int)} {i : Nat} {fl : List Sp} {x y : Int} (h : Rds o (rdSpans i) oi fl) (h1 : Rds oi (rdN true 4) o1 x) (h2 : Rds o1 (rdN true 4) o2 y) : Rds o (rdSpans (i + 1)) o2 (fl ++ [(x - 2147483648, y - 2147483648)]) := by
  have e : o.bind (rdSpans (i + 1)) = (o.bind (rdSpans i)).bind fun p => (rdN true 4 p.2).bind fun u => (rdN true 4 u.2).bind fun v => some (p.1 ++ [(u.1 - 2147483648, v.1 - 2147483648)], v.2) := by
    cases o with
    | none => rfl
    | some b => simp only [Option.bind_some]; exact rdSpans_snoc i b
  cases o2 with
  | some r =>
    obtain ⟨b1, rfl, e2⟩ := h2.sm rfl
    obtain ⟨b0, rfl, e1⟩ := h1.sm rfl
    obtain ⟨b, rfl, e0⟩ := h.sm rfl
    simp only [Option.bind_some, e0, e1, e2] at e
    exact ⟨by simp [e], fun y r hr => by simp [e] at hr; exact hr.1.symm⟩
  | none =>
    have : o.bind (rdSpans (i + 1)) = none := by
      rw [e]
      cases oi with
      | none => rw [h.nn rfl]; rfl
      | some b0 =>
        obtain ⟨b, rfl, e0⟩ := h.sm rfl
        simp only [Option.bind_some, e0]
        cases o1 with
        | none => have := h1.nn rfl; simp only [Option.bind_some] at this; simp [this]
        | some b1 =>
          obtain ⟨bb, hbb, e1⟩ := h1.sm rfl
          cases hbb
          simp only [e1, Option.bind_some]
          have := h2.nn rfl
          simp only [Option.bind_some] at this
          simp [this]
    exact ⟨by rw [this]; rfl, fun y r hr => by rw [this] at hr; cases hr⟩
theorem Rds.vals {o oi o1 : Option (List Int)} {i : Nat} {fl : List Int} {x : Int} (h : Rds o (rdVals i) oi fl) (h1 : Rds oi (rdN true 4) o1 x) : Rds o (rdVals (i + 1)) o1 (fl ++ [x - 2147483648]) := by
  have e : o.bind (rdVals (i + 1)) = (o.bind (rdVals i)).bind fun p => (rdN true 4 p.2).bind fun u => some (p.1 ++ [u.1 - 2147483648], u.2) := by
    cases o with
    | none => rfl
    | some b => simp only [Option.bind_some]; exact rdVals_snoc i b
  cases o1 with
  | some r =>
    obtain ⟨b0, rfl, e1⟩ := h1.sm rfl
    obtain ⟨b, rfl, e0⟩ := h.sm rfl
    simp only [Option.bind_some, e0, e1] at e
    exact ⟨by simp [e], fun y r hr => by simp [e] at hr; exact hr.1.symm⟩
  | none =>
    have : o.bind (rdVals (i + 1)) = none := by
      rw [e]
      cases oi with
      | none => rw [h.nn rfl]; rfl
      | some b0 =>
        obtain ⟨b, rfl, e0⟩ := h.sm rfl
        simp only [Option.bind_some, e0]
        have := h1.nn rfl
        simp only [Option.bind_some] at this
        simp [this]
    exact ⟨by rw [this]; rfl, fun y r hr => by rw [this] at hr; cases hr⟩
theorem rds_zero {α : Type} (o : Option (List Int)) (f : Nat → List Int → Option (List α × List Int)) (hf : ∀ b, f 0 b = some ([], b)) : Rds o (f 0) o [] := by
  cases o with
  | none => exact ⟨rfl, fun y r h => by cases h⟩
  | some b => exact ⟨by simp [hf], fun y r h => by simp [hf] at h; exact h.1⟩
end Go.Proofs.Ytikkkfamflmgeaa
