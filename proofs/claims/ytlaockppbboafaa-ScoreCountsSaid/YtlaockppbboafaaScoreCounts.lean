/- For every input the law ScoreCounts returns true and leaves its arguments as they were. -/
import Derived.Test.YtlaockppbboafaaScoCd
namespace Go.Proofs.Ytlaockppbboafaa
open Go Go.GV Go.RowKit Go.ChangeShapes Go.WideShapes Go.ChangeAt
attribute [local irreducible] cw Go.GV.SpecM Go.GV.wpList Exit.then Exit.inBlock Go.GV.bodyPost wpPl wpPm wpPn TS rnd rPost YieldsB wpPT ptK
set_option maxRecDepth 10000
set_option linter.unusedVariables false
section
variable {X : Type} {enc : TypeId × Value → X} {W : World} {v : Value} {d : DataW X} {q : List MemPlace} {r : Reach} {b : Nat}
theorem ok_arr {P : Program} {t e : TypeId} {n : Nat} [TArr P t n e] (hv : Value.okWide P W r b t v) : ∃ cs : List Value, v = .agg cs.toArray := by
  have hu := TArr.eq (P := P) (t := t)
  unfold Value.okWide at hv
  rw [hu] at hv
  obtain ⟨cs, e, _⟩ := hv
  exact ⟨cs.toList, by simpa using e⟩
theorem rd_elem {P : Program} {t e : TypeId} {n sz N : Nat} {g g' : Bool} [TArr P t n e] [TI P e sz g] [TI P t N g'] {cs : List Value} (hh : Rd enc P W t cs) : cs.length = N ∧ ∀ i, i < n → Rd enc P W e ((cs.drop (i * sz)).take sz) := by
  obtain ⟨fuel, x, hf⟩ := hh
  obtain ⟨xs, m, _, _, hc, hl, hall⟩ := DataW.trod_array (TArr.eq (P := P) (t := t)) hf
  have h1 := TI.sz (P := P) (t := e) (size := sz)
  have h2 := TI.sz (P := P) (t := t) (size := N)
  have e1 : P.cellsOf e = sz := by simp [Program.cellsOf, h1]
  have e2 : P.cellsOf t = N := by simp [Program.cellsOf, h2]
  refine ⟨by rw [hc, e2], fun i hi => ?_⟩
  have h3 := hall i hi
  rw [e1, List.getElem?_eq_getElem (by omega)] at h3
  exact ⟨m, _, h3⟩
theorem ok_a3 (hv : Value.okWide Try.prog W r b 38 v) (hh : DataW.Trod enc Try.prog W 0 (fun _ => true) true 38 v d q) : ∃ x, VA3 (whole W) v x := by
  obtain ⟨cs, rfl⟩ := ok_arr (t := 38) hv
  have hr := Rd.of hh
  simp only [Value.cells] at hr
  obtain ⟨hl, hel⟩ := rd_elem (t := 38) (N := 6) hr
  have k0 := rdok_span _ (hel 0 (by decide))
  have k1 := rdok_span _ (hel 1 (by decide))
  have k2 := rdok_span _ (hel 2 (by decide))
  obtain ⟨s0, k0⟩ := k0
  obtain ⟨s1, k1⟩ := k1
  obtain ⟨s2, k2⟩ := k2
  obtain ⟨e0, r0⟩ := rSpan_ok k0
  obtain ⟨e1, r1⟩ := rSpan_ok k1
  obtain ⟨e2, r2⟩ := rSpan_ok k2
  refine ⟨(s0, s1, s2), ?_, ?_⟩
  · try simp only [List.toList_toArray] at e0 e1 e2 hl
    have : cs = c3 (s0, s1, s2) := by
      match cs, hl with
      | [x0, x1, x2, x3, x4, x5], _ =>
        simp at e0 e1 e2
        obtain ⟨rfl, rfl⟩ := e0
        obtain ⟨rfl, rfl⟩ := e1
        obtain ⟨rfl, rfl⟩ := e2
        rfl
    rw [this]
  · intro s hs
    simp only [a3, List.mem_cons, List.not_mem_nil, or_false] at hs
    rcases hs with rfl | rfl | rfl
    · exact r0
    · exact r1
    · exact r2
end
set_option maxRecDepth 100000 in
theorem ScoreCounts_lifted (os : Os) (started : os.Started) (X : Type) (enc : TypeId × Value → X) :
    ReturnsInHanded {} Try.checked os 6 .any (Rows.scoreCountsSpec.pre6 enc Try.prog Try.f6 Rows.scoreCountsRow.domain false) (Rows.scoreCountsSpec.post enc Try.prog Try.f6 false true false false) := by
  refine returnsInHanded_of_change (C := Try.checked) own started (by kernel_rfl) Try.func6
    (ChangeSpec.witness6 (enc := enc) (C := Try.checked) false ⟨#[], #[.agg #[.int .i32 0, .int .i32 0, .int .i32 0, .int .i32 0, .int .i32 0, .int .i32 0], .agg #[.int .i32 0, .int .i32 0, .int .i32 0, .int .i32 0, .int .i32 0, .int .i32 0], .int .u8 0], []⟩ 8 (by kernel_rfl) (by kernel_rfl) (by kernel_rfl) (by kernel_rfl)) ?_
  intro W base args ds gs before hval0 hW hcnd hsz
  have hval : ∀ (j : Nat) t v, Try.f6.params[j]? = some t → args[j]? = some v → Value.okWide Try.prog W .any base t v := hval0
  have hW2 := hW
  obtain ⟨p, q, hA0, hV, rfl, hfz, hnd⟩ := hW
  have hA : DataW.TrodAll enc Try.prog W 0 (fun _ => true) true Try.f6.params.toList args.toList ds p := hA0
  rw [Try.params6] at hA hval
  have hB := hA
  obtain ⟨v0, vs0, d0, ds0, pp0, qq0, hargs, rfl, rfl, h0, r0⟩ := trodAll_cons hA
  obtain ⟨v1, vs1, d1, ds1, pp1, qq1, rfl, rfl, rfl, h1, r1⟩ := trodAll_cons r0
  obtain ⟨v2, vs2, d2, ds2, pp2, qq2, rfl, rfl, rfl, h2, r2⟩ := trodAll_cons r1
  obtain ⟨rfl, rfl, rfl⟩ := trodAll_nil r2
  obtain rfl : args = #[v0, v1, v2] := by cases args; simp_all
  obtain ⟨rfl, rfl⟩ := trodVars_none hV
  obtain ⟨x0, b0⟩ := ok_a3 (hval 0 38 v0 rfl rfl) h0
  obtain ⟨x1, b1⟩ := ok_a3 (hval 1 38 v1 rfl rfl) h1
  obtain ⟨a2, rfl, b2⟩ := ok_int (hval 2 5 v2 rfl rfl) h2
  refine (Det.calls (ScoreCounts_det x0 x1 a2 (whole W) b0 b1 b2)).mono fun e W2 ⟨he, bel⟩ => ?_
  subst he
  exact ⟨_, rfl, _, _, _, [], _, [], hW2, trodAll_mk1 (shut_bool Try.underlying4 _), trodAll_below laidOut bel (by kernel_rfl) hB, rfl, bel.frame _, fun h => by cases h⟩
theorem ScoreCounts_over : Rows.scoreCountsRow.holds Try.pinned (OpenSpec.ofChange Rows.scoreCountsSpec) :=
  OpenClaim.holds_of_wide 6 Try.f6 rfl rfl rfl rfl rfl rfl rfl ⟨rfl, rfl, rfl, rfl, rfl⟩ rfl rfl rfl rfl rfl (by kernel_rfl) Try.func6 (by kernel_rfl)
    (of_decide_eq_true (by kernel_rfl)) (by unfold Func.isWrapper; first | (rw [if_pos (by decide +kernel)]; kernel_rfl) | (rw [if_neg (by decide +kernel)]; exact ⟨rfl, rfl⟩))
    (fun os started X enc _ => ScoreCounts_lifted os started X enc)
/-- The statement. -/
theorem ScoreCounts_proved : Rows.ScoreCountsSaid := ScoreCounts_over
end Go.Proofs.Ytlaockppbboafaa
