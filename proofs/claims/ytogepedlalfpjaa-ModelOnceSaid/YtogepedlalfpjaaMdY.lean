/- What readable deeds are. -/
import Derived.Test.YtogepedlalfpjaaMdX
import Derived.Test.YtogepedlalfpjaaMdQ
namespace Go.Proofs.Ytogepedlalfpjaa
open Go Go.GV
attribute [local irreducible] cw Go.GV.SpecM Go.GV.wpList Exit.then Exit.inBlock Go.GV.bodyPost wpPl wpPm wpPn TS rnd rPost YieldsB wpPT ptK
set_option maxRecDepth 10000
set_option maxHeartbeats 8000000
set_option linter.unusedVariables false
set_option linter.unusedSimpArgs false
section
variable {X : Type} {enc : TypeId × Value → X} {W : World} {v : Value} {d : DataW X} {q : List MemPlace} {r : Reach} {b : Nat}
theorem rdok_id : RdOK enc Try.prog W rID 40 := fun cs hh => by
  obtain ⟨a, ha⟩ := rdok_seg (f := 0) (rdok_int (t := 5)) hh
  obtain ⟨e, he⟩ := rdok_seg (f := 1) (rdok_int (t := 36)) hh
  obtain ⟨g, hg⟩ := rdok_seg (f := 2) (rdok_int (t := 24)) hh
  have := seg_pair ha (seg_pair he hg)
  rw [seg_all (rd_len hh)] at this
  exact ⟨_, this⟩
theorem rdok_event : RdOK enc Try.prog W rEvent 47 := fun cs hh => by
  obtain ⟨a, ha⟩ := rdok_seg (f := 0) rdok_id hh
  obtain ⟨e, he⟩ := rdok_seg (f := 1) (rdok_slice (t := 44) (by decide) rfl (rdok_int (k := .i32))) hh
  obtain ⟨g, hg⟩ := rdok_seg (f := 2) (rdok_slice (t := 45) (by decide) rfl (rdok_int (k := .u8))) hh
  have := seg_pair ha (seg_pair he hg)
  rw [seg_all (rd_len hh)] at this
  exact ⟨_, this⟩
theorem rdok_deed : RdOK enc Try.prog W rDeed 49 := fun cs hh => by
  obtain ⟨a0, h0⟩ := rdok_seg (f := 0) (rdok_int (t := 5)) hh
  obtain ⟨a1, h1⟩ := rdok_seg (f := 1) (rdok_int (t := 5)) hh
  obtain ⟨a2, h2⟩ := rdok_seg (f := 2) (rdok_slice (t := 26) (by decide) rfl rdok_span) hh
  obtain ⟨a3, h3⟩ := rdok_seg (f := 3) rdok_event hh
  obtain ⟨a4, h4⟩ := rdok_seg (f := 4) rdok_id hh
  have := seg_pair h0 (seg_pair h1 (seg_pair h2 (seg_pair h3 h4)))
  rw [seg_all (rd_len hh)] at this
  exact ⟨⟨a0, a1, a2, a3, a4⟩, this⟩
theorem ok_deed (hv : Value.okWide Try.prog W r b 49 v) (hh : DataW.Trod enc Try.prog W 0 (fun _ => true) true 49 v d q) : ∃ x, VDe (whole W) v x := by
  obtain ⟨cs, rfl⟩ := ok_struct hv
  obtain ⟨x, hx⟩ := rdok_deed cs (by simpa [Value.cells] using Rd.of hh)
  exact ⟨x, VDe.of hx⟩
def VDl (h : PH) (v : Value) (xs : List DeD) : Prop := ∃ p n c, v = .slice p n c ∧ SlD h p n c xs
theorem ok_deeds (hv : Value.okWide Try.prog W r b 25 v) (hh : DataW.Trod enc Try.prog W 0 (fun _ => true) true 25 v d q) : ∃ xs, VDl (whole W) v xs := by
  obtain ⟨p, n, c, rfl⟩ := ok_slice hv
  obtain ⟨xs, p', n', c', e, hs⟩ := rdok_slice (t := 25) (by decide) rfl rdok_deed [.slice p n c] (by simpa [Value.cells] using Rd.of hh)
  simp at e; obtain ⟨rfl, rfl, rfl⟩ := e
  exact ⟨xs, _, _, _, rfl, hs⟩
end
theorem right_len {s : List Sp} (h : right s = true) : s.length ≤ 4 := by simp [right] at h; omega
theorem few_all {l : List DeD} {m : Int} (h : fewL l m = true) : (∀ d ∈ l, DeB d) ∧ (l.length : Int) ≤ m := by
  simp only [fewL, Bool.and_eq_true, List.all_eq_true, decide_eq_true_eq] at h
  exact ⟨fun d hd => fewD_B (h.1 d hd), h.2⟩
theorem same_tt {v u : Value} {x : SvD} (h : PH) (hv : VSv h v x) (hu : VSv h u x) : Det Try.prog 17 #[v, u] h (.bool true) := by
  have := model_Same h hv hu
  rwa [decide_eq_true rfl] at this
theorem givens_tt {p q : Option Addr} {n c m d : Nat} {xs : List GD} (h : PH) (hx : SlG h p n c xs) (hy : SlG h q m d xs) : Det Try.prog 23 #[.slice p n c, .slice q m d] h (.bool true) := by
  have := law26_Givens h hx hy
  rwa [decide_eq_true rfl] at this
theorem deeds_node {h : PH} {p : Option Addr} {n c : Nat} {ds : List DeD} (hs : SlD h p n c ds) : ∀ d ∈ ds, DeR d := fun d hd => by
  obtain ⟨css, _, h2⟩ := hs
  obtain ⟨a, ha⟩ := h2.mem d hd
  obtain ⟨_, _, _, _, _, _, _, _, _, _, h3, _⟩ := rDeed_ok ha
  exact h3
end Go.Proofs.Ytogepedlalfpjaa
