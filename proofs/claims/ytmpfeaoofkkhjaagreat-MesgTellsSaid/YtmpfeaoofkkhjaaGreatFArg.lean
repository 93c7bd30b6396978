/- What readable arguments are. -/
import Derived.Test.YtmpfeaoofkkhjaaGreatF0
namespace Go.Proofs.YtmpfeaoofkkhjaaGreat
open Go Go.GV
attribute [local irreducible] cw Go.GV.SpecM Go.GV.wpList Exit.then Exit.inBlock Go.GV.bodyPost wpPl wpPm wpPn TS rnd rPost YieldsB wpPT ptK
set_option linter.unusedVariables false
set_option maxRecDepth 10000
theorem own : ownKnob Tryz.prog.godebug = none := by kernel_rfl
theorem laidOut : laidOutB Tryz.prog = true := by kernel_rfl
theorem VEv.mk {h : PH} {a b e : Int} {p q : Option Addr} {n c m d : Nat} {vs ds : List Int} (ha : inR .u8 a) (hb : inR .u16 b) (he : inR .u32 e) (hv : SlV h p n c vs) (hd : SlB h q m d ds) : VEv h (.agg #[.int .u8 a, .int .u16 b, .int .u32 e, .slice p n c, .slice q m d]) ((a, b, e), vs, ds) :=
  ⟨p, n, c, q, m, d, rfl, ha, hb, he, hv, hd⟩
theorem VEv.mono {h h' : PH} {v : Value} {x : EvD} (hv : VEv h v x) (hl : h.le h') : VEv h' v x := by
  obtain ⟨p, n, c, q, m, d, rfl, a1, a2, a3, a4, a5⟩ := hv
  exact ⟨p, n, c, q, m, d, rfl, a1, a2, a3, a4.mono hl, a5.mono hl⟩
def VBs (h : PH) (v : Value) (xs : List Int) : Prop := ∃ p n c, v = .slice p n c ∧ SlB h p n c xs
section
variable {X : Type} {enc : TypeId × Value → X} {W : World} {v : Value} {d : DataW X} {q : List MemPlace} {r : Reach} {b : Nat}
theorem rdok_span : RdOK enc Tryz.prog W rSpan 96 := fun cs hh => by
  obtain ⟨a, ha⟩ := rdok_seg (f := 0) (rdok_int (t := 21)) hh
  obtain ⟨e, he⟩ := rdok_seg (f := 1) (rdok_int (t := 21)) hh
  have := seg_pair ha he
  rw [seg_all (rd_len hh)] at this
  exact ⟨_, this⟩
theorem ok_bytes8 (hv : Value.okWide Tryz.prog W r b 29 v) (hh : DataW.Trod enc Tryz.prog W 0 (fun _ => true) true 29 v d q) : ∃ xs, VBs (whole W) v xs := by
  obtain ⟨p, n, c, rfl⟩ := ok_slice hv
  obtain ⟨xs, p', n', c', e, hs⟩ := rdok_slice (t := 29) (by decide) rfl (rdok_int (k := .u8)) [.slice p n c] (by simpa [Value.cells] using Rd.of hh)
  simp at e; obtain ⟨rfl, rfl, rfl⟩ := e
  exact ⟨xs, _, _, _, rfl, hs⟩
end
theorem VSs.mk {h : PH} {p : Option Addr} {n c : Nat} {xs : List Sp} (hs : SlS h p n c xs) : VSs h (.slice p n c) xs := ⟨p, n, c, rfl, hs⟩
end Go.Proofs.YtmpfeaoofkkhjaaGreat
