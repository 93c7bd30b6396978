/- What readable arguments are. -/
import Derived.Test.YtgbiipopciogeaaWireA
import Derived.Test.YtgbiipopciogeaaGvQ
namespace Go.Proofs.Ytgbiipopciogeaa
open Go Go.GV
attribute [local irreducible] Code.wp wpList Exit.then Exit.inBlock bodyPost wpPl wpPm
theorem own : ownKnob Try.prog.godebug = none := by kernel_rfl
theorem laidOut : laidOutB Try.prog = true := by kernel_rfl
theorem ok_bytes {X : Type} {enc : TypeId × Value → X} {W : World} {v : Value} {d : DataW X} {q : List MemPlace} {r : Reach} {b : Nat} (hv : Value.okWide Try.prog W r b 22 v) (hh : DataW.Trod enc Try.prog W 0 (fun _ => true) true 22 v d q) :
    ∃ p n c bs, v = .slice p n c ∧ Bs (whole W) p n c bs := by
  obtain ⟨p, n, c, rfl⟩ := ok_slice hv
  obtain ⟨bs, hs, hb⟩ := rd_bytes (t := 22) (by simpa [Value.cells] using Rd.of hh)
  exact ⟨p, n, c, bs, rfl, hs, hb⟩
end Go.Proofs.Ytgbiipopciogeaa
