/- Guards that hold nothing, over the small logic of GvA to GvO. -/
import Derived.Test.YtikkkfamflmgeaaGvO
namespace Go.GV
open Go
section
variable {ρ : Option Nat} {P : Program} {C : Ctx} {N : Fr} {L : En} {H H' : List HE} {h : PH} {dst : Option Tmp} {ty : TypeId} {pos : String} {after : Array Edge} {gd : Option (Nat × Bool)}
variable {ops : Array Oper} {o : Oper} {rest : List Oper} {Q : Exit → Act → World → Prop}

theorem hd_gundef {d : Tmp} {op : Op} {gu : Nat × Bool} {s : Nat} {want : Bool} (hg : gslot ops (some gu) = some (s, want)) (hs : look L s = some ([], undef)) (hN : Nat.blt d N.n = true)
    (next : Hd C N ((d, [], undef) :: L) H h (wpList P ops Q rest)) : Hd C N L H h (wpList P ops Q (⟨some d, op, ty, pos, after, some gu⟩ :: rest)) := by
  refine ⟨fun a w ha hw => ?_⟩
  have hwa : Region.wanted ⟨some d, op, ty, pos, after, some gu⟩ (yielded ops a.tmps) = false := by
    obtain ⟨j, w'⟩ := gu
    simp only [gslot] at hg
    split at hg
    · rename_i oj hoj
      split at hg
      · rename_i d' hd
        simp only [Option.some.injEq, Prod.mk.injEq] at hg
        obtain ⟨rfl, rfl⟩ := hg
        have hat := ha.at_ _ _ _ hs
        simp only [Region.wanted, yielded, hoj, Option.bind_some, hd, hat]
        simp [G, satB, undef]
      · simp at hg
    · simp at hg
  simp only [wpList]
  rw [if_neg (by rw [hwa]; simp)]
  refine next.all _ _ ?_ hw
  have := ha.put (g := []) (v := undef) (d := d) (by simpa using hN)
  simpa [G, satB] using this
end
end Go.GV
