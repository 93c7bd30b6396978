/- Results with some of the private blocks; over the small logic of GvA to GvT. -/
import Derived.Test.YtikkkfamflmgeaaGvT
namespace Go.GV
open Go
section
variable {ρ : Option Nat} {P : Program} {C : Ctx} {N : Fr} {L : En} {H : List HE} {h : PH}
theorem Inv.right {A B : List HE} {w : World} (hw : Inv C (A ++ B) h w) : Inv C B h w := by
  induction A with
  | nil => exact hw
  | cons e A ih => exact ih hw.drop1
theorem Inv.left {A B : List HE} {w : World} (hw : Inv C (A ++ B) h w) : Inv C A h w := (hw.perm List.perm_append_comm).right
theorem hd_resS {fn : Func} {n : Nat} {Post : Value → PH → List HE → Prop} {rs : List ResultVar} {vs : List Value} {e : Exit} {Hi Hf : List HE} (he : e = .ret ∨ e = .normal) (hr : fn.results = rs.toArray) (hv : Res P L H rs vs) (hs : Split H Hi Hf)
    (hp : Post (ofVs vs) h Hi) : Hd C ⟨n, []⟩ L H h (bodyPost P fn (PostR C Post) e) :=
  hd_res he hr hv fun _ hw => ⟨h, Hi, hp, (Inv.split hs hw).left⟩
/-- Keep some of the private blocks. -/
theorem hd_only {R : Act → World → Prop} {Hi Hf : List HE} (hs : Split H Hi Hf) (next : Hd C N L Hi h R) : Hd C N L H h R := ⟨fun a w ha hw => next.all a w ha (Inv.split hs hw).left⟩
theorem inv_only {Hi Hf : List HE} (hs : Split H Hi Hf) {w : World} (hw : Inv C H h w) : Inv C Hi h w := (Inv.split hs hw).left
end
end Go.GV
