/- Ways that meet again: a cut between two parts of the code; a walk that stops at a place; over the small logic of GvA to GvY. -/
import Derived.Test.YtikkkfamflmgeaaGvY
namespace Go.GV
open Go
/-- A goal at which a walk stops. -/
structure Stop (p : Prop) : Prop where
  go : p
section
variable {ρ : Option Nat} {P : Program} {C : Ctx} {N : Fr} {L : En} {H : List HE} {h : PH} {Q : Exit → Act → World → Prop}
theorem hd_cut {x y : Code} {ι : Type} (I : ι → Prop) (LL : ι → En) (HH : ι → List HE) (hh : ι → PH)
    (hx : Hd C N L H h (cw ρ P x (Exit.then (fun a w => ∃ j, I j ∧ EnOK a N (LL j) ∧ Inv C (HH j) (hh j) w) Q)))
    (hy : ∀ j, I j → Hd C N (LL j) (HH j) (hh j) (cw ρ P y Q)) : Hd C N L H h (cw ρ P (Code.seq x y) Q) :=
  ⟨fun a w ha hw => cw_seq (cw_mono (hx.all a w ha hw) fun e a' w' he => by
    cases e with
    | normal =>
      obtain ⟨j, hI, h1, h2⟩ := he
      exact (hy j hI).all a' w' h1 h2
    | _ => exact he)⟩
theorem hd_leave {ι : Type} {I : ι → Prop} {LL : ι → En} {HH : ι → List HE} {hh : ι → PH} (j : ι) (hI : I j) (hL : Sub L (LL j)) (hH : ∀ w, Inv C H h w → Inv C (HH j) (hh j) w) :
    Hd C N L H h (fun a w => ∃ j, I j ∧ EnOK a N (LL j) ∧ Inv C (HH j) (hh j) w) :=
  ⟨fun _ w ha hw => ⟨j, hI, hL.ok ha, hH w hw⟩⟩
/-- Stops ahead of 'region id; c' and what follows. -/
theorem hd_stop2 {id : Nat} {ops : Array Oper} {dr : Bool} {c y : Code} (hx : Stop (Hd C N L H h (cw ρ P (Code.seq (Code.seq (Code.region id ops dr) c) y) Q))) : Hd C N L H h (cw ρ P (Code.seq (Code.seq (Code.region id ops dr) c) y) Q) := hx.go
/-- Stops ahead of a region that something follows. -/
theorem hd_stop1 {id : Nat} {ops : Array Oper} {dr : Bool} {y : Code} (hx : Stop (Hd C N L H h (cw ρ P (Code.seq (Code.region id ops dr) y) Q))) : Hd C N L H h (cw ρ P (Code.seq (Code.region id ops dr) y) Q) := hx.go
/-- Stops at a region. -/
theorem hd_stop0 {id : Nat} {ops : Array Oper} {dr : Bool} (hx : Stop (Hd C N L H h (cw ρ P (Code.region id ops dr) Q))) : Hd C N L H h (cw ρ P (Code.region id ops dr) Q) := hx.go
end
end Go.GV
