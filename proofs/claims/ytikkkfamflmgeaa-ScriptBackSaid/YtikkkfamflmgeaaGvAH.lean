/- Drawn orders in which the first private block may change; over the small logic of GvA to GvAG. -/
import Derived.Test.YtikkkfamflmgeaaGvAG
namespace Go.GV
open Go
section
variable {ρ : Option Nat} {P : Program} {C : Ctx} {N : Fr} {L : En} {H0 : List HE} {e : HE} {h : PH} {Q : Exit → Act → World → Prop}
theorem hd_planX {id : Nat} {l : List Oper} (T : List Row3) (B : List Nat) (pl : List PI) (hm : P.follows .mixedOrders = true) (hs : Region.noSelect l.toArray = true) (hT : tableOf l = T) (hp : planT T B [] pl 0 = true)
    (hn : Nat.beq (sizeN pl) l.length = true) (hx : Hd C N L (e :: H0) h (wpPn P l.toArray (Q .normal) B pl (SS C H0 h))) : Hd C N L (e :: H0) h (cw ρ P (Code.region id l.toArray true) Q) :=
  ⟨fun a _ ha hw => wp_planN hm hs (plan_eq B [] (fun i hi => by cases hi) pl _ 0 (Same.zero _) (by rw [hT]; exact hp)) hn (hx.all a _ ha hw.drawn)⟩
end
end Go.GV
