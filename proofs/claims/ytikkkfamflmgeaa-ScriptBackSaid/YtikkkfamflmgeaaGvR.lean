/- Private blocks of which only something is known; over the small logic of GvA to GvQ. -/
import Derived.Test.YtikkkfamflmgeaaGvQ
namespace Go.GV
open Go
theorem natC (i : Nat) : ((i : Nat) : Int) = (i : Int) := rfl
theorem natLit (n : Nat) : (@OfNat.ofNat Int n (@instOfNat n) : Int) = ((@OfNat.ofNat Nat n (instOfNatNat n) : Nat) : Int) := rfl
/-- A private block of some kind. -/
def hex {α : Type} (φ : α → Prop) (F : α → HE) : HE := fun l => ∃ a, φ a ∧ F a l
section
variable {ρ : Option Nat} {P : Program} {C : Ctx} {N : Fr} {L : En} {H H' : List HE} {h : PH} {R : Act → World → Prop}
theorem Inv.hex_out {α : Type} {φ : α → Prop} {F : α → HE} {w : World} (hw : Inv C (hex φ F :: H) h w) : ∃ a, φ a ∧ Inv C (F a :: H) h w := by
  obtain ⟨l, ⟨l1, l2, rfl, ⟨a, ha, hf⟩, he⟩, hs, hc⟩ := hw
  exact ⟨a, ha, _, ⟨l1, l2, rfl, hf, he⟩, hs, hc⟩
theorem Inv.hex_in {α : Type} {φ : α → Prop} {F : α → HE} {w : World} (a : α) (ha : φ a) (hw : Inv C (F a :: H) h w) : Inv C (hex φ F :: H) h w := by
  obtain ⟨l, ⟨l1, l2, rfl, hf, he⟩, hs, hc⟩ := hw
  exact ⟨_, ⟨l1, l2, rfl, ⟨a, ha, hf⟩, he⟩, hs, hc⟩
theorem hd_hex {α : Type} {φ : α → Prop} {F : α → HE} (hpk : Pick H (hex φ F) H') (next : ∀ a, φ a → Hd C N L (F a :: H') h R) : Hd C N L H h R :=
  ⟨fun a w ha hw => let ⟨x, hx, hw'⟩ := (hw.pick hpk).hex_out; (next x hx).all a w ha hw'⟩
theorem hd_inv {H2 : List HE} {h2 : PH} (hi : ∀ w, Inv C H h w → Inv C H2 h2 w) (next : Hd C N L H2 h2 R) : Hd C N L H h R := ⟨fun a w ha hw => next.all a w ha (hi w hw)⟩
theorem hd_rowlen {p : Option Addr} {n c : Nat} {e : TypeId} {sz : Nat} {xs : List Value} (hm : HMem H (row p n c e sz xs)) (next : xs.length = n * sz → n ≤ c → Hd C N L H h R) : Hd C N L H h R :=
  ⟨fun a w ha hw => by
    obtain ⟨l, he, hs, hc⟩ := hw
    obtain ⟨l1, h1, _⟩ := hm.ents he
    exact (next h1.1 h1.2.1).all a w ha ⟨l, he, hs, hc⟩⟩
theorem hd_sub {L' : En} (hs : Sub L L') (next : Hd C N L' H h R) : Hd C N L H h R := ⟨fun a w ha hw => next.all a w (hs.ok ha) hw⟩
end
end Go.GV
