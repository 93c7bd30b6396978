/- What threads leave behind, by kinds that a walk fills in itself; over the small logic of GvA to GvAA. -/
import Derived.Test.YtikkkfamflmgeaaGvAA
namespace Go.GV
open Go
/-- Known values, nothing of its own. -/
def postD (L1 : En) : En → List HE → PH → Prop := fun L H _ => L = L1 ∧ H = []
/-- One new block. -/
def postA (L1 : Nat → En) (H1 : Nat → List HE) : En → List HE → PH → Prop := fun L H _ => ∃ b, L = L1 b ∧ H = H1 b
/-- Two new blocks. -/
def postB (L1 : Nat → Nat → En) (H1 : Nat → Nat → List HE) : En → List HE → PH → Prop := fun L H _ => ∃ b c, L = L1 b c ∧ H = H1 b c
/-- A shared slice, and what is known of it. -/
def postS (L1 : Option Addr → Nat → Nat → En) (Φ : PH → Option Addr → Nat → Nat → Prop) : En → List HE → PH → Prop := fun L H h => ∃ p n c, L = L1 p n c ∧ H = [] ∧ Φ h p n c
/-- A row of its own. -/
def postR (L1 : Option Addr → Nat → En) (H1 : Option Addr → Nat → List HE) : En → List HE → PH → Prop := fun L H _ => ∃ p c, L = L1 p c ∧ H = H1 p c
section
variable {P : Program} {C : Ctx} {N : Fr} {ops : Array Oper} {L0 L : En} {D : List Nat} {H : List HE} {h : PH}
theorem ts_doneA {b : Nat} {cs : List Value} {t : TypeId} {f : Nat → En} {g : Nat → List HE} (e1 : L = f b) (e2 : box b cs t :: H = g b) : TS P C N ops L0 D (postA f g) [] L (box b cs t :: H) h := ts_done ⟨b, e1, e2⟩
theorem ts_doneB {b c : Nat} {cs ds : List Value} {t u : TypeId} {f : Nat → Nat → En} {g : Nat → Nat → List HE} (e1 : L = f b c) (e2 : box b cs t :: box c ds u :: H = g b c) : TS P C N ops L0 D (postB f g) [] L (box b cs t :: box c ds u :: H) h := ts_done ⟨b, c, e1, e2⟩
theorem ts_doneR {p : Option Addr} {n c sz : Nat} {xs : List Value} {t : TypeId} {f : Option Addr → Nat → En} {g : Option Addr → Nat → List HE} (e1 : L = f p c) (e2 : row p n c t sz xs :: H = g p c) : TS P C N ops L0 D (postR f g) [] L (row p n c t sz xs :: H) h := ts_done ⟨p, c, e1, e2⟩
/-- A new row: its block is new. -/
theorem ts_doneN {b n c sz : Nat} {xs : List Value} {t : TypeId} {f : Nat → En} {g : Nat → List HE} (e1 : L = f b) (e2 : row (some ⟨b, 0, none⟩) n c t sz xs :: H = g b) : TS P C N ops L0 D (postA f g) [] L (row (some ⟨b, 0, none⟩) n c t sz xs :: H) h := ts_done ⟨b, e1, e2⟩
end
end Go.GV
