/- Rings in plain lists: places, how far it is, who stands beside a node. -/
import Derived.Test.YtddhljoglhfhdaaNr
import Derived.Test.YtddhljoglhfhdaaScore
namespace Go.Proofs.Ytddhljoglhfhdaa
open Go Go.GV
attribute [local irreducible] cw Go.GV.SpecM Go.GV.wpList Exit.then Exit.inBlock Go.GV.bodyPost wpPl wpPm wpPn TS rnd rPost YieldsB wpPT ptK
set_option maxRecDepth 10000
set_option linter.unusedVariables false
set_option linter.unusedSimpArgs false
structure RD where
  hs : Bool
  hp : Bool
  su : DD
  pr : DD
deriving DecidableEq
def RD.zero : RD := ⟨false, false, DD.zero, DD.zero⟩
def place (s : List Sp) (d : DD) : Int := keyF s d.filter * 256 + d.node
def far (a b : Int) : Int := (b - a) % 65536
theorem far_in (a b : Int) : inR .u16 (far a b) := by
  unfold far
  have h1 := Int.emod_nonneg (b - a) (show (65536 : Int) ≠ 0 by decide)
  have h2 := Int.emod_lt_of_pos (b - a) (show (0 : Int) < 65536 by decide)
  exact inR_u16 h1 (by omega)
theorem place_in {s : List Sp} {d : DD} (hr : right s = true) (hd : DdR d) (hf : rightF s d.filter = true) : inR .u16 (place s d) := by
  have h1 := keyF_bd hr hf
  have h2 := hd.node
  simp only [inR] at h2
  exact inR_u16 (by unfold place; omega) (by unfold place; omega)
/-- The first of those with the least. -/
def pick1 (f : DD → Int) (b d : DD) : DD := if f d < f b then d else b
def nearest (f : DD → Int) (l : List DD) : DD := l.foldl (pick1 f) (l.headD DD.zero)
def choose (s : List Sp) (self : DD) (ds : List DD) : RD :=
  if union self.node ds = [] then RD.zero else ⟨true, true, nearest (fun d => far (place s self) (place s d)) (union self.node ds), nearest (fun d => far (place s d) (place s self)) (union self.node ds)⟩
def listR (r : RD) : List DD :=
  if r.hs && r.hp then (if r.su.node < r.pr.node then [r.su, r.pr] else if r.pr.node < r.su.node then [r.pr, r.su] else if newer r.pr r.su then [r.pr] else [r.su])
  else if r.hs then [r.su] else if r.hp then [r.pr] else []
def dropR (r : RD) (n : Int) : RD := ⟨r.hs && (r.su.node != n), r.hp && (r.pr.node != n), if r.hs && (r.su.node != n) then r.su else DD.zero, if r.hp && (r.pr.node != n) then r.pr else DD.zero⟩
def olderR (r : RD) : RD := ⟨r.hs, r.hp, if r.hs then olderD r.su else DD.zero, if r.hp then olderD r.pr else DD.zero⟩
/-- What is not there is nothing. -/
def RD.clean (r : RD) : Prop := (r.hs = false → r.su = DD.zero) ∧ (r.hp = false → r.pr = DD.zero)
theorem pick1_mem {f : DD → Int} : ∀ {l : List DD} {b : DD}, l.foldl (pick1 f) b = b ∨ l.foldl (pick1 f) b ∈ l
  | [], _ => .inl rfl
  | d :: l, b => by
    rw [List.foldl_cons]
    rcases pick1_mem (f := f) (l := l) (b := pick1 f b d) with h | h
    · rw [h]; unfold pick1; split
      · right; simp
      · left; rfl
    · right; simp [h]
theorem nearest_mem {f : DD → Int} {l : List DD} (h : l ≠ []) : nearest f l ∈ l := by
  unfold nearest
  rcases pick1_mem (f := f) (l := l) (b := l.headD DD.zero) with e | e
  · rw [e]
    cases l with
    | nil => exact absurd rfl h
    | cons x l => simp
  · exact e
theorem pick1_le {f : DD → Int} : ∀ {l : List DD} {b : DD}, f (l.foldl (pick1 f) b) ≤ f b ∧ ∀ d ∈ l, f (l.foldl (pick1 f) b) ≤ f d
  | [], _ => ⟨Int.le_refl _, by simp⟩
  | d :: l, b => by
    rw [List.foldl_cons]
    obtain ⟨h1, h2⟩ := pick1_le (f := f) (l := l) (b := pick1 f b d)
    have h3 : f (pick1 f b d) ≤ f b ∧ f (pick1 f b d) ≤ f d := by
      unfold pick1; split <;> omega
    refine ⟨by omega, fun x hx => ?_⟩
    rcases List.mem_cons.1 hx with rfl | hx
    · omega
    · exact h2 x hx
theorem nearest_le {f : DD → Int} {l : List DD} {d : DD} (hd : d ∈ l) : f (nearest f l) ≤ f d := pick1_le.2 d hd
theorem union_mem {self : Int} {ds : List DD} (hd : ∀ x ∈ ds, DdR x) {x : DD} (hx : x ∈ union self ds) : x ∈ ds ∧ 0 < x.inc ∧ x.node ≠ self := unionR_mem (by rw [← union_eq hd]; exact hx)
theorem choose_clean (s : List Sp) (self : DD) (ds : List DD) : (choose s self ds).clean := by
  unfold choose
  split
  · exact ⟨fun _ => rfl, fun _ => rfl⟩
  · constructor <;> intro h <;> cases h
theorem choose_R {s : List Sp} {self : DD} {ds : List DD} (hd : ∀ x ∈ ds, DdR x) : DdR (choose s self ds).su ∧ DdR (choose s self ds).pr := by
  unfold choose
  split
  · exact ⟨zero_R, zero_R⟩
  · rename_i h
    exact ⟨hd _ (union_mem hd (nearest_mem h)).1, hd _ (union_mem hd (nearest_mem h)).1⟩
theorem dropR_clean (r : RD) (n : Int) : (dropR r n).clean := by
  unfold dropR
  constructor <;> intro h <;> simp only at h ⊢ <;> rw [h] <;> rfl
/-! ### A ring's cells -/
def VRg (h : PH) (v : Value) (r : RD) : Prop := ∃ p n c q m d, v = .agg #[.bool r.hs, .bool r.hp, .int .u8 r.su.node, .int .u16 r.su.inc, .int .u8 r.su.age, .slice p n c, .int .u8 r.pr.node, .int .u16 r.pr.inc, .int .u8 r.pr.age, .slice q m d] ∧
    DdR r.su ∧ SlS h p n c r.su.filter ∧ DdR r.pr ∧ SlS h q m d r.pr.filter
theorem VRg.mono {h h' : PH} {v : Value} {r : RD} (hv : VRg h v r) (hl : h.le h') : VRg h' v r := by
  obtain ⟨p, n, c, q, m, d, rfl, a1, a2, a3, a4⟩ := hv
  exact ⟨p, n, c, q, m, d, rfl, a1, a2.mono hl, a3, a4.mono hl⟩
theorem VRg.of {h : PH} {r : RD} {p q : Option Addr} {n c m d : Nat} (h1 : DdR r.su) (h2 : SlS h p n c r.su.filter) (h3 : DdR r.pr) (h4 : SlS h q m d r.pr.filter) :
    VRg h (.agg #[.bool r.hs, .bool r.hp, .int .u8 r.su.node, .int .u16 r.su.inc, .int .u8 r.su.age, .slice p n c, .int .u8 r.pr.node, .int .u16 r.pr.inc, .int .u8 r.pr.age, .slice q m d]) r := ⟨p, n, c, q, m, d, rfl, h1, h2, h3, h4⟩
theorem nearest_step {f : DD → Int} {l : List DD} {i : Nat} {y : DD} (hy : l[i]? = some y) (b : DD) : (l.take (i + 1)).foldl (pick1 f) b = pick1 f ((l.take i).foldl (pick1 f) b) y := by
  rw [take_step hy, List.foldl_append]; rfl
end Go.Proofs.Ytddhljoglhfhdaa
