/- Schemas, values and events, in plain lists. -/
import Derived.Test.YtmpfeaoofkkhjaaGreatInst
namespace Go.Proofs.YtmpfeaoofkkhjaaGreat
open Go Go.GV
attribute [local irreducible] cw Go.GV.SpecM Go.GV.wpList Exit.then Exit.inBlock Go.GV.bodyPost wpPl wpPm wpPn TS rnd rPost YieldsB wpPT ptK
set_option linter.unusedVariables false
abbrev Sp := Int × Int
def rSpan : Rp Sp := rPair (rInt .i32) (rInt .i32)
theorem rSpan_ok {h : PH} {cs : List Value} {x : Sp} (hh : rSpan.ok h cs x) : cs = [.int .i32 x.1, .int .i32 x.2] ∧ inR .i32 x.1 ∧ inR .i32 x.2 := by
  obtain ⟨a, b, rfl, ⟨rfl, h1⟩, rfl, h2⟩ := hh
  exact ⟨rfl, h1, h2⟩
theorem rSpan_mk {h : PH} {a b : Int} (ha : inR .i32 a) (hb : inR .i32 b) : rSpan.ok h [.int .i32 a, .int .i32 b] (a, b) := ⟨[.int .i32 a], [.int .i32 b], rfl, ⟨rfl, ha⟩, rfl, hb⟩
abbrev SlS := SlR rSpan
abbrev SlV := SlR (rInt .i32)
abbrev SlB := SlR (rInt .u8)
theorem SlS_at {h : PH} {p : Option Addr} {n c : Nat} {xs : List Sp} (hs : SlS h p n c xs) {i : Nat} {x : Sp} (hx : xs[i]? = some x) : Pub h (pb p) (po p + i * 2) [.int .i32 x.1, .int .i32 x.2] ∧ (-2147483648 ≤ x.1 ∧ x.1 ≤ 2147483647) ∧ (-2147483648 ≤ x.2 ∧ x.2 ≤ 2147483647) ∧ p = some ⟨pb p, po p, none⟩ := by
  obtain ⟨cs, h1, h2, h3⟩ := hs.at hx
  obtain ⟨rfl, h4, h5⟩ := rSpan_ok h2
  exact ⟨h1, h4, h5, h3⟩
theorem get_of {α : Type} {xs : List α} {i n : Nat} (hl : xs.length = n) (hi : i < n) : ∃ x, xs[i]? = some x := ⟨_, List.getElem?_eq_getElem (by omega)⟩
theorem take_step {α : Type} {xs : List α} {i : Nat} {x : α} (hx : xs[i]? = some x) : xs.take (i + 1) = xs.take i ++ [x] := by
  have hl := (List.getElem?_eq_some_iff.1 hx).1
  rw [List.take_succ_eq_append_getElem hl, (List.getElem?_eq_some_iff.1 hx).2]
theorem all_step {α : Type} {xs : List α} {i : Nat} {x : α} {f : α → Bool} (hx : xs[i]? = some x) (h1 : (xs.take i).all f = true) (h2 : f x = true) : (xs.take (i + 1)).all f = true := by
  rw [take_step hx, List.all_append, h1]; simp [h2]
theorem all_end {α : Type} {xs : List α} {i : Nat} {f : α → Bool} (hl : xs.length ≤ i) (h1 : (xs.take i).all f = true) : xs.all f = true := by rwa [List.take_of_length_le hl] at h1
theorem all_not {α : Type} {xs : List α} {i : Nat} {x : α} {f : α → Bool} (hx : xs[i]? = some x) (h2 : f x = false) : xs.all f = false := by
  cases e : xs.all f with
  | false => rfl
  | true =>
    have := List.all_eq_true.1 e x (List.mem_of_getElem? hx)
    rw [h2] at this; cases this

def okS (x : Sp) : Bool := decide (x.1 ≤ x.2)
def right (s : List Sp) : Bool := decide (1 ≤ s.length) && decide (s.length ≤ 4) && s.all okS
def inS (x : Sp × Int) : Bool := decide (x.1.1 ≤ x.2) && decide (x.2 ≤ x.1.2)
def fits (s : List Sp) (vs : List Int) : Bool := decide (vs.length = s.length) && (s.zip vs).all inS
def clamp (v a b : Int) : Int := if (if v < a then a else v) > b then b else (if v < a then a else v)
def bringAt (s : List Sp) (vs : List Int) (j : Nat) : Int := clamp (vs.getD j 0) (s.getD j (0, 0)).1 (s.getD j (0, 0)).2
def bringN (s : List Sp) (vs : List Int) (i : Nat) : List Int := (List.range i).map (bringAt s vs)
def bring (s : List Sp) (vs : List Int) : List Int := bringN s vs s.length
/-- An event: its id's three numbers, its values, its data. -/
abbrev EvD := (Int × Int × Int) × List Int × List Int
def rID : Rp (Int × Int × Int) := rPair (rInt .u8) (rPair (rInt .u16) (rInt .u32))
def rEvent : Rp EvD := rPair rID (rPair (rSl (rInt .i32)) (rSl (rInt .u8)))
def evOk (s : List Sp) (e : EvD) : Bool := fits s e.2.1 && decide (e.2.2.length ≤ 64) && decide (e.1.1 < 12) && decide (1 ≤ e.1.2.1) && decide (1 ≤ e.1.2.2)
/-- A value that is an event. -/
def VEv (h : PH) (v : Value) (x : EvD) : Prop := ∃ p n c q m d, v = .agg #[.int .u8 x.1.1, .int .u16 x.1.2.1, .int .u32 x.1.2.2, .slice p n c, .slice q m d] ∧ inR .u8 x.1.1 ∧ inR .u16 x.1.2.1 ∧ inR .u32 x.1.2.2 ∧ SlV h p n c x.2.1 ∧ SlB h q m d x.2.2
theorem ret_bool {x y : Bool} (h : x = y) : ofVs [.bool x] = Value.bool y := by rw [h]; rfl
theorem ret_int {k : IntKind} {x y : Int} (h : x = y) : ofVs [.int k x] = Value.int k y := by rw [h]; rfl
def csS (x : Sp) : List Value := [.int .i32 x.1, .int .i32 x.2]
def vS (xs : List Sp) : List Value := (xs.map csS).flatten
theorem vS_snoc (xs : List Sp) (x : Sp) : vS (xs ++ [x]) = vS xs ++ [.int .i32 x.1, .int .i32 x.2] := by simp [vS, csS]
theorem vS_one (xs : List Sp) : (vS xs).all (·.oneCell') = true := by
  simp only [vS, List.all_eq_true, List.mem_flatten, List.mem_map]
  rintro v ⟨l, ⟨x, _, rfl⟩, hv⟩
  simp only [csS, List.mem_cons, List.not_mem_nil, or_false] at hv
  rcases hv with rfl | rfl <;> rfl
theorem SlS_in {h : PH} {p : Option Addr} {n c : Nat} {xs : List Sp} (hs : SlS h p n c xs) : ∀ x ∈ xs, inR .i32 x.1 ∧ inR .i32 x.2 := fun x hx => by
  obtain ⟨css, _, h2⟩ := hs
  obtain ⟨a, ha⟩ := h2.mem x hx
  exact (rSpan_ok ha).2
theorem SlS_src {H : List HE} {h : PH} {p : Option Addr} {n c : Nat} {xs : List Sp} (hs : SlS h p n c xs) : Src H h p n 2 (vS xs) := by
  obtain ⟨css, h1, h2⟩ := hs
  have : css = xs.map csS := All2.to_map (f := csS) (fun a b hab => (rSpan_ok hab).1) h2
  rw [this] at h1
  exact .sl h1
/-- A value that is a slice of spans, of numbers, of bytes. -/
def VSs (h : PH) (v : Value) (xs : List Sp) : Prop := ∃ p n c, v = .slice p n c ∧ SlS h p n c xs
def VVs (h : PH) (v : Value) (xs : List Int) : Prop := ∃ p n c, v = .slice p n c ∧ SlV h p n c xs
/-- Cells that are spans. -/
inductive C2 : List Value → List Sp → Prop
  | nil : C2 [] []
  | cons {a b : Int} {xs : List Value} {ys : List Sp} (hh : C2 xs ys) : C2 (.int .i32 a :: .int .i32 b :: xs) ((a, b) :: ys)
theorem C2.eq {xs : List Value} {ys : List Sp} (hh : C2 xs ys) : xs = vS ys := by
  induction hh with
  | nil => rfl
  | cons _ ih => rw [ih]; rfl
theorem C2.of (xs : List Sp) : C2 (vS xs) xs := by
  induction xs with
  | nil => exact .nil
  | cons x xs ih => exact .cons ih
theorem C2.snoc (xs : List Sp) (a b : Int) : C2 (vS xs ++ [.int .i32 a, .int .i32 b]) (xs ++ [(a, b)]) := by rw [← vS_snoc xs (a, b)]; exact C2.of _
end Go.Proofs.YtmpfeaoofkkhjaaGreat
