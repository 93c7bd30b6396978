/- Readable slices are shared slices, over the small logic of GvA to GvN. -/
import Derived.Test.YtikkkfamflmgeaaGvN
import Derived.ChangeArms
namespace Go.GV
open Go Go.RowKit Go.ChangeShapes Go.WideShapes

theorem flatten_get {sz : Nat} (hsz : 0 < sz) : ∀ {xs : List (List Value)}, (∀ x ∈ xs, x.length = sz) → ∀ (j : Nat) (v : Value), xs.flatten[j]? = some v → ∃ x, xs[j / sz]? = some x ∧ x[j % sz]? = some v
  | [], _, j, v, hv => by simp at hv
  | y :: ys, he, j, v, hv => by
    have hy := he y (by simp)
    rw [List.flatten_cons] at hv
    by_cases hj : j < sz
    · rw [List.getElem?_append_left (by omega)] at hv
      exact ⟨y, by rw [Nat.div_eq_of_lt hj]; rfl, by rw [Nat.mod_eq_of_lt hj]; exact hv⟩
    · rw [List.getElem?_append_right (by omega), hy] at hv
      obtain ⟨x, h1, h2⟩ := flatten_get hsz (fun z hz => he z (by simp [hz])) (j - sz) v hv
      refine ⟨x, ?_, ?_⟩
      · rw [Nat.div_eq_sub_div hsz (by omega)]; simpa using h1
      · rw [Nat.mod_eq_sub_mod (by omega)]; exact h2

section
variable {X : Type} {enc : TypeId × Value → X} {P : Program} {W : World}
theorem rd_slice {t e : TypeId} {sz : Nat} {g : Bool} [TSl P t e] [TI P e sz g] (hsz : 0 < sz) {cs : List Value} (hh : Rd enc P W t cs) : ∃ p n c xss, cs = [.slice p n c] ∧ Sl (whole W) sz p n c xss ∧ ∀ x ∈ xss, Rd enc P W e x := by
  obtain ⟨fuel, x, hf⟩ := hh
  have hce : P.cellsOf e = sz := by
    have := TI.sz (P := P) (t := e) (size := sz)
    simp [Program.cellsOf, this]
  rcases DataW.trod_slice (TSl.eq (P := P) (t := t)) hf with ⟨rfl, _⟩ | ⟨a, len, cap, elems, rest, m, _, rfl, _, _, hlc, hcm, hel, hall, _⟩
  · exact ⟨none, 0, 0, [], rfl, Sl.nil _ _, by simp⟩
  · rw [hce] at hall
    have hsome : ∀ i, i < len → ∃ y, W.cells? 0 (a.add (i * sz)) sz = some y ∧ Rd enc P W e y := by
      intro i hi
      have h1 := hall i hi
      rw [List.getElem?_eq_getElem (by omega)] at h1
      obtain ⟨y, h2, h3⟩ := Option.bind_eq_some_iff.1 h1
      exact ⟨y, h2, m, _, h3⟩
    let f : Nat → List Value := fun i => (W.cells? 0 (a.add (i * sz)) sz).getD []
    have hfi : ∀ i, i < len → W.cells? 0 (a.add (i * sz)) sz = some (f i) ∧ Rd enc P W e (f i) := by
      intro i hi
      obtain ⟨y, h1, h2⟩ := hsome i hi
      have : f i = y := by simp [f, h1]
      rw [this]; exact ⟨h1, h2⟩
    have hlen : ∀ i, i < len → (f i).length = sz := fun i hi => (World.cells?_some (hfi i hi).1).2.1
    refine ⟨some a, len, cap, (List.range len).map f, rfl, ⟨by simp, hlc, by simp [maxLen] at hcm; omega, ?_, ?_⟩, ?_⟩
    · intro y hy
      obtain ⟨i, hi, rfl⟩ := List.mem_map.1 hy
      exact hlen i (List.mem_range.1 hi)
    · intro hne
      have hpos : 0 < len := by
        rcases Nat.eq_zero_or_pos len with e0 | e0
        · subst e0; simp at hne
        · exact e0
      have hcell : ∀ i, i < len → ∀ r, r < sz → W.cell? ((a.add (i * sz)).add r) = (f i)[r]? := fun i hi r hr => (World.cells?_some (hfi i hi).1).2.2 r hr
      have h00 := hcell 0 hpos 0 hsz
      rw [List.getElem?_eq_getElem (by rw [hlen 0 hpos]; exact hsz)] at h00
      have hadd0 : (a.add (0 * sz)).add 0 = a := by simp [Addr.add]
      rw [hadd0] at h00
      obtain ⟨b, off, sp⟩ := a
      unfold World.cell? at h00
      split at h00
      · rename_i arr tt fr hb
        have hspn : sp = none := by
          cases sp with
          | none => rfl
          | some q => simp at h00
        subst hspn
        refine ⟨b, off, rfl, arr, tt, fr, hb, fun j v hv => ?_⟩
        obtain ⟨y, h1, h2⟩ := flatten_get hsz (by
          intro z hz
          obtain ⟨i, hi, rfl⟩ := List.mem_map.1 hz
          exact hlen i (List.mem_range.1 hi)) j v hv
        rw [List.getElem?_map] at h1
        have hlt : j / sz < len := by
          rcases Nat.lt_or_ge (j / sz) len with h9 | h9
          · exact h9
          · simp [List.getElem?_eq_none (show (List.range len).length ≤ j / sz by simpa using h9)] at h1
        simp [hlt] at h1
        have h3 := hcell (j / sz) hlt (j % sz) (Nat.mod_lt _ hsz)
        rw [h1, h2] at h3
        have : (((⟨b, off, none⟩ : Addr).add (j / sz * sz)).add (j % sz)) = ⟨b, off + j, none⟩ := by
          rw [addr_add, addr_add]
          congr 1
          have := Nat.div_add_mod j sz
          rw [Nat.mul_comm] at this
          omega
        rw [this] at h3
        simpa [World.cell?, hb] using h3
      · cases h00
    · intro y hy
      obtain ⟨i, hi, rfl⟩ := List.mem_map.1 hy
      exact (hfi i (List.mem_range.1 hi)).2
theorem ok_slice {t e : TypeId} [TSl P t e] {r : Reach} {b : Nat} {v : Value} (hv : Value.okWide P W r b t v) : ∃ p n c, v = .slice p n c := okWide_slice (TSl.eq (P := P) (t := t)) hv
/-- A slice of bytes that can be read. -/
theorem rd_bytes {t e : TypeId} [TSl P t e] [TI P e 1 false] [TInt P e .u8] {p : Option Addr} {n c : Nat} (hh : Rd enc P W t [.slice p n c]) : ∃ bs : List Int, Sl (whole W) 1 p n c (el8 bs) ∧ ∀ b ∈ bs, inR .u8 b := by
  obtain ⟨p', n', c', xss, e1, hs, hr⟩ := rd_slice (P := P) (t := t) (sz := 1) (by omega) hh
  simp at e1
  obtain ⟨rfl, rfl, rfl⟩ := e1
  have : ∀ yss : List (List Value), (∀ x ∈ yss, Rd enc P W e x) → ∃ bs : List Int, yss = el8 bs ∧ ∀ b ∈ bs, inR .u8 b := by
    intro yss
    induction yss with
    | nil => exact fun _ => ⟨[], rfl, by simp⟩
    | cons y ys ih =>
      intro hall
      obtain ⟨k, rfl, hk⟩ := rd_int (hall y (by simp))
      obtain ⟨bs, rfl, hb⟩ := ih fun z hz => hall z (by simp [hz])
      exact ⟨k :: bs, rfl, by simpa using ⟨hk, hb⟩⟩
  obtain ⟨bs, rfl, hb⟩ := this xss hr
  exact ⟨bs, hs, hb⟩
end
end Go.GV
