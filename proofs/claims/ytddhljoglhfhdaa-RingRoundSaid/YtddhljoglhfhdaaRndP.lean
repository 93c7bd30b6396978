/- Going round a ring: successors, one after the other, in plain lists. -/
import Derived.Test.YtddhljoglhfhdaaRngE
namespace Go.Proofs.Ytddhljoglhfhdaa
open Go Go.GV
attribute [local irreducible] cw Go.GV.SpecM Go.GV.wpList Exit.then Exit.inBlock Go.GV.bodyPost wpPl wpPm wpPn TS rnd rPost YieldsB wpPT ptK
set_option linter.unusedVariables false
set_option linter.unusedSimpArgs false
theorem newer_iff {a b : DD} : newer a b = true ↔ (b.inc < a.inc ∨ (a.inc = b.inc ∧ a.age < b.age)) := by
  unfold newer; grind
theorem newer_not {a b : DD} : newer a b = false ↔ ¬ (b.inc < a.inc ∨ (a.inc = b.inc ∧ a.age < b.age)) := by
  rw [← newer_iff]; cases newer a b <;> simp
theorem best_keep {self n : Int} : ∀ {ds : List DD} {b : DD}, b.inc ≠ 0 → (ds.foldl (best self n) b).inc ≠ 0
  | [], b, hb => hb
  | d :: ds, b, hb => by
    rw [List.foldl_cons]
    refine best_keep ?_
    unfold best
    split
    · rename_i hc
      simp only [Bool.and_eq_true, decide_eq_true_eq, Bool.not_eq_true', skip, Bool.or_eq_false_iff, decide_eq_false_iff_not, over, Bool.or_eq_true] at hc
      exact hc.1.2.2
    · exact hb
def cand (self n : Int) (d : DD) : Prop := d.node = n ∧ d.node ≠ self ∧ d.inc ≠ 0
theorem best_all {self n : Int} : ∀ {ds : List DD} {b : DD}, ∀ d ∈ ds, cand self n d → (ds.foldl (best self n) b).inc ≠ 0
  | e :: ds, b, d, hd, hc => by
    rw [List.foldl_cons]
    rcases List.mem_cons.1 hd with rfl | hd
    · refine best_keep ?_
      obtain ⟨c1, c2, c3⟩ := hc
      unfold best
      split
      · exact c3
      · rename_i hn
        cases ho : over d b with
        | false =>
          simp only [over, Bool.or_eq_false_iff, decide_eq_false_iff_not] at ho
          exact ho.1
        | true => exact absurd (by simp [c1, skip, c3, ho]; rw [← c1]; exact c2) hn
    · exact best_all d hd hc
theorem best_cand {self n : Int} : ∀ {ds : List DD} {b : DD}, ds.foldl (best self n) b = b ∨ (ds.foldl (best self n) b ∈ ds ∧ cand self n (ds.foldl (best self n) b))
  | [], _ => .inl rfl
  | d :: ds, b => by
    rw [List.foldl_cons]
    rcases best_cand (self := self) (n := n) (ds := ds) (b := best self n b d) with h | ⟨h1, h2⟩
    · rw [h]
      unfold best
      split
      · rename_i hc
        simp only [Bool.and_eq_true, decide_eq_true_eq, Bool.not_eq_true', skip, Bool.or_eq_false_iff, decide_eq_false_iff_not] at hc
        exact .inr ⟨by simp, hc.1.1, hc.1.2.1, hc.1.2.2⟩
      · exact .inl rfl
    · exact .inr ⟨by simp [h1], h2⟩
theorem rising_inj {U : List DD} (h : U.Pairwise fun a b => a.node < b.node) {a b : DD} (ha : a ∈ U) (hb : b ∈ U) (he : a.node = b.node) : a = b := by
  obtain ⟨i, hi, rfl⟩ := List.getElem_of_mem ha
  obtain ⟨j, hj, rfl⟩ := List.getElem_of_mem hb
  rw [List.pairwise_iff_getElem] at h
  rcases Nat.lt_trichotomy i j with h1 | h1 | h1
  · have := h i j hi hj h1; omega
  · subst h1; rfl
  · have := h j i hj hi h1; omega
/-- All that are known, without one of them. -/
theorem mem_without {U : List DD} (hU : U.Pairwise fun a b => a.node < b.node) (hd : ∀ x ∈ U, DdR x) (hv : ∀ x ∈ U, x.inc ≠ 0) (k : Int) (x : DD) : x ∈ union k U ↔ x ∈ U ∧ x.node ≠ k := by
  constructor
  · intro hx
    have := union_mem hd hx
    exact ⟨this.1, this.2.2⟩
  · rintro ⟨hx, hk⟩
    have hn := (hd x hx).node
    simp only [inR] at hn
    have hc : cand k ((x.node.toNat : Nat) : Int) x := ⟨by omega, hk, hv x hx⟩
    have b1 := best_all (b := DD.zero) x hx hc
    rcases best_cand (self := k) (n := ((x.node.toNat : Nat) : Int)) (ds := U) (b := DD.zero) with h | ⟨h3, h4⟩
    · rw [h] at b1; exact absurd rfl b1
    · have he : U.foldl (best k ((x.node.toNat : Nat) : Int)) DD.zero = x := rising_inj hU h3 hx (by rw [h4.1]; omega)
      have hi := (hd x hx).inc
      simp only [inR] at hi
      have := hv x hx
      rw [union_eq hd]
      exact mem_unionR.2 ⟨x.node.toNat, by omega, he, by omega⟩
theorem nearest_is {f : DD → Int} {l : List DD} {t : DD} (ht : t ∈ l) (h : ∀ d ∈ l, d ≠ t → f t < f d) : nearest f l = t := by
  have hne : l ≠ [] := fun e => by rw [e] at ht; cases ht
  have hm := nearest_mem (f := f) hne
  have hle := nearest_le (f := f) ht
  rcases Classical.em (nearest f l = t) with e | e
  · exact e
  · have := h _ hm e; omega
/-- Who may go round: rising, at least two, each with a place. -/
structure Rnd (s : List Sp) (U : List DD) : Prop where
  rise : U.Pairwise fun a b => a.node < b.node
  dd : ∀ x ∈ U, DdR x
  inc : ∀ x ∈ U, x.inc ≠ 0
  two : 2 ≤ U.length
  key : ∀ x ∈ U, 0 ≤ keyF s x.filter ∧ keyF s x.filter ≤ 255
def nx (s : List Sp) (U : List DD) (a : DD) : DD := nearest (fun d => far (place s a) (place s d)) (union a.node U)
def pv (s : List Sp) (U : List DD) (a : DD) : DD := nearest (fun d => far (place s d) (place s a)) (union a.node U)
section
variable {s : List Sp} {U : List DD} (h : Rnd s U)
include h
theorem Rnd.place {x : DD} (hx : x ∈ U) : 0 ≤ place s x ∧ place s x ≤ 65535 := by
  have h1 := h.key x hx
  have h2 := (h.dd x hx).node
  simp only [inR] at h2
  unfold Go.Proofs.Ytddhljoglhfhdaa.place; omega
theorem Rnd.inj {x y : DD} (hx : x ∈ U) (hy : y ∈ U) (he : Go.Proofs.Ytddhljoglhfhdaa.place s x = Go.Proofs.Ytddhljoglhfhdaa.place s y) : x = y := by
  refine rising_inj h.rise hx hy ?_
  have h1 := h.key x hx
  have h2 := (h.dd x hx).node
  have h3 := h.key y hy
  have h4 := (h.dd y hy).node
  simp only [inR] at h2 h4
  unfold Go.Proofs.Ytddhljoglhfhdaa.place at he; omega
theorem Rnd.mem {x : DD} (k : Int) : x ∈ union k U ↔ x ∈ U ∧ x.node ≠ k := mem_without h.rise h.dd h.inc k x
theorem Rnd.ne {a : DD} (ha : a ∈ U) : union a.node U ≠ [] := by
  intro e
  have h2 := h.two
  obtain ⟨i, hi, he⟩ := List.getElem_of_mem ha
  have key : ∀ j (hj : j < U.length), j ≠ i → False := fun j hj hji => by
    have : U[j] ∈ union a.node U := (h.mem a.node).2 ⟨List.getElem_mem hj, fun e2 => by
      have hr := h.rise
      rw [List.pairwise_iff_getElem] at hr
      rw [← he] at e2
      rcases Nat.lt_trichotomy i j with q | q | q
      · have := hr i j hi hj q; omega
      · exact hji q.symm
      · have := hr j i hj hi q; omega⟩
    rw [e] at this; cases this
  by_cases hi0 : i = 0
  · exact key 1 (by omega) (by omega)
  · exact key 0 (by omega) (by omega)
theorem Rnd.nx_mem {a : DD} (ha : a ∈ U) : nx s U a ∈ U ∧ (nx s U a).node ≠ a.node := (h.mem a.node).1 (nearest_mem (h.ne ha))
theorem Rnd.pv_mem {a : DD} (ha : a ∈ U) : pv s U a ∈ U ∧ (pv s U a).node ≠ a.node := (h.mem a.node).1 (nearest_mem (h.ne ha))
theorem Rnd.diff {a b : DD} (ha : a ∈ U) (hb : b ∈ U) (hn : a ≠ b) : Go.Proofs.Ytddhljoglhfhdaa.place s a ≠ Go.Proofs.Ytddhljoglhfhdaa.place s b := fun e => hn (h.inj ha hb e)
theorem Rnd.pv_nx {a : DD} (ha : a ∈ U) : pv s U (nx s U a) = a := by
  obtain ⟨h1, h2⟩ := h.nx_mem ha
  have hle := fun d (hd : d ∈ union a.node U) => nearest_le (f := fun d => far (Go.Proofs.Ytddhljoglhfhdaa.place s a) (Go.Proofs.Ytddhljoglhfhdaa.place s d)) hd
  unfold pv
  refine nearest_is ((h.mem _).2 ⟨ha, fun e => h2 e.symm⟩) fun d hd hda => ?_
  obtain ⟨d1, d2⟩ := (h.mem _).1 hd
  have hdn : d.node ≠ a.node := fun e => hda (rising_inj h.rise d1 ha e)
  have hl := hle d ((h.mem _).2 ⟨d1, hdn⟩)
  change far _ (Go.Proofs.Ytddhljoglhfhdaa.place s (nx s U a)) ≤ _ at hl
  have q1 := h.diff ha h1 (fun e => h2 (by rw [← e]))
  have q2 := h.diff d1 h1 (fun e => d2 (by rw [e]))
  have q3 := h.diff d1 ha hda
  have p1 := h.place ha
  have p2 := h.place h1
  have p3 := h.place d1
  unfold far at *
  omega
theorem Rnd.nx_pv {a : DD} (ha : a ∈ U) : nx s U (pv s U a) = a := by
  obtain ⟨h1, h2⟩ := h.pv_mem ha
  have hle := fun d (hd : d ∈ union a.node U) => nearest_le (f := fun d => far (Go.Proofs.Ytddhljoglhfhdaa.place s d) (Go.Proofs.Ytddhljoglhfhdaa.place s a)) hd
  unfold nx
  refine nearest_is ((h.mem _).2 ⟨ha, fun e => h2 e.symm⟩) fun d hd hda => ?_
  obtain ⟨d1, d2⟩ := (h.mem _).1 hd
  have hdn : d.node ≠ a.node := fun e => hda (rising_inj h.rise d1 ha e)
  have hl := hle d ((h.mem _).2 ⟨d1, hdn⟩)
  change far (Go.Proofs.Ytddhljoglhfhdaa.place s (pv s U a)) _ ≤ _ at hl
  have q1 := h.diff ha h1 (fun e => h2 (by rw [← e]))
  have q2 := h.diff d1 h1 (fun e => d2 (by rw [e]))
  have q3 := h.diff d1 ha hda
  have p1 := h.place ha
  have p2 := h.place h1
  have p3 := h.place d1
  unfold far at *
  omega
/-- All, in the order in which one meets them from the first one on. -/
theorem Rnd.order {a0 : DD} (ha : a0 ∈ U) : ∃ S : List DD, S.Perm U ∧ S[0]? = some a0 ∧ (∀ i x y, S[i]? = some x → S[i + 1]? = some y → nx s U x = y) ∧ (∀ x, S[U.length - 1]? = some x → nx s U x = a0) := by
  have hp := List.mergeSort_perm U (fun a b => decide (far (Go.Proofs.Ytddhljoglhfhdaa.place s a0) (Go.Proofs.Ytddhljoglhfhdaa.place s a) ≤ far (Go.Proofs.Ytddhljoglhfhdaa.place s a0) (Go.Proofs.Ytddhljoglhfhdaa.place s b)))
  have hs : (U.mergeSort (fun a b => decide (far (Go.Proofs.Ytddhljoglhfhdaa.place s a0) (Go.Proofs.Ytddhljoglhfhdaa.place s a) ≤ far (Go.Proofs.Ytddhljoglhfhdaa.place s a0) (Go.Proofs.Ytddhljoglhfhdaa.place s b)))).Pairwise fun a b => decide (far (Go.Proofs.Ytddhljoglhfhdaa.place s a0) (Go.Proofs.Ytddhljoglhfhdaa.place s a) ≤ far (Go.Proofs.Ytddhljoglhfhdaa.place s a0) (Go.Proofs.Ytddhljoglhfhdaa.place s b)) = true := by
    refine List.pairwise_mergeSort (fun a b c h1 h2 => ?_) (fun a b => ?_) _
    · simp only [decide_eq_true_eq] at *; omega
    · simp only [Bool.or_eq_true, decide_eq_true_eq]; omega
  generalize U.mergeSort (fun a b => decide (far (Go.Proofs.Ytddhljoglhfhdaa.place s a0) (Go.Proofs.Ytddhljoglhfhdaa.place s a) ≤ far (Go.Proofs.Ytddhljoglhfhdaa.place s a0) (Go.Proofs.Ytddhljoglhfhdaa.place s b))) = S at hp hs
  have hUn : U.Nodup := h.rise.imp fun hab => by rintro rfl; omega
  have hSn : S.Nodup := hp.symm.nodup hUn
  have hlen := hp.length_eq
  have htwo := h.two
  have hm : ∀ {i x}, S[i]? = some x → x ∈ U := fun hx => hp.mem_iff.1 (List.mem_of_getElem? hx)
  have hlt : ∀ {i j x y}, i < j → S[i]? = some x → S[j]? = some y → far (Go.Proofs.Ytddhljoglhfhdaa.place s a0) (Go.Proofs.Ytddhljoglhfhdaa.place s x) < far (Go.Proofs.Ytddhljoglhfhdaa.place s a0) (Go.Proofs.Ytddhljoglhfhdaa.place s y) ∧ x ≠ y := fun {i j x y} hij hx hy => by
    obtain ⟨hi, rfl⟩ := List.getElem?_eq_some_iff.1 hx
    obtain ⟨hj, rfl⟩ := List.getElem?_eq_some_iff.1 hy
    have h1 := (List.pairwise_iff_getElem.1 hs) i j hi hj hij
    have h2 := (List.pairwise_iff_getElem.1 hSn) i j hi hj hij
    have q := h.diff (hm hx) (hm hy) h2
    have p1 := h.place (hm hx)
    have p2 := h.place (hm hy)
    have p3 := h.place ha
    simp only [decide_eq_true_eq] at h1
    unfold far at *
    exact ⟨by omega, h2⟩
  have hat : ∀ d, d ∈ U → ∃ j, S[j]? = some d := fun d hd => by
    obtain ⟨j, hj, e⟩ := List.getElem_of_mem (hp.mem_iff.2 hd)
    exact ⟨j, by rw [List.getElem?_eq_getElem hj, e]⟩
  have hzero : S[0]? = some a0 := by
    obtain ⟨j, hj⟩ := hat a0 ha
    by_cases hj0 : j = 0
    · rw [← hj0]; exact hj
    · obtain ⟨x, hx⟩ : ∃ x, S[0]? = some x := ⟨_, List.getElem?_eq_getElem (show 0 < S.length by omega)⟩
      have := (hlt (by omega) hx hj).1
      have p1 := h.place (hm hx)
      have p3 := h.place ha
      unfold far at this
      omega
  refine ⟨S, hp, hzero, fun i x y hx hy => ?_, fun x hx => ?_⟩
  · have hxy := hlt (show i < i + 1 by omega) hx hy
    unfold nx
    refine nearest_is ((h.mem _).2 ⟨hm hy, fun e => hxy.2 (rising_inj h.rise (hm hx) (hm hy) e.symm)⟩) fun d hd hda => ?_
    obtain ⟨d1, d2⟩ := (h.mem _).1 hd
    obtain ⟨j, hj⟩ := hat d d1
    have p1 := h.place (hm hx)
    have p2 := h.place (hm hy)
    have p3 := h.place d1
    have p4 := h.place ha
    rcases Nat.lt_trichotomy j i with q | q | q
    · have := (hlt q hj hx).1
      unfold far at *; omega
    · subst q; rw [hx] at hj; simp at hj; exact absurd (by rw [hj]) d2
    · by_cases e : j = i + 1
      · subst e; rw [hy] at hj; simp at hj; exact absurd hj.symm hda
      · have := (hlt (show i + 1 < j by omega) hy hj).1
        unfold far at *; omega
  · unfold nx
    have hx0 := hlt (show 0 < U.length - 1 by omega) hzero hx
    refine nearest_is ((h.mem _).2 ⟨ha, fun e => hx0.2 (rising_inj h.rise ha (hm hx) e)⟩) fun d hd hda => ?_
    obtain ⟨d1, d2⟩ := (h.mem _).1 hd
    obtain ⟨j, hj⟩ := hat d d1
    have hjl := (List.getElem?_eq_some_iff.1 hj).1
    have p1 := h.place (hm hx)
    have p3 := h.place d1
    have p4 := h.place ha
    by_cases e : j = U.length - 1
    · subst e; rw [hx] at hj; simp at hj; exact absurd (by rw [hj]) d2
    · have q1 := (hlt (show j < U.length - 1 by omega) hj hx).1
      by_cases e0 : j = 0
      · subst e0; rw [hzero] at hj; simp at hj; exact absurd hj.symm hda
      · have q2 := (hlt (show 0 < j by omega) hzero hj).1
        unfold far at *; omega
theorem Rnd.choose {a : DD} (ha : a ∈ U) : choose s a U = ⟨true, true, nx s U a, pv s U a⟩ := by
  unfold Go.Proofs.Ytddhljoglhfhdaa.choose
  rw [if_neg (h.ne ha)]; rfl
end
end Go.Proofs.Ytddhljoglhfhdaa
