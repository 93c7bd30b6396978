/- What is known of all nodes: the newest of each, in whichever order. -/
import Derived.Test.YtbdkokkmheobdaaNecD
import Derived.Test.YtbdkokkmheobdaaRngE
namespace Go.Proofs.Ytbdkokkmheobdaa
open Go Go.GV
attribute [local irreducible] cw Go.GV.SpecM Go.GV.wpList Exit.then Exit.inBlock Go.GV.bodyPost wpPl wpPm wpPn TS rnd rPost YieldsB wpPT ptK
set_option linter.unusedVariables false
set_option linter.unusedSimpArgs false
theorem newer_iff {a b : DD} : newer a b = true ↔ (b.inc < a.inc ∨ (a.inc = b.inc ∧ a.age < b.age)) := by
  unfold newer; grind
theorem newer_not {a b : DD} : newer a b = false ↔ ¬ (b.inc < a.inc ∨ (a.inc = b.inc ∧ a.age < b.age)) := by
  rw [← newer_iff]; cases newer a b <;> simp
theorem best_keep {self n : Int} : ∀ {ds : List DD} {b : DD}, b.inc ≠ 0 → (ds.foldl (best self n) b).inc ≠ 0 ∧ newer b (ds.foldl (best self n) b) = false
  | [], b, hb => ⟨hb, by rw [newer_not]; simp⟩
  | d :: ds, b, hb => by
    rw [List.foldl_cons]
    have h1 : (best self n b d).inc ≠ 0 ∧ newer b (best self n b d) = false := by
      unfold best
      split
      · rename_i hc
        simp only [Bool.and_eq_true, decide_eq_true_eq, Bool.not_eq_true', skip, Bool.or_eq_false_iff, decide_eq_false_iff_not, over, Bool.or_eq_true] at hc
        obtain ⟨⟨_, _, h3⟩, h4⟩ := hc
        refine ⟨h3, ?_⟩
        rcases h4 with h4 | h4
        · exact absurd h4 hb
        · rw [newer_iff] at h4; rw [newer_not]; omega
      · exact ⟨hb, by rw [newer_not]; simp⟩
    obtain ⟨h2, h3⟩ := best_keep (self := self) (n := n) (ds := ds) h1.1
    refine ⟨h2, ?_⟩
    have h4 := h1.2
    rw [newer_not] at h3 h4 ⊢
    omega
def cand (self n : Int) (d : DD) : Prop := d.node = n ∧ d.node ≠ self ∧ d.inc ≠ 0
theorem best_all {self n : Int} : ∀ {ds : List DD} {b : DD}, ∀ d ∈ ds, cand self n d → (ds.foldl (best self n) b).inc ≠ 0 ∧ newer d (ds.foldl (best self n) b) = false
  | e :: ds, b, d, hd, hc => by
    rw [List.foldl_cons]
    rcases List.mem_cons.1 hd with rfl | hd
    · have h1 : (best self n b d).inc ≠ 0 ∧ newer d (best self n b d) = false := by
        obtain ⟨c1, c2, c3⟩ := hc
        unfold best
        split
        · exact ⟨c3, by rw [newer_not]; simp⟩
        · rename_i hn
          have : over d b = false := by
            cases ho : over d b with
            | false => rfl
            | true => exact absurd (by simp [c1, skip, c3, ho]; rw [← c1]; exact c2) hn
          simp only [over, Bool.or_eq_false_iff, decide_eq_false_iff_not] at this
          exact ⟨this.1, this.2⟩
      obtain ⟨h2, h3⟩ := best_keep (self := self) (n := n) (ds := ds) h1.1
      refine ⟨h2, ?_⟩
      have h4 := h1.2
      rw [newer_not] at h3 h4 ⊢
      omega
    · exact best_all d hd hc
theorem best_cand {self n : Int} : ∀ {ds : List DD} {b : DD}, ds.foldl (best self n) b = b ∨ (ds.foldl (best self n) b ∈ ds ∧ cand self n (ds.foldl (best self n) b))
  | [], _ => .inl rfl
  | d :: ds, b => by
    rw [List.foldl_cons]
    rcases best_cand (self := self) (n := n) (ds := ds) (b := best self n b d) with h | ⟨h1, h2⟩
    · rw [h]
      unfold best
      split
      · rename_i hc
        simp only [Bool.and_eq_true, decide_eq_true_eq, Bool.not_eq_true', skip, Bool.or_eq_false_iff, decide_eq_false_iff_not] at hc
        exact .inr ⟨by simp, hc.1.1, hc.1.2.1, hc.1.2.2⟩
      · exact .inl rfl
    · exact .inr ⟨by simp [h1], h2⟩
theorem best_stay {self n : Int} : ∀ {ds : List DD} {r : DD}, r.inc ≠ 0 ∨ (∀ d ∈ ds, ¬ cand self n d) → (∀ d ∈ ds, cand self n d → newer d r = false) → ds.foldl (best self n) r = r
  | [], _, _, _ => rfl
  | d :: ds, r, h0, h => by
    rw [List.foldl_cons]
    have e : best self n r d = r := by
      unfold best
      rw [if_neg]
      intro hc
      simp only [Bool.and_eq_true, decide_eq_true_eq, Bool.not_eq_true', skip, Bool.or_eq_false_iff, decide_eq_false_iff_not, over, Bool.or_eq_true] at hc
      have hcd : cand self n d := ⟨hc.1.1, hc.1.2.1, hc.1.2.2⟩
      rcases h0 with h0 | h0
      · have := h d (by simp) hcd
        rcases hc.2 with h4 | h4
        · exact h0 h4
        · rw [this] at h4; cases h4
      · exact h0 d (by simp) hcd
    rw [e]
    exact best_stay (h0.imp id fun h1 x hx => h1 x (by simp [hx])) fun x hx => h x (by simp [hx])
/-- Each the newest: the same incarnation, the same age. -/
def like (a b : DD) : Prop := a.node = b.node ∧ a.inc = b.inc ∧ a.age = b.age
theorem best_same {self n : Int} {ds es : List DD} (h : ∀ d, d ∈ ds ↔ d ∈ es) : (ds.foldl (best self n) DD.zero).inc = (es.foldl (best self n) DD.zero).inc ∧ (0 < (ds.foldl (best self n) DD.zero).inc → like (ds.foldl (best self n) DD.zero) (es.foldl (best self n) DD.zero)) := by
  have key : ∀ {ds es : List DD}, (∀ d, d ∈ ds → d ∈ es) → (ds.foldl (best self n) DD.zero).inc ≠ 0 → (es.foldl (best self n) DD.zero).inc ≠ 0 ∧ newer (ds.foldl (best self n) DD.zero) (es.foldl (best self n) DD.zero) = false := by
    intro ds es hm h0
    rcases best_cand (self := self) (n := n) (ds := ds) (b := DD.zero) with h | ⟨h1, h2⟩
    · rw [h] at h0; exact absurd rfl h0
    · exact best_all _ (hm _ h1) h2
  by_cases h1 : (ds.foldl (best self n) DD.zero).inc = 0
  · have h2 : (es.foldl (best self n) DD.zero).inc = 0 := by
      rcases Classical.em ((es.foldl (best self n) DD.zero).inc = 0) with h2 | h2
      · exact h2
      · exact absurd h1 (key (fun d hd => (h d).2 hd) h2).1
    exact ⟨by rw [h1, h2], fun h3 => by omega⟩
  · obtain ⟨h2, h3⟩ := key (fun d hd => (h d).1 hd) h1
    obtain ⟨_, h4⟩ := key (fun d hd => (h d).2 hd) h2
    rw [newer_not] at h3 h4
    refine ⟨by omega, fun _ => ⟨?_, by omega, by omega⟩⟩
    have e1 := best_node (self := self) (n := n) (ds := ds) (b := DD.zero) (.inl rfl)
    have e2 := best_node (self := self) (n := n) (ds := es) (b := DD.zero) (.inl rfl)
    rcases e1 with e1 | e1
    · exact absurd e1 h1
    · rcases e2 with e2 | e2
      · exact absurd e2 h2
      · rw [e1.1, e2.1]
theorem like_lists {f g : Nat → DD} : ∀ {l : List Nat}, (∀ n ∈ l, (f n).inc = (g n).inc ∧ (0 < (f n).inc → like (f n) (g n))) → All2 like ((l.map f).filter fun d => decide (0 < d.inc)) ((l.map g).filter fun d => decide (0 < d.inc))
  | [], _ => trivial
  | n :: l, h => by
    obtain ⟨h1, h2⟩ := h n (by simp)
    have ih := like_lists (f := f) (g := g) (l := l) fun m hm => h m (by simp [hm])
    simp only [List.map_cons, List.filter_cons]
    by_cases hp : 0 < (f n).inc
    · rw [if_pos (by simpa using hp), if_pos (by rw [← h1]; simpa using hp)]
      exact ⟨h2 hp, ih⟩
    · rw [if_neg (by simpa using hp), if_neg (by rw [← h1]; simpa using hp)]
      exact ih
theorem union_like {self : Int} {ds es : List DD} (hd : ∀ x ∈ ds, DdR x) (he : ∀ x ∈ es, DdR x) (h : ∀ d, d ∈ ds ↔ d ∈ es) : All2 like (union self ds) (union self es) := by
  rw [union_eq hd, union_eq he]
  exact like_lists fun n _ => best_same h
/-- What is put behind, and was known, changes nothing. -/
theorem union_again {self : Int} {ds es : List DD} (hd : ∀ x ∈ ds, DdR x) (h : ∀ d ∈ es, d ∈ ds) : union self (ds ++ es) = union self ds := by
  have hd2 : ∀ x ∈ ds ++ es, DdR x := fun x hx => by
    rcases List.mem_append.1 hx with hx | hx
    · exact hd x hx
    · exact hd x (h x hx)
  rw [union_eq hd, union_eq hd2]
  unfold unionR
  congr 1
  apply List.map_congr_left
  intro n _
  rw [List.foldl_append]
  refine best_stay ?_ fun d hm hc => (best_all d (h d hm) hc).2
  rcases Classical.em (∃ d ∈ es, cand self n d) with ⟨d, hm, hc⟩ | hn
  · exact .inl (best_all d (h d hm) hc).1
  · exact .inr fun d hm hc => hn ⟨d, hm, hc⟩
theorem union_view {self : Int} {ds : List DD} (hd : ∀ x ∈ ds, DdR x) : viewB self (union self ds) :=
  ⟨fun x hx => by have := union_mem hd hx; exact ⟨this.2.2, by omega⟩, union_rising hd⟩
theorem union_room {self : Int} {ds : List DD} (hd : ∀ x ∈ ds, DdR x) (hs : inR .u8 self) : (union self ds).length ≤ 255 := by
  simp only [inR] at hs
  rw [union_eq hd]
  unfold unionR
  have h : (((List.range 256).map fun n => ds.foldl (best self (n : Nat)) DD.zero).filter fun d => decide (0 < d.inc)).length < ((List.range 256).map fun n => ds.foldl (best self (n : Nat)) DD.zero).length := by
    rw [List.length_filter_lt_length_iff_exists]
    refine ⟨_, List.mem_map.2 ⟨self.toNat, List.mem_range.2 (by omega), rfl⟩, ?_⟩
    have e := best_node (self := self) (n := ((self.toNat : Nat) : Int)) (ds := ds) (b := DD.zero) (.inl rfl)
    rcases e with e | e
    · intro hh; have := of_decide_eq_true hh; omega
    · exfalso; have := e.1; have := e.2; omega
  rw [List.length_map, List.length_range] at h
  omega
theorem union_has {self : Int} {ds : List DD} (hd : ∀ x ∈ ds, DdR x) {d : DD} (hm : d ∈ ds) (h1 : d.node ≠ self) (h2 : d.inc ≠ 0) : ∃ (i : Nat) (x : DD), (union self ds)[i]? = some x ∧ x.node = d.node ∧ newer d x = false := by
  have hdr := hd d hm
  have hn := hdr.node
  simp only [inR] at hn
  have hc : cand self ((d.node.toNat : Nat) : Int) d := ⟨by omega, h1, h2⟩
  obtain ⟨b1, b2⟩ := best_all (b := DD.zero) d hm hc
  rcases best_cand (self := self) (n := ((d.node.toNat : Nat) : Int)) (ds := ds) (b := DD.zero) with h | ⟨h3, h4⟩
  · rw [h] at b1; exact absurd rfl b1
  · have hx := (hd _ h3).inc
    simp only [inR] at hx
    have hmem : ds.foldl (best self ((d.node.toNat : Nat) : Int)) DD.zero ∈ union self ds := by
      rw [union_eq hd]
      exact mem_unionR.2 ⟨d.node.toNat, by omega, rfl, by omega⟩
    obtain ⟨i, hi, he⟩ := List.getElem_of_mem hmem
    exact ⟨i, _, by rw [List.getElem?_eq_getElem hi, he], by rw [h4.1]; omega, b2⟩
end Go.Proofs.Ytbdkokkmheobdaa
