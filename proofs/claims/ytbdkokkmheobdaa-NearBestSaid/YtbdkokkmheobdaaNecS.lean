/- Who is chosen: none that is left out is better; chosen again it is the same. -/
import Derived.Test.YtbdkokkmheobdaaNecM
namespace Go.Proofs.Ytbdkokkmheobdaa
open Go Go.GV
attribute [local irreducible] cw Go.GV.SpecM Go.GV.wpList Exit.then Exit.inBlock Go.GV.bodyPost wpPl wpPm wpPn TS rnd rPost YieldsB wpPT ptK
set_option linter.unusedVariables false
set_option linter.unusedSimpArgs false
theorem filter_lt {U : List DD} {p q : DD → Bool} (hpq : ∀ x, p x = true → q x = true) {d : DD} (hd : d ∈ U) (hq : q d = true) (hp : p d = false) : (U.filter p).length < (U.filter q).length := by
  have e : (U.filter q).filter p = U.filter p := by
    rw [List.filter_filter]
    apply List.filter_congr
    intro x _
    cases h : p x with
    | false => rfl
    | true => rw [hpq x h]; rfl
  rw [← e, List.length_filter_lt_length_iff_exists]
  exact ⟨d, List.mem_filter.2 ⟨hd, hq⟩, by simp [hp]⟩
theorem ahead_lt {own : List Sp} {U : List DD} {d x : DD} (hd : d ∈ U) (h : betB own d x = true) : aheadN own U d < aheadN own U x :=
  filter_lt (fun y hy => bet_trans hy h) hd h (bet_irr own d)
theorem out_full {own : List Sp} {U : List DD} {room : Int} {d : DD} (hU : U.Pairwise fun a b => a.node < b.node) (h0 : 0 ≤ room) (hd : d ∈ U) (hh : has own d = true) (hn : d ∉ chooseL own room U) : room ≤ (chooseL own room U).length ∧ ∀ x ∈ chooseL own room U, betB own d x = false := by
  have ha : room ≤ (aheadN own U d : Int) := by
    rcases Int.lt_or_le (aheadN own U d : Int) room with h | h
    · exact absurd (List.mem_filter.2 ⟨hd, by simp [hh, h]⟩) hn
    · exact h
  constructor
  · rw [choose_len hU]
    have h1 : aheadN own U d < (U.filter (has own)).length := by
      rw [← ahead_has hh]
      unfold aheadN
      rw [List.length_filter_lt_length_iff_exists]
      exact ⟨d, List.mem_filter.2 ⟨hd, hh⟩, by simp [bet_irr]⟩
    omega
  · intro x hx
    cases hb : betB own d x with
    | false => rfl
    | true =>
      have h1 := ahead_lt hd hb
      have h2 := (List.mem_filter.1 hx).2
      simp only [Bool.and_eq_true, decide_eq_true_eq] at h2
      omega
theorem rising_ext {A B : List DD} (hA : A.Pairwise fun a b => a.node < b.node) (hB : B.Pairwise fun a b => a.node < b.node) (h : ∀ x, x ∈ A ↔ x ∈ B) : A = B := by
  have hp : A.Perm B := by rw [List.perm_ext_iff_of_nodup (rising_nodup hA) (rising_nodup hB)]; exact h
  refine List.Perm.eq_of_pairwise (le := fun a b => a.node ≤ b.node) ?_ (hA.imp fun h => Int.le_of_lt h) (hB.imp fun h => Int.le_of_lt h) hp
  intro a b ha hb h1 h2
  exact rising_inj hA ha ((h b).2 hb) (by omega)
theorem union_self {self : Int} {G : List DD} (hd : ∀ x ∈ G, DdR x) (hv : viewB self G) : union self G = G := by
  refine rising_ext (union_rising hd) hv.2 fun x => ⟨fun hx => (union_mem hd hx).1, fun hx => ?_⟩
  obtain ⟨i, y, hy, hn, _⟩ := union_has hd hx (hv.1 x hx).1 (hv.1 x hx).2
  have hym := List.mem_of_getElem? hy
  have := rising_inj hv.2 (union_mem hd hym).1 hx hn
  rw [← this]; exact hym
theorem choose_again {own : List Sp} {self room : Int} {G U : List DD} (hd : ∀ x ∈ G, DdR x) (hv : viewB self G) (hG : G = chooseL own room U) (hU : U.Pairwise fun a b => a.node < b.node) : chooseN own self room G = G := by
  unfold chooseN
  rw [union_self hd hv]
  unfold chooseL
  rw [List.filter_eq_self]
  intro x hx
  have hx2 := hx
  rw [hG] at hx2
  have h2 := (List.mem_filter.1 hx2).2
  simp only [Bool.and_eq_true, decide_eq_true_eq] at h2 ⊢
  refine ⟨h2.1, ?_⟩
  have : aheadN own G x ≤ aheadN own U x := by
    unfold aheadN
    have hs : G.Sublist U := by rw [hG]; exact List.filter_sublist
    exact (hs.filter _).length_le
  omega
theorem choose_more {own : List Sp} {self room : Int} {G ds : List DD} (hd : ∀ x ∈ ds, DdR x) (hG : G = chooseL own room (union self ds)) : chooseN own self room (G ++ ds) = G := by
  have hGU : ∀ x ∈ G, x ∈ union self ds := fun x hx => by rw [hG] at hx; exact (List.mem_filter.1 hx).1
  have hd2 : ∀ x ∈ G ++ ds, DdR x := fun x hx => by
    rcases List.mem_append.1 hx with h | h
    · exact hd x (union_mem hd (hGU x h)).1
    · exact hd x h
  have hr := union_rising (self := self) hd
  have e : union self (G ++ ds) = union self ds := by
    rw [union_eq hd, union_eq hd2]
    unfold unionR
    congr 1
    apply List.map_congr_left
    intro n hn
    rw [List.foldl_append]
    rcases best_cand (self := self) (n := (n : Int)) (ds := G) (b := DD.zero) with h | ⟨h1, h2⟩
    · rw [h]
    · have hx := hGU _ h1
      have hx2 := hx
      rw [union_eq hd] at hx2
      obtain ⟨m, hm, he, hi⟩ := mem_unionR.1 hx2
      have e1 := best_node (self := self) (n := (m : Int)) (ds := ds) (b := DD.zero) (.inl rfl)
      rw [he] at e1
      have hmn : m = n := by
        rcases e1 with e1 | e1
        · exact absurd e1 h2.2.2
        · have := h2.1; omega
      subst hmn
      rw [he]
      refine best_stay (.inl h2.2.2) fun d hdm hc => ?_
      have := (best_all (b := DD.zero) d hdm hc).2
      rwa [he] at this
  unfold chooseN
  rw [e, ← hG]
end Go.Proofs.Ytbdkokkmheobdaa
