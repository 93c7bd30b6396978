/- Whom a node chooses by interest, in plain lists. -/
import Derived.Test.YtbdkokkmheobdaaDscP
import Derived.Test.YtbdkokkmheobdaaScoreP
import Derived.Test.YtbdkokkmheobdaaSrt
namespace Go.Proofs.Ytbdkokkmheobdaa
open Go Go.GV
attribute [local irreducible] cw Go.GV.SpecM Go.GV.wpList Exit.then Exit.inBlock Go.GV.bodyPost wpPl wpPm wpPn TS rnd rPost YieldsB wpPT ptK
set_option linter.unusedVariables false
set_option linter.unusedSimpArgs false
def betB (own : List Sp) (a b : DD) : Bool :=
  if ovl own a.filter ≠ ovl own b.filter then decide (ovl own b.filter < ovl own a.filter) else if a.age ≠ b.age then decide (a.age < b.age) else decide (a.node < b.node)
theorem bet_irr (own : List Sp) (a : DD) : betB own a a = false := by simp [betB]
theorem bet_asym {own : List Sp} {a b : DD} (h : betB own a b = true) : betB own b a = false := by
  unfold betB at *; grind
theorem bet_trans {own : List Sp} {a b c : DD} (h : betB own a b = true) (h2 : betB own b c = true) : betB own a c = true := by
  unfold betB at *; grind
theorem bet_total {own : List Sp} {a b : DD} (hn : a.node ≠ b.node) : betB own a b = !betB own b a := by
  unfold betB; grind
theorem bet_ovl {own : List Sp} {a b : DD} (h : betB own a b = true) : ovl own b.filter ≤ ovl own a.filter := by
  unfold betB at h; grind
theorem ovl_bet {own : List Sp} {a b : DD} (h : ovl own b.filter < ovl own a.filter) : betB own a b = true := by
  unfold betB; grind
def has (own : List Sp) (d : DD) : Bool := decide (0 < ovl own d.filter)
def aheadN (own : List Sp) (l : List DD) (x : DD) : Nat := (l.filter fun y => betB own y x).length
def chooseL (own : List Sp) (room : Int) (U : List DD) : List DD := U.filter fun x => has own x && decide ((aheadN own U x : Int) < room)
def chooseN (own : List Sp) (self room : Int) (ds : List DD) : List DD := chooseL own room (union self ds)
/-! ### What is compared when sorting -/
structure SC where
  d : DD
  q : Option Addr × Nat × Nat
  o : Int
instance : Inhabited SC := ⟨⟨DD.zero, (none, 0, 0), 0⟩⟩
instance : Inhabited DD := ⟨DD.zero⟩
def cmpI (a b : Int) : Int := if a < b then -1 else if b < a then 1 else 0
def orI (a b c : Int) : Int := if a ≠ 0 then a else if b ≠ 0 then b else c
def rankI (a : DD) (x : Int) (b : DD) (y : Int) : Int := orI (cmpI y x) (cmpI a.age b.age) (cmpI a.node b.node)
def rankS (a b : SC) : Int := rankI a.d a.o b.d b.o
theorem rank_lt {a b : DD} {x y : Int} : rankI a x b y < 0 ↔ (y < x ∨ (x = y ∧ (a.age < b.age ∨ (a.age = b.age ∧ a.node < b.node)))) := by
  unfold rankI orI cmpI; grind
theorem rank_bet {own : List Sp} {a b : DD} : decide (rankI a (ovl own a.filter) b (ovl own b.filter) < 0) = betB own a b := by
  rw [Bool.eq_iff_iff, decide_eq_true_eq, rank_lt]; unfold betB; grind
theorem rank_swo : Go.Sort.SWO (Go.Proofs.ltOf rankS) where
  irrefl x := by simp [Go.Proofs.ltOf, rankS, rank_lt]
  trans x y z h1 h2 := by simp only [Go.Proofs.ltOf, rankS, decide_eq_true_eq, rank_lt] at *; omega
  ntrans x y z h1 h2 := by simp only [Go.Proofs.ltOf, rankS, decide_eq_false_iff_not, rank_lt] at *; omega
structure QC where
  d : DD
  q : Option Addr × Nat × Nat
instance : Inhabited QC := ⟨⟨DD.zero, (none, 0, 0)⟩⟩
def nodeS (a b : QC) : Int := cmpI a.d.node b.d.node
theorem node_lt {a b : QC} : nodeS a b < 0 ↔ a.d.node < b.d.node := by unfold nodeS cmpI; grind
theorem node_swo : Go.Sort.SWO (Go.Proofs.ltOf nodeS) where
  irrefl x := by simp [Go.Proofs.ltOf, node_lt]
  trans x y z h1 h2 := by simp only [Go.Proofs.ltOf, decide_eq_true_eq, node_lt] at *; omega
  ntrans x y z h1 h2 := by simp only [Go.Proofs.ltOf, decide_eq_false_iff_not, node_lt] at *; omega
def encS (a : SC) : List Value := [.int .u8 a.d.node, .int .u16 a.d.inc, .int .u8 a.d.age, .slice a.q.1 a.q.2.1 a.q.2.2, .int .u32 a.o]
def encQ (a : QC) : List Value := [.int .u8 a.d.node, .int .u16 a.d.inc, .int .u8 a.d.age, .slice a.q.1 a.q.2.1 a.q.2.2]
/-! ### Lists -/
theorem sorted_pair {α : Type} [Inhabited α] {cf : α → α → Int} {l : List α} (h : Sorted cf l) : l.Pairwise fun a b => ¬ cf b a < 0 := by
  rw [List.pairwise_iff_getElem]
  intro i j hi hj hij
  have := h.le i j hij hj
  rwa [getElem!_pos l j hj, getElem!_pos l i hi] at this
theorem count_at {α : Type} {R : α → α → Bool} (hirr : ∀ a, R a a = false) (has : ∀ a b, R a b = true → R b a = false) : ∀ {l : List α} (_ : l.Pairwise fun a b => R a b = true) {i : Nat} {x : α}, l[i]? = some x → (l.filter fun y => R y x).length = i
  | [], _, i, x, hx => by simp at hx
  | a :: l, hp, 0, x, hx => by
    simp at hx; subst hx
    rw [List.pairwise_cons] at hp
    rw [List.filter_cons, if_neg (by simp [hirr]), List.length_eq_zero_iff, List.filter_eq_nil_iff]
    intro y hy
    simp [has _ _ (hp.1 y hy)]
  | a :: l, hp, i + 1, x, hx => by
    rw [List.getElem?_cons_succ] at hx
    rw [List.pairwise_cons] at hp
    rw [List.filter_cons, if_pos (hp.1 x (List.mem_of_getElem? hx)), List.length_cons, count_at hirr has hp.2 hx]
theorem rising_nodup {U : List DD} (h : U.Pairwise fun a b => a.node < b.node) : U.Nodup := h.imp fun hab => by rintro rfl; omega
theorem rising_inj {U : List DD} (h : U.Pairwise fun a b => a.node < b.node) {a b : DD} (ha : a ∈ U) (hb : b ∈ U) (he : a.node = b.node) : a = b := by
  obtain ⟨i, hi, rfl⟩ := List.getElem_of_mem ha
  obtain ⟨j, hj, rfl⟩ := List.getElem_of_mem hb
  rw [List.pairwise_iff_getElem] at h
  rcases Nat.lt_trichotomy i j with h1 | h1 | h1
  · have := h i j hi hj h1; omega
  · subst h1; rfl
  · have := h j i hj hi h1; omega
theorem ahead_has {own : List Sp} {U : List DD} {x : DD} (hx : has own x = true) : aheadN own (U.filter (has own)) x = aheadN own U x := by
  unfold aheadN
  rw [List.filter_filter]
  congr 1
  apply List.filter_congr
  intro y _
  cases h : betB own y x with
  | false => rfl
  | true =>
    have := bet_ovl h
    simp only [has, decide_eq_true_eq] at hx ⊢
    simp; omega
/-- What is sorted, cut, and sorted by nodes, is what the document chooses. -/
theorem choose_eq {own : List Sp} {room : Int} {U S C : List DD} (hU : U.Pairwise fun a b => a.node < b.node) (hp : S.Perm (U.filter (has own))) (hs : S.Pairwise fun a b => betB own b a = false)
    (hc : C.Perm (S.take room.toNat)) (hs2 : C.Pairwise fun a b => a.node ≤ b.node) : C = chooseL own room U := by
  have hFn : (U.filter (has own)).Nodup := (rising_nodup hU).filter _
  have hSn : S.Nodup := hp.symm.nodup hFn
  have hS : S.Pairwise fun a b => betB own a b = true := by
    rw [List.pairwise_iff_getElem] at hs ⊢
    intro i j hi hj hij
    have hne : S[i].node ≠ S[j].node := by
      intro e
      have h1 := (List.mem_filter.1 (hp.mem_iff.1 (List.getElem_mem hi))).1
      have h2 := (List.mem_filter.1 (hp.mem_iff.1 (List.getElem_mem hj))).1
      have := rising_inj hU h1 h2 e
      exact (List.pairwise_iff_getElem.1 hSn) i j hi hj hij this
    rw [bet_total hne, hs i j hi hj hij]; rfl
  have hah : ∀ i x, S[i]? = some x → aheadN own U x = i := by
    intro i x hx
    have hm := hp.mem_iff.1 (List.mem_of_getElem? hx)
    rw [← ahead_has (List.mem_filter.1 hm).2]
    unfold aheadN
    rw [← (hp.filter fun y => betB own y x).length_eq]
    exact count_at (R := fun a b => betB own a b) (bet_irr own) (fun a b => bet_asym) hS hx
  have hL : (chooseL own room U).Pairwise fun a b => a.node < b.node := hU.filter _
  have hperm : (S.take room.toNat).Perm (chooseL own room U) := by
    rw [List.perm_ext_iff_of_nodup (hSn.sublist (List.take_sublist _ _)) (rising_nodup hL)]
    intro x
    unfold chooseL
    rw [List.mem_filter, List.mem_take_iff_getElem]
    simp only [Bool.and_eq_true, decide_eq_true_eq]
    constructor
    · rintro ⟨i, hi, rfl⟩
      have hm := List.mem_filter.1 (hp.mem_iff.1 (List.getElem_mem (show i < S.length by omega)))
      exact ⟨hm.1, hm.2, by rw [hah i _ (List.getElem?_eq_getElem (by omega))]; omega⟩
    · rintro ⟨h1, h2, h3⟩
      have hm := hp.mem_iff.2 (List.mem_filter.2 ⟨h1, h2⟩)
      obtain ⟨i, hi, rfl⟩ := List.getElem_of_mem hm
      rw [hah i _ (List.getElem?_eq_getElem hi)] at h3
      exact ⟨i, by omega, rfl⟩
  refine List.Perm.eq_of_pairwise (le := fun a b => a.node ≤ b.node) ?_ hs2 (hL.imp fun h => Int.le_of_lt h) (hc.trans hperm)
  intro a b ha hb h1 h2
  have ha2 := (List.mem_filter.1 (hperm.mem_iff.1 (hc.mem_iff.1 ha))).1
  have hb2 := (List.mem_filter.1 hb).1
  exact rising_inj hU ha2 hb2 (by omega)
end Go.Proofs.Ytbdkokkmheobdaa
