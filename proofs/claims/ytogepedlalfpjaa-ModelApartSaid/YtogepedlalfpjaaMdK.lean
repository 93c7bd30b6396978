/- A service in new memory stays a service, whatever number of it is written. -/
import Derived.Test.YtogepedlalfpjaaMdA
import Derived.Test.YtogepedlalfpjaaMdJ
namespace Go.Proofs.Ytogepedlalfpjaa
open Go Go.GV
attribute [local irreducible] cw Go.GV.SpecM Go.GV.wpList Exit.then Exit.inBlock Go.GV.bodyPost wpPl wpPm wpPn TS rnd rPost YieldsB wpPT ptK
set_option linter.unusedVariables false
theorem keeps_span : rSpan.keeps := keeps_pair (keeps_int _) (keeps_int _)
theorem keeps_life : rLife.keeps := keeps_map (fun a => ⟨⟨a.1, a.2.1, a.2.2.1, a.2.2.2⟩, rfl⟩) (keeps_pair (keeps_int _) (keeps_pair keeps_bool (keeps_pair (keeps_sl keeps_span) (keeps_int _))))
theorem keeps_id : rID.keeps := keeps_pair (keeps_int _) (keeps_pair (keeps_int _) (keeps_int _))
theorem keeps_event : rEvent.keeps := keeps_pair keeps_id (keeps_pair (keeps_sl (keeps_int _)) (keeps_sl (keeps_int _)))
theorem keeps_given : rGiven.keeps := keeps_map (fun a => ⟨⟨a.1, a.2.1, a.2.2⟩, rfl⟩) (keeps_pair (keeps_int _) (keeps_pair (keeps_int _) keeps_id))
theorem inR_wrap (k : IntKind) (n : Int) : inR k (k.wrap n) := by
  cases k <;> simp only [inR, IntKind.wrap, IntKind.bits, IntKind.signed] <;> simp <;> omega
structure Kp (h3 hk : PH) (a : SvP) : Prop where
  le : h3.le hk
  ex : ∃ s, VSvP (PH.new h3 hk) a s
theorem Kp.jt {h3 hk h' : PH} {a : SvP} {b : Nat} (k : Kp h3 hk a) (hj : Jt h3 hk h' b) : Kp h3 h' a := by
  obtain ⟨s, hv⟩ := k.ex
  have hs := hsim.new (h0 := h3) hj.sim
  obtain ⟨l, h1⟩ := hv.lives.sim keeps_life hs
  obtain ⟨c, h2⟩ := hv.schema.sim keeps_span hs
  obtain ⟨e, h4⟩ := hv.events.sim keeps_event hs
  obtain ⟨g, h5⟩ := hv.given.sim keeps_given hs
  exact ⟨hj.le0 k.le, ⟨l, c, s.last, e, g⟩, h1, h2, hv.last, h4, h5⟩
/-- A part of an element, and what it points to. -/
structure Kc {α : Type} (r : Rp α) (h3 hk : PH) (b off : Nat) (p : Option Addr) (n c : Nat) : Prop where
  pub : Pub (PH.new h3 hk) b off [.slice p n c]
  ex : ∃ xs, SlR r (PH.new h3 hk) p n c xs
theorem Kc.jt {α : Type} {r : Rp α} (hr : r.keeps) {h3 hk h' : PH} {b off q : Nat} {p : Option Addr} {n c : Nat} (k : Kc r h3 hk b off p n c) (hj : Jt h3 hk h' q) : Kc r h3 h' b off p n c := by
  obtain ⟨k1, xs, k2⟩ := k
  have hs := hsim.new (h0 := h3) hj.sim
  obtain ⟨cs, h1, h2⟩ := k1.sim hs
  obtain ⟨v, rfl, hv⟩ := all2_one h2
  rcases hv with rfl | ⟨k', a, b', e, _⟩
  · exact ⟨h1, k2.sim hr hs⟩
  · cases e
theorem pub_cut {h : PH} {b off j : Nat} {cs : List Value} {v : Value} (hp : Pub h b off cs) (hv : cs[j]? = some v) : Pub h b (off + j) [v] := by
  obtain ⟨arr, t, fr, e, hc⟩ := hp
  refine ⟨arr, t, fr, e, fun i u hu => ?_⟩
  match i, hu with
  | 0, hu => simp at hu; subst hu; exact hc j _ hv
  | i + 1, hu => simp at hu
theorem sl_top {α : Type} {r : Rp α} {h : PH} {p : Option Addr} {n c : Nat} {xs : List α} (hs : SlR r h p n c xs) : n ≤ 9223372036854775807 := by
  obtain ⟨css, h1, _⟩ := hs
  exact h1.top
theorem sl_get {α : Type} {r : Rp α} {h : PH} {p : Option Addr} {n c i : Nat} {xs : List α} (hs : SlR r h p n c xs) (hi : i < n) : ∃ x cs, Pub h (pb p) (po p + i * r.sz) cs ∧ r.ok h cs x ∧ p = some ⟨pb p, po p, none⟩ ∧ xs[i]? = some x := by
  have hl := hs.len
  obtain ⟨cs, h1, h2, h3⟩ := hs.at (List.getElem?_eq_getElem (show i < xs.length by omega))
  exact ⟨_, cs, h1, h2, h3, List.getElem?_eq_getElem _⟩
end Go.Proofs.Ytogepedlalfpjaa
