/- Memory that is new may be written, though it was handed out: what is known of other blocks stays, and of this one its shape. -/
import Derived.Test.YtmpfeaoofkkhjaaGreatMgF
set_option linter.unusedVariables false
set_option linter.unusedSimpArgs false
namespace Go.GV
open Go
/-- A value of the same kind. -/
def vsim (v v' : Value) : Prop := v = v' ∨ ∃ k a b, v = .int k a ∧ v' = .int k b ∧ inR k b
theorem vsim.refl (v : Value) : vsim v v := .inl rfl
theorem vsim.trans {a b c : Value} (h1 : vsim a b) (h2 : vsim b c) : vsim a c := by
  rcases h1 with rfl | ⟨k, x, y, rfl, rfl, hy⟩
  · exact h2
  · rcases h2 with rfl | ⟨k', x', y', e, rfl, hy'⟩
    · exact .inr ⟨k, x, y, rfl, rfl, hy⟩
    · cases e; exact .inr ⟨k, x, y', rfl, rfl, hy'⟩
/-- Memory of the same shape. -/
def hsim (h h' : PH) : Prop := ∀ b arr t fr, h b = some (.cells arr t fr) → ∃ arr', h' b = some (.cells arr' t fr) ∧ ∀ (i : Nat) v, arr[i]? = some v → ∃ v', arr'[i]? = some v' ∧ vsim v v'
theorem hsim.refl (h : PH) : hsim h h := fun b arr t fr e => ⟨arr, e, fun i v ev => ⟨v, ev, .inl rfl⟩⟩
theorem hsim.trans {a b c : PH} (h1 : hsim a b) (h2 : hsim b c) : hsim a c := fun k arr t fr e => by
  obtain ⟨arr1, e1, f1⟩ := h1 k arr t fr e
  obtain ⟨arr2, e2, f2⟩ := h2 k arr1 t fr e1
  refine ⟨arr2, e2, fun i v ev => ?_⟩
  obtain ⟨v1, g1, s1⟩ := f1 i v ev
  obtain ⟨v2, g2, s2⟩ := f2 i v1 g1
  exact ⟨v2, g2, s1.trans s2⟩
theorem hsim.le {h h' : PH} (hl : h.le h') : hsim h h' := fun b arr t fr e => ⟨arr, hl b _ e, fun i v ev => ⟨v, ev, .inl rfl⟩⟩
theorem hsim.new {h0 h h' : PH} (hs : hsim h h') : hsim (PH.new h0 h) (PH.new h0 h') := fun b arr t fr e => by
  obtain ⟨e0, e1, a, t', e2⟩ := PH.new_some.1 e
  cases e2
  obtain ⟨arr', g1, g2⟩ := hs b arr t (0, 0) e1
  exact ⟨arr', PH.new_at e0 g1, g2⟩
theorem all2_sim {cs : List Value} : ∀ {f : Nat → Option Value}, (∀ j v, cs[j]? = some v → ∃ v', f j = some v' ∧ vsim v v') → ∃ cs', (∀ j v, cs'[j]? = some v → f j = some v) ∧ All2 vsim cs cs' := by
  induction cs with
  | nil => intro f _; exact ⟨[], by simp, trivial⟩
  | cons c cs ih =>
    intro f hf
    obtain ⟨v', h1, h2⟩ := hf 0 c rfl
    obtain ⟨cs', h3, h4⟩ := ih (f := fun j => f (j + 1)) (fun j v hj => hf (j + 1) v (by simpa using hj))
    refine ⟨v' :: cs', fun j v hj => ?_, h2, h4⟩
    cases j with
    | zero => simp at hj; subst hj; exact h1
    | succ j => exact h3 j v (by simpa using hj)
theorem Pub.sim {h h' : PH} {b off : Nat} {cs : List Value} (hp : Pub h b off cs) (hs : hsim h h') : ∃ cs', Pub h' b off cs' ∧ All2 vsim cs cs' := by
  obtain ⟨arr, t, fr, e, hc⟩ := hp
  obtain ⟨arr', e', hf⟩ := hs b arr t fr e
  obtain ⟨cs', h1, h2⟩ := all2_sim (cs := cs) (f := fun j => arr'[off + j]?) (fun j v hj => hf (off + j) v (hc j v hj))
  exact ⟨cs', ⟨arr', t, fr, e', h1⟩, h2⟩
theorem All2.split {α β : Type} {R : α → β → Prop} : ∀ {l1s bs : List α} {cs : List β}, All2 R (l1s ++ bs) cs → ∃ xs ys, cs = xs ++ ys ∧ All2 R l1s xs ∧ All2 R bs ys
  | [], bs, cs, h => ⟨[], cs, rfl, trivial, h⟩
  | a :: l1s, bs, [], h => h.elim
  | a :: l1s, bs, c :: cs, h => by
    obtain ⟨xs, ys, rfl, h1, h2⟩ := All2.split (l1s := l1s) h.2
    exact ⟨c :: xs, ys, rfl, ⟨h.1, h1⟩, h2⟩
theorem All2.chunk {R : Value → Value → Prop} : ∀ {xss : List (List Value)} {cs : List Value}, All2 R xss.flatten cs → ∃ yss, cs = yss.flatten ∧ All2 (All2 R) xss yss
  | [], cs, h => by cases cs with
    | nil => exact ⟨[], rfl, trivial⟩
    | cons c cs => exact h.elim
  | xs :: xss, cs, h => by
    obtain ⟨a, b, rfl, h1, h2⟩ := All2.split (l1s := xs) (bs := xss.flatten) h
    obtain ⟨yss, rfl, h3⟩ := All2.chunk h2
    exact ⟨a :: yss, rfl, h1, h3⟩
/-- What stands for something goes on standing for something. -/
def Rp.keeps {α : Type} (r : Rp α) : Prop := ∀ {h h' : PH} {cs cs' : List Value} {x : α}, hsim h h' → r.ok h cs x → All2 vsim cs cs' → ∃ x', r.ok h' cs' x'
theorem keeps_all {α : Type} {r : Rp α} (hr : r.keeps) {h h' : PH} (hs : hsim h h') : ∀ {css css' : List (List Value)} {xs : List α}, All2 (r.ok h) css xs → All2 (All2 vsim) css css' → ∃ xs', All2 (r.ok h') css' xs'
  | [], [], [], _, _ => ⟨[], trivial⟩
  | _ :: _, _ :: _, _ :: _, h1, h2 => by
    obtain ⟨x', hx⟩ := hr hs h1.1 h2.1
    obtain ⟨xs', hxs⟩ := keeps_all hr hs h1.2 h2.2
    exact ⟨x' :: xs', hx, hxs⟩
  | [], _ :: _, _, _, h2 => h2.elim
  | _ :: _, [], _, _, h2 => h2.elim
  | _ :: _, _ :: _, [], h1, _ => h1.elim
  | [], [], _ :: _, h1, _ => h1.elim
theorem SlR.sim {α : Type} {r : Rp α} (hr : r.keeps) {h h' : PH} {p : Option Addr} {n c : Nat} {xs : List α} (hs : SlR r h p n c xs) (hh : hsim h h') : ∃ xs', SlR r h' p n c xs' := by
  obtain ⟨css, h1, h2⟩ := hs
  by_cases hn : css = []
  · subst hn
    refine ⟨[], [], ⟨h1.len, h1.cap, h1.top, by simp, fun e => absurd rfl e⟩, trivial⟩
  · obtain ⟨b, off, rfl, hp⟩ := h1.cells hn
    obtain ⟨cs', hp', ha⟩ := hp.sim hh
    obtain ⟨css', rfl, hb⟩ := All2.chunk ha
    obtain ⟨xs', hx⟩ := keeps_all hr hh h2 hb
    refine ⟨xs', css', ⟨by rw [← hb.length, h1.len], h1.cap, h1.top, fun x hx2 => ?_, fun _ => ⟨b, off, rfl, hp'⟩⟩, hx⟩
    obtain ⟨a, ha2⟩ : ∃ a, r.ok h' x a := by
      have : ∀ {l1s : List (List Value)} {bs : List α}, All2 (r.ok h') l1s bs → ∀ x ∈ l1s, ∃ a, r.ok h' x a := by
        intro l1s
        induction l1s with
        | nil => intro bs _ x hx; cases hx
        | cons a l1s ih =>
          intro bs hh x hx
          cases bs with
          | nil => exact hh.elim
          | cons b bs =>
            rcases List.mem_cons.1 hx with rfl | hx
            · exact ⟨b, hh.1⟩
            · exact ih hh.2 x hx
      exact this hx x hx2
    exact r.len ha2
theorem all2_one {v : Value} {cs : List Value} (h : All2 vsim [v] cs) : ∃ v', cs = [v'] ∧ vsim v v' := by
  cases cs with
  | nil => exact h.elim
  | cons c cs => cases cs with
    | nil => exact ⟨c, rfl, h.1⟩
    | cons d cs => exact h.2.elim
theorem keeps_int (k : IntKind) : (rInt k).keeps := by
  rintro h h' cs cs' x hs ⟨rfl, hr⟩ ha
  obtain ⟨v', rfl, hv⟩ := all2_one ha
  rcases hv with rfl | ⟨k', a, b, e, rfl, hb⟩
  · exact ⟨x, rfl, hr⟩
  · cases e; exact ⟨b, rfl, hb⟩
theorem keeps_pair {α β : Type} {r : Rp α} {s : Rp β} (hr : r.keeps) (hs : s.keeps) : (rPair r s).keeps := by
  rintro h h' cs cs' x hh ⟨a, b, rfl, h1, h2⟩ ha
  obtain ⟨a', b', rfl, g1, g2⟩ := All2.split ha
  obtain ⟨x1, e1⟩ := hr hh h1 g1
  obtain ⟨x2, e2⟩ := hs hh h2 g2
  exact ⟨(x1, x2), a', b', rfl, e1, e2⟩
theorem keeps_sl {α : Type} {r : Rp α} (hr : r.keeps) : (rSl r).keeps := by
  rintro h h' cs cs' x hh ⟨p, n, c, rfl, h1⟩ ha
  obtain ⟨v', rfl, hv⟩ := all2_one ha
  rcases hv with rfl | ⟨k', a, b, e, rfl, hb⟩
  · obtain ⟨xs', hx⟩ := h1.sim hr hh
    exact ⟨xs', p, n, c, rfl, hx⟩
  · cases e
/-! ### The store -/
section
variable {ρ : Option Nat} {P : Program} {C : Ctx} {N : Fr} {L : En} {H H' : List HE} {h : PH} {ty : TypeId} {pos : String} {after : Array Edge}
variable {ops : Array Oper} {rest : List Oper} {Q : Exit → Act → World → Prop}
theorem Inv.storeJ {w : World} {b : Nat} {arr : Array Value} {t : TypeId} {off : Nat} {vs : List Value} (hb : h b = some (.cells arr t (0, 0))) (hC : C.h0 b = none) (hle : off + vs.length ≤ arr.size) (hone : vs.all (·.oneCell') = true) (hw : Inv C H h w) :
    ∃ w', (storeCells ⟨b, off, none⟩ vs 0).run P w = .ok () w' ∧ Inv C H (h.add b (.cells (spl arr.toList off vs).toArray t (0, 0))) w' := by
  obtain ⟨l, he, hs, hc⟩ := hw
  have hwb := hs.pub b _ hb
  obtain ⟨w', hr, ht⟩ := run_storeCells (P := P) b t off vs 0 arr.toList w (by simpa using hwb) (by simpa using hle) hone
  rw [Nat.add_zero] at ht
  have hne : ∀ k o, (k, o) ∈ l → k ≠ b := fun k o hk e => by subst e; rw [hs.sep k o hk] at hb; cases hb
  have hfr := hc.fresh b _ hb hC
  refine ⟨w', hr, l, he, ⟨hs.nodup, fun k o hk => by rw [ht.other k (hne k o hk)]; exact hs.mem k o hk, fun k o hk => ?_, fun k o hk => ?_⟩, ?_⟩
  · unfold PH.add at hk
    split at hk
    · rename_i e; subst e; cases hk; exact ht.at_
    · rename_i e; rw [ht.other k e]; exact hs.pub k o hk
  · unfold PH.add
    rw [if_neg (hne k o hk)]; exact hs.sep k o hk
  · refine ⟨ht.os.trans hc.os, ht.tape.trans hc.tape, by rw [ht.drawn]; exact hc.drawn, ht.output.trans hc.output, by rw [ht.size]; exact hc.size, fun k hk hkb => ?_, fun k o hk => ?_, fun k o hk hk0 => ?_, hc.own⟩
    · have hkne : k ≠ b := fun e => by subst e; rcases hfr with h1 | h1; · omega
                                       · exact hkb h1
      rw [ht.other k hkne]; exact hc.old k hk hkb
    · unfold PH.add
      split
      · rename_i e; subst e; rw [hC] at hk; cases hk
      · exact hc.le k o hk
    · unfold PH.add at hk
      split at hk
      · rename_i e; subst e; exact hfr
      · exact hc.fresh k o hk hk0
theorem spl_get {cs vs : List Value} {off i : Nat} (hle : off + vs.length ≤ cs.length) : (spl cs off vs)[i]? = if off ≤ i ∧ i < off + vs.length then vs[i - off]? else cs[i]? := by
  unfold spl
  have hl : (cs.take off).length = off := by rw [List.length_take]; omega
  by_cases h1 : i < off
  · rw [List.getElem?_append_left (by omega), List.getElem?_take, if_pos h1, if_neg (by omega)]
  · rw [List.getElem?_append_right (by omega), hl]
    by_cases h2 : i - off < vs.length
    · rw [List.getElem?_append_left h2, if_pos (by omega)]
    · rw [List.getElem?_append_right (by omega), List.getElem?_drop, if_neg (by omega)]
      congr 1; omega
/-- What a store into new memory does. -/
structure Jt (h0 h h' : PH) (b : Nat) : Prop where
  rest : (h.del b).le h'
  base : h0 b = none
  sim : hsim h h'
theorem Jt.le0 {h0 h h' : PH} {b : Nat} (hj : Jt h0 h h' b) (hl : h0.le h) : h0.le h' := fun k o e => hj.rest k o (by
  unfold PH.del
  have : k ≠ b := fun e' => by subst e'; rw [hj.base] at e; cases e
  rw [if_neg this]; exact hl k o e)
/-- A number of new memory is written. -/
theorem hd_storeJ {T : TypeId} {x y : Operand} {b off o j : Nat} {k : IntKind} {a a' : Int} {h0 : PH} {cs : List Value} [TI P T 1 false] (hx : Ev L x (.pointer (some ⟨b, off, none⟩))) (hy : Ev L y (.int k a')) (hp : Pub (PH.new h0 h) b o cs) (ho : o + j = off) (hcs : cs[j]? = some (.int k a)) (hr : inR k a') (hC : C.h0.le h0)
    (next : ∀ h', Jt h0 h h' b → Hd C N L H h' (wpList P ops Q rest)) : Hd C N L H h (wpList P ops Q (⟨none, .store T x y, ty, pos, after, none⟩ :: rest)) := by
  obtain ⟨arr, t, fr, e, hc⟩ := hp
  obtain ⟨e0, e1, a1, t1, e2⟩ := PH.new_some.1 e
  cases e2
  subst ho
  have hat := hc j _ hcs
  have hlt : o + j < arr.size := (Array.getElem?_eq_some_iff.1 hat).1
  refine ⟨fun ac w ha hw => ?_⟩
  have g1 := hx.eval ha
  have g2 := hy.eval ha
  have hsz := run_sz (TI.sz (P := P) (t := T)) w
  have hC0 : C.h0 b = none := by
    cases h2 : C.h0 b with
    | none => rfl
    | some q => rw [hC b q h2] at e0; cases e0
  obtain ⟨w', hst, hi⟩ := Inv.storeJ (P := P) (vs := [.int k a']) (off := o + j) e1 hC0 (by simp; omega) rfl hw
  simp only [wpList]
  rw [if_pos (by simp [Region.wanted])]
  have hrun : (execOp ac.eval ⟨none, .store T x y, ty, pos, after, none⟩).run P w = .ok .skip w' := by
    simp only [execOp, g1, g2, Instr.storeAt, Instr.sureAddr, storeVar, Sem.run_bind, Sem.run_pure, Result.andThen_ok, hsz, Value.cells]
    simp [hst]
  unfold opw
  rw [hrun]
  refine (next _ ⟨?_, e0, ?_⟩).all _ _ ha hi
  · intro q ob hq
    unfold PH.del at hq
    unfold PH.add
    split at hq
    · cases hq
    · rename_i hne; rw [if_neg hne]; exact hq
  · intro q arr2 t2 fr2 hq
    unfold PH.add
    split
    · rename_i hqb
      subst hqb
      rw [e1] at hq
      cases hq
      refine ⟨_, rfl, fun i v hv => ?_⟩
      have hlen : (o + j) + [Value.int k a'].length ≤ arr.toList.length := by simp; omega
      simp only [List.getElem?_toArray, spl_get hlen]
      split
      · rename_i hir
        have hi2 : i = o + j := by simp at hir; omega
        subst hi2
        rw [hat] at hv
        cases hv
        exact ⟨.int k a', by simp, .inr ⟨k, a, a', rfl, rfl, hr⟩⟩
      · exact ⟨v, by simpa using hv, .inl rfl⟩
    · exact ⟨arr2, hq, fun i v hv => ⟨v, hv, .inl rfl⟩⟩
end
end Go.GV

namespace Go.GV
open Go
/-- What 'h' has new since 'h0', of the blocks that 'h5' has. -/
def PH.mid (h0 h5 h : PH) : PH := fun b => match h5 b with | none => none | some _ => PH.new h0 h b
theorem PH.mid_some {h0 h5 h : PH} {b : Nat} {o : Obj} : PH.mid h0 h5 h b = some o ↔ (∃ x, h5 b = some x) ∧ PH.new h0 h b = some o := by
  unfold PH.mid
  cases e : h5 b with
  | none => simp
  | some x => simp
theorem PH.mid_le (h0 h5 h : PH) : (PH.mid h0 h5 h).le (PH.new h0 h) := fun b o e => (PH.mid_some.1 e).2
theorem PH.mid_of {h0 h5 h : PH} (hl : h5.le h) : (PH.new h0 h5).le (PH.mid h0 h5 h) := fun b o e => by
  obtain ⟨e0, e1, a, t, rfl⟩ := PH.new_some.1 e
  exact PH.mid_some.2 ⟨⟨_, e1⟩, PH.new_at e0 (hl b _ e1)⟩
theorem hsim.mid {h0 h5 h h' : PH} (hs : hsim h h') : hsim (PH.mid h0 h5 h) (PH.mid h0 h5 h') := fun b arr t fr e => by
  obtain ⟨e5, e1⟩ := PH.mid_some.1 e
  obtain ⟨arr', g1, g2⟩ := hsim.new (h0 := h0) hs b arr t fr e1
  exact ⟨arr', PH.mid_some.2 ⟨e5, g1⟩, g2⟩
theorem Jt.keep {h0 h h' A : PH} {b : Nat} {x : Obj} (hj : Jt h0 h h' b) (hA : A b = some x) : (PH.new A h).le (PH.new A h') := fun k o e => by
  obtain ⟨e0, e1, a, t, rfl⟩ := PH.new_some.1 e
  refine PH.new_at e0 (hj.rest k _ ?_)
  unfold PH.del
  rw [if_neg (fun e' => by subst e'; rw [hA] at e0; cases e0)]
  exact e1
theorem Jt.keepM {h0 h h' A B : PH} {b : Nat} (hj : Jt h0 h h' b) (hAB : (∃ x, A b = some x) ∨ B b = none) : (PH.mid A B h).le (PH.mid A B h') := fun k o e => by
  obtain ⟨⟨x, e5⟩, e1⟩ := PH.mid_some.1 e
  obtain ⟨e0, e2, a, t, rfl⟩ := PH.new_some.1 e1
  refine PH.mid_some.2 ⟨⟨x, e5⟩, PH.new_at e0 (hj.rest k _ ?_)⟩
  unfold PH.del
  have hne : k ≠ b := by
    rintro rfl
    rcases hAB with ⟨y, h1⟩ | h1
    · rw [h1] at e0; cases e0
    · rw [h1] at e5; cases e5
  rw [if_neg hne]
  exact e2
theorem Pub.has {h0 h5 h : PH} {b off : Nat} {cs : List Value} (hp : Pub (PH.mid h0 h5 h) b off cs) : ∃ x, h5 b = some x := by
  obtain ⟨arr, t, fr, e, _⟩ := hp
  exact (PH.mid_some.1 e).1
end Go.GV
namespace Go.Proofs.YtmpfeaoofkkhjaaGreat
open Go Go.GV
attribute [local irreducible] cw Go.GV.SpecM Go.GV.wpList Exit.then Exit.inBlock Go.GV.bodyPost wpPl wpPm wpPn TS rnd rPost YieldsB wpPT ptK
theorem keeps_span : rSpan.keeps := keeps_pair (keeps_int _) (keeps_int _)
theorem keeps_Ds : rDs.keeps := keeps_pair (keeps_int _) (keeps_pair (keeps_int _) (keeps_pair (keeps_int _) (keeps_sl keeps_span)))
theorem inR_wrap (k : IntKind) (n : Int) : inR k (k.wrap n) := by
  cases k <;> simp only [inR, IntKind.wrap, IntKind.bits, IntKind.signed] <;> simp <;> omega
theorem sl_top {α : Type} {r : Rp α} {h : PH} {p : Option Addr} {n c : Nat} {xs : List α} (hs : SlR r h p n c xs) : n ≤ 9223372036854775807 := by
  obtain ⟨css, h1, _⟩ := hs
  exact h1.top
theorem sl_get {α : Type} {r : Rp α} {h : PH} {p : Option Addr} {n c i : Nat} {xs : List α} (hs : SlR r h p n c xs) (hi : i < n) : ∃ x cs, Pub h (pb p) (po p + i * r.sz) cs ∧ r.ok h cs x ∧ p = some ⟨pb p, po p, none⟩ ∧ xs[i]? = some x := by
  have hl := hs.len
  obtain ⟨cs, h1, h2, h3⟩ := hs.at (List.getElem?_eq_getElem (show i < xs.length by omega))
  exact ⟨_, cs, h1, h2, h3, List.getElem?_eq_getElem _⟩
/-- The bytes are written over: what was parsed off them, and their copy, stay. -/
structure Mb (h h1 h2 hk : PH) (pb_ : Option Addr) (nb cb : Nat) (pw : Option Addr) (nw cw : Nat) (bs : List Int) (a : MsP) (m : MsD) : Prop where
  le : h.le hk
  b : ∃ ys, Bs (PH.mid h h1 hk) pb_ nb cb ys
  w : Bs (PH.mid h1 h2 hk) pw nw cw bs
  m : VMsP (PH.new h2 hk) a m
section
variable {h h1 h2 h5 hk h' : PH} {pb_ pw : Option Addr} {nb cb nw cw q : Nat} {bs : List Int} {a a2 : MsP} {m : MsD}
theorem Mb.jt (k : Mb h h1 h2 hk pb_ nb cb pw nw cw bs a m) (hl : h1.le h2) (hj : Jt h hk h' q) (hq : ∃ x, h1 q = some x) : Mb h h1 h2 h' pb_ nb cb pw nw cw bs a m := by
  obtain ⟨ys, hb⟩ := k.b
  obtain ⟨x, hq⟩ := hq
  exact ⟨hj.le0 k.le, hb.sim (keeps_int _) hj.sim.mid, k.w.mono (hj.keepM (.inl ⟨x, hq⟩)), k.m.mono (hj.keep (hl q x hq))⟩
/-- What was parsed is written over: what is parsed off the copy stays. -/
structure Mx (h h2 h5 hk : PH) (a a2 : MsP) (m : MsD) : Prop where
  le : h.le hk
  l : ∃ ys, SlD (PH.mid h2 h5 hk) a.pl a.nl a.cl ys
  d : ∃ ys, Bs (PH.mid h2 h5 hk) a.pd a.nd a.cd ys
  n : VMsP (PH.new h5 hk) a2 m
theorem Mx.jt (k : Mx h h2 h5 hk a a2 m) (h02 : h.le h2) (hj : Jt h2 hk h' q) (hq : ∃ x, h5 q = some x) : Mx h h2 h5 h' a a2 m := by
  obtain ⟨ys, hl⟩ := k.l
  obtain ⟨zs, hd⟩ := k.d
  obtain ⟨x, hq⟩ := hq
  refine ⟨fun b o e => hj.rest b o ?_, hl.sim keeps_Ds hj.sim.mid, hd.sim (keeps_int _) hj.sim.mid, k.n.mono (hj.keep hq)⟩
  unfold PH.del
  rw [if_neg (fun e' => by subst e'; have := h02 _ _ e; rw [hj.base] at this; cases this)]
  exact k.le b o e
end
end Go.Proofs.YtmpfeaoofkkhjaaGreat
