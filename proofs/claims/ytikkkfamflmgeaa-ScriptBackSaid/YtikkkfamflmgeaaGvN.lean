/- Bytes of a constant string (marked, and handed out at once), over the small logic of GvA to GvM. -/
import Derived.Test.YtikkkfamflmgeaaGvM
namespace Go.GV
open Go

theorem Inv.turn1 {C : Ctx} {H : List HE} {h : PH} {w w' : World} {b : Nat} {o o' : Obj} (hw : Inv C ((fun l => l = [(b, o)]) :: H) h w) (ht : Turned w w' b o') : Inv C ((fun l => l = [(b, o')]) :: H) h w' := by
  obtain ⟨l, ⟨l1, l2, rfl, e, he⟩, hs, hc⟩ := hw
  have e' : l1 = [(b, o)] := e
  subst e'
  have hn := hs.sep b o (by simp)
  have hnd := hs.nodup
  simp only [List.cons_append, List.nil_append, List.map_cons, List.nodup_cons] at hnd
  have hne : ∀ k o2, (k, o2) ∈ l2 → k ≠ b := fun k o2 hm e3 => hnd.1 (List.mem_map.2 ⟨(k, o2), hm, e3⟩)
  have hown := hc.own b o (by simp)
  refine ⟨[(b, o')] ++ l2, ⟨[(b, o')], l2, rfl, rfl, he⟩, ⟨?_, ?_, ?_, ?_⟩, ⟨ht.os.trans hc.os, ht.tape.trans hc.tape, ht.output.trans hc.output, by rw [ht.size]; exact hc.size, ?_, hc.le, hc.fresh, ?_⟩⟩
  · simp only [List.cons_append, List.nil_append, List.map_cons, List.nodup_cons]; exact hnd
  · intro k o2 hm
    rw [List.cons_append, List.nil_append] at hm
    rcases List.mem_cons.1 hm with e3 | hm
    · simp at e3; rw [e3.1, e3.2]; exact ht.at_
    · rw [ht.other k (hne k o2 hm)]; exact hs.mem k o2 (by simp [hm])
  · intro k o2 e3
    have : k ≠ b := by rintro rfl; rw [hn] at e3; cases e3
    rw [ht.other k this]; exact hs.pub k o2 e3
  · intro k o2 hm
    rw [List.cons_append, List.nil_append] at hm
    rcases List.mem_cons.1 hm with e3 | hm
    · simp at e3; rw [e3.1]; exact hn
    · exact hs.sep k o2 (by simp [hm])
  · intro k hk hkb
    have : k ≠ b := by
      rintro rfl
      rcases hown with h1 | h1
      · omega
      · exact hkb h1
    rw [ht.other k this]; exact hc.old k hk hkb
  · intro k o2 hm
    rw [List.cons_append, List.nil_append] at hm
    rcases List.mem_cons.1 hm with e3 | hm
    · simp at e3; rw [e3.1]; exact hown
    · exact hc.own k o2 (by simp [hm])

theorem freeze_turned {w : World} {b : Nat} {arr : Array Value} {e : TypeId} {k : Nat} (hb : w.heap[b]? = some (.cells arr e (0, 0))) : Turned w (w.freeze ⟨b, k, none⟩ 1) b (.cells arr e (k, k + 1)) := by
  unfold World.freeze
  rw [if_neg (by decide)]
  refine ⟨rfl, rfl, rfl, by simp, ?_, fun j hj => ?_⟩
  · simp [Array.getElem?_modify, hb]
  · simp [Array.getElem?_modify, Ne.symm hj]
section
variable {ρ : Option Nat} {P : Program} {C : Ctx} {N : Fr} {L : En} {H H' : List HE} {h : PH} {dst : Option Tmp} {ty : TypeId} {pos : String} {after : Array Edge}
variable {ops : Array Oper} {rest : List Oper} {Q : Exit → Act → World → Prop}
theorem hd_bconst {d : Nat} {t e : TypeId} {x : Operand} [TSl P t e] [TInt P e .u8] {g n : Nat} {bs : List Int} {xs : List Value} (hx : Ev L x (.slice (some ⟨g, 0, none⟩) n n)) (hpk : Pick H (row (some ⟨g, 0, none⟩) n n e 1 xs) H') (hxs : xs = by8 bs) (hn : bs.length = n) (htop : n ≤ 9223372036854775807) (hN : Nat.blt d N.n = true)
    (next : ∀ h', h.le h' → Sl h' 1 (some ⟨g, 0, none⟩) n n (el8 bs) → Hd C N ((d, [], .slice (some ⟨g, 0, none⟩) n n) :: L) H' h' (wpList P ops Q rest)) :
    Hd C N L H h (wpList P ops Q (⟨some d, .convert t t x, ty, pos, after, none⟩ :: rest)) := by
  refine ⟨fun a w ha hw => ?_⟩
  have e1 := hx.eval ha
  have ht := TSl.eq (P := P) (t := t)
  have he := TInt.eq (P := P) (t := e)
  obtain ⟨b, sp, e2, h1, h2, h3, hbx⟩ := (hw.pick hpk).row_box (by simp)
  cases e2
  have hsp : sp = [] := by
    have := h3
    rw [List.length_append, h1] at this
    exact List.eq_nil_of_length_eq_zero (by omega)
  subst hsp
  have hgb := (HGet.here (b := g) (cs := xs ++ []) (t := e) (H := H')).block hbx
  have hsh : w.shape? g = some (e, (xs ++ []).toArray.size) := by
    unfold World.shape?
    rw [hgb]
  have htn := freeze_turned (k := (xs ++ []).toArray.size) hgb
  have hex : (execOp a.eval ⟨some d, .convert t t x, ty, pos, after, none⟩).run P w = .ok (.value (.slice (some ⟨g, 0, none⟩) n n)) (w.freeze ⟨g, (xs ++ []).toArray.size, none⟩ 1) := by
    simp [execOp, e1, convert, run_underlying ht, run_underlying he, markStringish, hsh]
  have hbx' : Inv C ((fun l => l = [(g, Obj.cells (xs ++ []).toArray e (0, 0))]) :: H') h w := hbx
  obtain ⟨hle, hi⟩ := Inv.publish1 (Inv.turn1 hbx' htn)
  simp only [wpList]
  rw [if_pos (by simp [Region.wanted])]
  unfold opw
  rw [hex]
  refine (next _ hle ⟨by simpa [el8] using hn, Nat.le_refl _, htop, fun y hy => ?_, fun _ => ⟨g, 0, rfl, _, _, _, by simp only [PH.add, if_true]; exact rfl, fun j v hv => ?_⟩⟩).all _ _ ?_ hi
  · simp only [el8, List.mem_map] at hy
    obtain ⟨_, _, rfl⟩ := hy
    rfl
  · rw [el8_flat, ← hxs] at hv
    simpa using hv
  · have := ha.put (g := []) (v := .slice (some ⟨g, 0, none⟩) n n) (d := d) (by simpa using hN)
    simpa [G, satB] using this
theorem is_vcall {d : Nat} {x : Operand} {xs : Array Operand} {at_ : Array TypeId} (hx : Hd C N L H h (wpList P ops Q (⟨some d, .call ⟨.value x, xs, at_⟩, ty, pos, after, none⟩ :: rest))) : Hd C N L H h (wpList P ops Q (⟨some d, .call ⟨.value x, xs, at_⟩, ty, pos, after, none⟩ :: rest)) := hx
theorem od_pickX {c x y : Operand} {v : Value} {b : Bool} {gd : Option (Nat × Bool)} (hc : Ev L c (.bool b)) (hb : b = true) (hx : Ev L x v) : OP P C ⟨dst, .pick c x y, ty, pos, after, gd⟩ L H h v := by
  subst hb; exact od_pickT hc hx
theorem od_pickY {c x y : Operand} {v : Value} {b : Bool} {gd : Option (Nat × Bool)} (hc : Ev L c (.bool b)) (hb : b = false) (hy : Ev L y v) : OP P C ⟨dst, .pick c x y, ty, pos, after, gd⟩ L H h v := by
  subst hb; exact od_pickF hc hy
/-- Cells that are bytes. -/
inductive C8 : List Value → List Int → Prop
  | nil : C8 [] []
  | cons {b : Int} {xs : List Value} {bs : List Int} (hh : C8 xs bs) : C8 (.int .u8 b :: xs) (b :: bs)
theorem C8.eq {xs : List Value} {bs : List Int} (hh : C8 xs bs) : xs = by8 bs := by
  induction hh with
  | nil => rfl
  | cons _ ih => rw [ih]; rfl
theorem el8_each (bs : List Int) : ∀ x ∈ el8 bs, x.length = 1 := by
  intro x hx
  simp only [el8, List.mem_map] at hx
  obtain ⟨_, _, rfl⟩ := hx
  rfl
theorem hd_pub8 {R : Act → World → Prop} {p : Option Addr} {n c : Nat} {e : TypeId} {xs : List Value} {bs : List Int} (hpk : Pick H (row p n c e 1 xs) H') (hc : C8 xs bs) (hlen : bs.length = n) (htop : n ≤ 9223372036854775807)
    (next : ∀ h', h.le h' → Sl h' 1 p n c (el8 bs) → Hd C N L H' h' R) : Hd C N L H h R :=
  hd_publish (el8 bs) hpk (by rw [el8_flat]; exact hc.eq) (by simpa [el8] using hlen) (el8_each bs) htop next
end
end Go.GV
