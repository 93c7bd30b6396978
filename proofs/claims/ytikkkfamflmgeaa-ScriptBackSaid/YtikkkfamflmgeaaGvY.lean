/- A row of the call's own, lent to an operation that only reads it; over the small logic of GvA to GvX. -/
import Derived.Test.YtikkkfamflmgeaaGvX
namespace Go.GV
open Go
section
variable {ρ : Option Nat} {P : Program} {C : Ctx} {N : Fr} {L : En} {H H' : List HE} {h : PH} {o : Oper} {v : Value}
theorem Inv.unpublish1 {w : World} {b : Nat} {ob : Obj} (hb : h b = none) (h0 : C.h0.le h) (hw : Inv C H (h.add b ob) w) : Inv C ((fun l => l = [(b, ob)]) :: H) h w := by
  obtain ⟨l, he, hs, hc⟩ := hw
  have hat : (h.add b ob) b = some ob := by simp [PH.add]
  have hle : h.le (h.add b ob) := fun k o' e9 => by
    unfold PH.add
    split
    · rename_i ek; subst ek; rw [hb] at e9; cases e9
    · exact e9
  have hnot : ∀ o', (b, o') ∉ l := fun o' hm => by
    have := hs.sep b o' hm
    rw [hat] at this; cases this
  have hC : C.h0 b = none := by
    cases e : C.h0 b with
    | none => rfl
    | some o' => have := h0 b o' e; rw [hb] at this; cases this
  refine ⟨(b, ob) :: l, ⟨[(b, ob)], l, rfl, rfl, he⟩, ⟨?_, ?_, fun k o' e => hs.pub k o' (hle k o' e), ?_⟩, ⟨hc.os, hc.tape, hc.output, hc.size, hc.old, h0, fun k o' e e0 => hc.fresh k o' (hle k o' e) e0, ?_⟩⟩
  · simp only [List.map_cons, List.nodup_cons]
    refine ⟨fun hm => ?_, hs.nodup⟩
    obtain ⟨⟨k, o'⟩, hm2, e⟩ := List.mem_map.1 hm
    simp at e; subst e
    exact hnot o' hm2
  · intro k o' hm
    rcases List.mem_cons.1 hm with e | hm
    · simp at e; rw [e.1, e.2]; exact hs.pub b ob hat
    · exact hs.mem k o' hm
  · intro k o' hm
    rcases List.mem_cons.1 hm with e | hm
    · simp at e; rw [e.1]; exact hb
    · have := hs.sep k o' hm
      cases e : h k with
      | none => rfl
      | some o2 => have h2 := hle k o2 e; rw [this] at h2; cases h2
  · intro k o' hm
    rcases List.mem_cons.1 hm with e | hm
    · simp at e; rw [e.1]; exact hc.fresh b ob hat hC
    · exact hc.own k o' hm
theorem quietAt_mono {A B : World → Prop} (hab : ∀ w, A w → B w) {a : Act} {w : World} (hq : o.quietAt P a A w v) : o.quietAt P a B w v := by
  unfold Oper.quietAt at *
  generalize (execOp a.eval o).run P w = r at *
  cases r with
  | ok nx w' =>
    cases nx <;> simp only [Oper.quietUpon] at hq ⊢
    case value u => exact hq
    case skip => exact hq
    case enter f args => exact ⟨hq.1, Calls.mono hq.2 fun e w'' he => by cases e <;> first | exact ⟨he.1, hab _ he.2⟩ | exact he⟩
  | halt x w' => cases x <;> simp only [Oper.quietUpon] at hq
theorem od_lend {α : Type} {r : Rp α} {p : Option Addr} {n c : Nat} {e : TypeId} {ys : List Value} (css : List (List Value)) (xs : List α) (hpk : Pick H (row p n c e r.sz ys) H') (hys : ys = css.flatten) (hok : All2 (r.ok h) css xs) (hlen : xs.length = n) (htop : n ≤ 9223372036854775807)
    (hv : ∀ h', h.le h' → SlR r h' p n c xs → OD P C o L H' h' v) : OD P C o L H h v := by
  refine ⟨fun a ha w hw => ?_⟩
  have hw1 := hw.pick hpk
  have h0 := hw.le0
  rw [hys] at hw1
  have heach : ∀ x ∈ css, x.length = r.sz := fun x hx => by
    obtain ⟨i, hi, rfl⟩ := List.getElem_of_mem hx
    obtain ⟨b, hb⟩ : ∃ b, xs[i]? = some b := ⟨_, List.getElem?_eq_getElem (by rw [← hok.length]; exact hi)⟩
    obtain ⟨a, ha, hr⟩ := hok.get hb
    rw [List.getElem?_eq_getElem hi] at ha
    simp at ha
    rw [ha]; exact r.len hr
  by_cases hp : p = none
  · subst hp
    have hw2 := hw1
    obtain ⟨l, ⟨l1, l2, rfl, ⟨h1, hnc, hr⟩, he⟩, hs, hc⟩ := hw2
    rcases hr with ⟨_, hn0, hc0, hl1⟩ | ⟨b, sp, e2, _⟩
    · subst hn0 hc0 hl1
      have hcs : css = [] := by rw [← List.length_eq_zero_iff, hok.length, hlen]
      subst hcs
      refine quietAt_mono (A := Inv C H' h) (fun w' hw' => ?_) ((hv h (PH.le_refl _) ⟨[], Sl.nil h _, hok⟩).run a ha w hw1.drop1)
      refine Inv.unpick hpk ?_
      obtain ⟨l', he', hs', hc'⟩ := hw'
      exact ⟨l', ⟨[], l', rfl, by rw [hys]; exact ⟨h1, hnc, .inl ⟨rfl, rfl, rfl, rfl⟩⟩, he'⟩, hs', hc'⟩
    · cases e2
  · obtain ⟨b, sp, rfl, h1, h2, h3, hbx⟩ := hw1.row_box hp
    have hbn : h b = none := by
      obtain ⟨l, ⟨l1, l2, rfl, e9, he⟩, hs, hc⟩ := hbx
      have e' : l1 = [(b, _)] := e9
      subst e'
      exact hs.sep b _ (List.mem_cons_self ..)
    obtain ⟨hle, hi⟩ := Inv.publish1 hbx
    have hsl : Sl (h.add b (.cells (css.flatten ++ sp).toArray e (0, 0))) r.sz (some ⟨b, 0, none⟩) n c css := by
      refine ⟨by rw [hok.length, hlen], h2, htop, heach, fun _ => ⟨b, 0, rfl, _, _, _, by simp [PH.add]; exact ⟨rfl, rfl, rfl⟩, fun j u hu => ?_⟩⟩
      simp only [Nat.zero_add, List.getElem?_toArray]
      rw [List.getElem?_append_left (List.getElem?_eq_some_iff.1 hu).1]; exact hu
    refine quietAt_mono (fun w' hw' => ?_) ((hv _ hle ⟨css, hsl, hok.mono fun _ _ => r.mono hle⟩).run a ha w hi)
    refine Inv.unpick hpk ?_
    rw [hys]
    exact (hw'.unpublish1 hbn h0).box_row h1 h2 h3
end
end Go.GV
