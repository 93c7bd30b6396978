/- An own row sorted by a function: the kit's contract of slices.SortFunc, read in the logic of private blocks. -/
import Derived.Test.YtbdkokkmheobdaaLe
import Derived.Shelf.SlSortCmp.NoneTotal
namespace Go.GV
open Go

def nomem : PH := fun _ => none
theorem since_grow {W W' : World} {h h' : PH} {l : List Blk} (hc : Since ⟨W, h, []⟩ W' h' l) : ∃ q os', W' = Go.Sort.grow (W.drewN q) os' := by
  refine ⟨W'.drawn - W.drawn, W'.heap.extract W.heap.size W'.heap.size, ?_⟩
  have h1 := hc.os; have h2 := hc.tape; have h3 := hc.drawn; have h4 := hc.output; have h5 := hc.size; have h6 := hc.old
  simp only at h1 h2 h3 h4 h5 h6
  cases W' with
  | mk heap tape drawn os output =>
    simp only at h1 h2 h3 h4 h5 h6
    subst h1; subst h2; subst h4
    unfold Go.Sort.grow World.drewN
    simp only [World.mk.injEq, true_and, and_true]
    refine ⟨?_, by omega⟩
    apply Array.ext_getElem?
    intro k
    rw [Array.getElem?_append]
    split
    · rename_i hk; exact h6 k hk (by simp)
    · rename_i hk
      rw [Array.getElem?_extract]
      split
      · congr 1; omega
      · exact Array.getElem?_eq_none (by omega)
/-- What a comparison's contract, that asks nothing of the memory, tells to the kit's law on sorting. -/
theorem cmp_lays {P : Program} {α : Type} [Inhabited α] {g : FuncId} {cb : Array Value} {enc : α → List Value} {k : Nat} {cf : α → α → Int} (hs : ∀ x y, Det P g (#[.agg (enc x).toArray, .agg (enc y).toArray] ++ cb) nomem (.int .i64 (cf x y))) (blk off size : Nat) (w : World) :
    Go.Proofs.CmpLays P g cb enc k cf blk off size w := fun m os dk _ x y => by
  refine (hs x y _ [] rfl ⟨by simp, by simp, fun b o e => by simp [nomem] at e, by simp⟩).mono ?_
  rintro e w' ⟨v, h', Ho, rfl, ⟨rfl, rfl⟩, l, _, _, hc⟩
  exact ⟨rfl, since_grow hc⟩
theorem getD_flat {k : Nat} (hk0 : 0 < k) : ∀ (xss : List (List Value)), (∀ x ∈ xss, x.length = k) → ∀ t, t < xss.length * k → xss.flatten[t]? = (xss[t / k]?).bind (fun x => x[t % k]?)
  | [], _, t, ht => by simp at ht
  | x :: xss, h, t, ht => by
    have hx : x.length = k := h x (by simp)
    by_cases hlt : t < k
    · rw [List.flatten_cons, List.getElem?_append_left (by omega), Nat.div_eq_of_lt hlt, Nat.mod_eq_of_lt hlt]; rfl
    · obtain ⟨u, rfl⟩ : ∃ u, t = u + k := ⟨t - k, by omega⟩
      rw [List.flatten_cons, List.getElem?_append_right (by omega), hx, Nat.add_sub_cancel (n := u) (m := k), Nat.add_div_right _ hk0, Nat.add_mod_right, List.getElem?_cons_succ]
      exact getD_flat hk0 xss (fun y hy => h y (by simp [hy])) u (by simp [Nat.add_mul] at ht; omega)
theorem flatK_list {α : Type} [Inhabited α] {enc : α → List Value} {k : Nat} (hk0 : 0 < k) (hk : ∀ x, (enc x).length = k) (d : Array α) : (Go.Sort.flatK enc k d).toList = (d.toList.map enc).flatten := by
  apply List.ext_getElem?
  intro t
  have hlen : ((d.toList.map enc).flatten).length = d.size * k := by
    rw [flatten_length (sz := k) (by simpa using fun x _ => hk x)]; simp
  by_cases ht : t < d.size * k
  · have ht2 : t / k < d.size := Nat.div_lt_of_lt_mul (by rwa [Nat.mul_comm] at ht)
    rw [getD_flat hk0 _ (by simpa using fun x _ => hk x) t (by simpa using ht)]
    have h1 : (d.toList.map enc)[t / k]? = some (enc d[t / k]!) := by
      rw [List.getElem?_map, Array.getElem?_toList, Array.getElem?_eq_getElem ht2, getElem!_pos d _ ht2]; rfl
    have h3 : t % k < (enc d[t / k]!).length := by rw [hk]; exact Nat.mod_lt _ hk0
    rw [h1, Option.bind_some, Array.getElem?_toList, Array.getElem?_eq_getElem (by simpa using ht), List.getElem?_eq_getElem h3]
    have := Go.Sort.get_flatK enc k d t ht
    rw [getElem!_pos _ t (by simpa using ht)] at this
    rw [this, getElem!_pos (enc d[t / k]!) (t % k) h3]
  · rw [List.getElem?_eq_none (by simpa using ht), List.getElem?_eq_none (by omega)]
theorem putCells_front (F sp : List Value) : Go.Sort.putCells id 0 F.toArray ((F ++ sp).toArray) = (F ++ sp).toArray := by
  apply Array.ext_getElem?
  intro k
  simp only [Go.Sort.putCells, Array.getElem?_mapIdx, List.getElem?_toArray, List.size_toArray]
  cases hk : (F ++ sp)[k]? with
  | none => rfl
  | some v =>
    simp only [Option.map_some]
    split
    · rename_i h
      have hlt : k < F.length := by omega
      rw [List.getElem?_append_left hlt] at hk
      simp [List.getElem?_eq_some_iff.1 hk |>.2, hlt]
    · rfl
theorem putCells_swap (F G sp : List Value) (hl : F.length = G.length) : Go.Sort.putCells id 0 G.toArray ((F ++ sp).toArray) = (G ++ sp).toArray := by
  rw [← putCells_front G sp]
  apply Array.ext_getElem?
  intro k
  simp only [Go.Sort.putCells, Array.getElem?_mapIdx, List.getElem?_toArray, List.size_toArray]
  by_cases hk : k < F.length
  · rw [List.getElem?_append_left hk, List.getElem?_append_left (by omega), List.getElem?_eq_getElem hk, List.getElem?_eq_getElem (show k < G.length by omega)]
    simp only [Option.map_some]
    rw [if_pos ⟨by omega, by omega⟩, if_pos ⟨by omega, by omega⟩]
  · rw [List.getElem?_append_right (by omega), List.getElem?_append_right (by omega), hl]
structure Sorted {α : Type} [Inhabited α] (cf : α → α → Int) (l : List α) : Prop where
  le : ∀ i j, i < j → j < l.length → ¬ cf l[j]! l[i]! < 0
open Go.Proofs Go.Sort in
/-- slices.SortFunc of an own row: the same elements, sorted. -/
theorem spec_sort {P : Program} {r : Go.Shelf.Ren} {α : Type} [Inhabited α] (L : Go.Proofs.SlLaysF0.n6 P r) {k : Nat} (hk0 : 0 < k) (aE : ∀ w, (isAgg (r.t 24)).run P w = .ok true w) (zE : ∀ w, (Go.sizeOf (r.t 24)).run P w = .ok k w) {enc : α → List Value} (hk : ∀ x, (enc x).length = k) (h1 : ∀ x, ∀ v ∈ enc x, v.oneCell' = true)
    {cf : α → α → Int} (hO : SWO (ltOf cf)) {g : FuncId} {cb : List Value} [TFn P g] (hcmp : ∀ x y, Det P g (#[.agg (enc x).toArray, .agg (enc y).toArray] ++ cb.toArray) nomem (.int .i64 (cf x y))) {p : Option Addr} {n c : Nat} {e : TypeId} {ys : List Value} (ds : List α) (h : PH) (hys : ys = (ds.map enc).flatten) (hlen : ds.length = n) (hn : n < 4611686018427387904) :
    SpecM P (r.f 6) #[.slice p n c, .func (.func g) #[] cb.toArray] h [row p n c e k ys] fun v h' Ho => v = .tuple #[] ∧ h' = h ∧ ∃ ds', ds'.Perm ds ∧ Sorted cf ds' ∧ Ho = [row p n c e k (ds'.map enc).flatten] := by
  rintro w l ⟨l1, l2, rfl, ⟨hr1, hnc, hr⟩, he⟩ hs
  have : l2 = [] := he
  subst this
  rcases hr with ⟨rfl, rfl, rfl, rfl⟩ | ⟨b, sp, rfl, hsp, rfl⟩
  · have hd : ds = [] := by rw [List.length_eq_zero_iff] at hlen; exact hlen
    subst hd
    refine (AnyF.slices_SortFunc_none L none 0 (.func (.func g) #[] cb.toArray) w).mono ?_
    rintro e1 w' ⟨rfl, rfl⟩
    subst hys
    exact ⟨_, h, _, rfl, ⟨rfl, rfl, [], List.Perm.refl _, ⟨by simp⟩, rfl⟩, [], ⟨[], [], rfl, ⟨by simp, by simp, .inl ⟨rfl, rfl, rfl, rfl⟩⟩, rfl⟩, hs, ⟨rfl, rfl, Nat.le_refl _, rfl, Nat.le_refl _, fun _ _ _ => rfl, PH.le_refl _, fun b o e1 e2 => (by have e3 : h b = none := e2; rw [e1] at e3; cases e3), fun b o hm => by simp at hm⟩⟩
  · have hb : w.heap[b]? = some (.cells (ys ++ sp).toArray e (0, 0)) := hs.mem b _ (by simp)
    have hblk : b < w.heap.size := (Array.getElem?_eq_some_iff.1 hb).1
    have hsz : ds.toArray.size = n := by simpa using hlen
    have hH : HoldsK enc k w b 0 ds.toArray := by
      unfold HoldsK Holds
      intro j hj
      have hfl : (flatK enc k ds.toArray).toList = ys := by rw [flatK_list hk0 hk, hys]
      have hj2 : j < ys.length := by rw [← hfl]; simpa using hj
      refine ⟨?_, by simp [World.frozen?, hb]⟩
      have : (flatK enc k ds.toArray)[j]? = ys[j]? := by rw [← hfl, Array.getElem?_toList]
      rw [Array.getElem?_eq_getElem hj, List.getElem?_eq_getElem hj2] at this
      rw [getElem!_pos _ j hj, Option.some.inj this]
      simp [World.cell?, hb, List.getElem?_append_left hj2, List.getElem?_eq_getElem hj2]
    have hcall := AnyQ.slices_SortFunc (α := α) L k aE zE enc hk h1 cf hO g cb.toArray b 0 c ds.toArray w (fun args w => run_callFunc args w) (cmp_lays hcmp b 0 ds.toArray.size w) hH hblk (by rw [hsz]; exact hn)
    rw [hsz] at hcall
    refine hcall.mono ?_
    rintro e1 w' ⟨rfl, d', m, os, hp, hso, rfl⟩
    obtain ⟨hps, _, hperm⟩ := hp
    rw [hsz] at hps
    have e0 : d'.extract 0 n = d' := by rw [← hps, Array.extract_size]
    have e2 : ds.toArray.extract 0 n = ds.toArray := by rw [← hsz, Array.extract_size]
    rw [e0, e2] at hperm
    simp only at hperm
    have hfl : (flatK enc k d').toList = (d'.toList.map enc).flatten := flatK_list hk0 hk d'
    have hys2 : ys.length = ((d'.toList.map enc).flatten).length := by
      rw [hr1, ← hfl]; simp [hps]
    have hat : (sortWorldK enc k w b 0 m d' os).heap[b]? = some (.cells (((d'.toList.map enc).flatten) ++ sp).toArray e (0, 0)) := by
      unfold sortWorldK grow putRowK putRow mapBlock
      simp only [heap_ahead]
      rw [Array.getElem?_append_left (by simpa using hblk), Array.getElem?_modify, if_pos rfl, hb]
      simp only [Option.map_some, onCells]
      rw [show flatK enc k d' = ((d'.toList.map enc).flatten).toArray by rw [← hfl], putCells_swap _ _ _ hys2]
    have hother : ∀ j, j < w.heap.size → j ≠ b → (sortWorldK enc k w b 0 m d' os).heap[j]? = w.heap[j]? := fun j hj hjb => by
      unfold sortWorldK grow putRowK putRow mapBlock
      simp only [heap_ahead]
      rw [Array.getElem?_append_left (by simpa using hj), Array.getElem?_modify, if_neg (Ne.symm hjb)]
    have hnb := hs.sep b _ (show (b, Obj.cells (ys ++ sp).toArray e (0, 0)) ∈ _ by simp)
    refine ⟨_, h, _, rfl, ⟨rfl, rfl, d'.toList, hperm, ⟨fun i j hij hj => ?_⟩, rfl⟩, [(b, .cells (((d'.toList.map enc).flatten) ++ sp).toArray e (0, 0))], ⟨_, [], rfl, ⟨by rw [← hys2, hr1], hnc, .inr ⟨b, sp, rfl, by rw [List.length_append, ← hys2, ← List.length_append]; exact hsp, rfl⟩⟩, rfl⟩, ⟨by simp, ?_, fun b' o e3 => ?_, ?_⟩,
      ⟨rfl, rfl, by show w.drawn ≤ w.drawn + m; omega, rfl, ?_, fun j hj hjb => ?_, PH.le_refl _, fun b' o e3 e4 => (by have e5 : h b' = none := e4; rw [e3] at e5; cases e5), fun b' o hm => ?_⟩⟩
    · have := hso i j (Nat.zero_le _) hij (by simpa [hps] using hj)
      simp only [ltOf, decide_eq_false_iff_not] at this
      rwa [← Array.getElem!_toList, ← Array.getElem!_toList] at this
    · intro b' o hm
      simp only [List.mem_singleton, Prod.mk.injEq] at hm
      obtain ⟨rfl, rfl⟩ := hm
      exact hat
    · have hbb : b' ≠ b := by rintro rfl; rw [hnb] at e3; cases e3
      have := hs.pub b' o e3
      rw [hother b' (Array.getElem?_eq_some_iff.1 this).1 hbb]; exact this
    · intro b' o hm
      simp only [List.mem_singleton, Prod.mk.injEq] at hm
      obtain ⟨rfl, rfl⟩ := hm
      exact hnb
    · show w.heap.size ≤ _
      unfold sortWorldK
      simp [putRowK]
    · refine hother j hj ?_
      rintro rfl
      exact hjb (by simp)
    · simp only [List.mem_singleton, Prod.mk.injEq] at hm
      obtain ⟨rfl, rfl⟩ := hm
      exact .inr (by simp)
end Go.GV
