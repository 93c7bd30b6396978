/- Ranges over functions that hand over private blocks with what they yield. -/
import Derived.Test.YtikkkfamflmgeaaInst
namespace Go.GV
open Go
/-- An iterator that hands over private blocks with what it yields. -/
def IterP (P : Program) (gf : FuncId) (lb : List Value) (h : PH) (V : Nat → List Value → PH → List HE → Prop) (m : Nat) : Prop :=
  ∀ (l : Nat) (St : Nat → PH → List HE → Prop) (JX : PH → List HE → Prop) (H0 : List HE), St 0 h H0 →
    (∀ k hk hq Hk vs Hv, k < m → h.le hk → hk.le hq → St k hk Hk → V k vs hq Hv → YieldsB P l vs.toArray hq (Hv ++ Hk) (fun v h' Ho => (v = .bool true ∧ St (k + 1) h' Ho) ∨ (v = .bool false ∧ JX h' Ho))) →
    SpecM P gf (.func (.yield l) #[] #[] :: lb).toArray h H0 (fun _ h' Ho => St m h' Ho ∨ JX h' Ho)
section
variable {ρ : Option Nat} {P : Program} {C : Ctx} {N : Fr} {L : En} {H : List HE} {h : PH} {dst : Option Tmp} {ty : TypeId} {pos : String} {after : Array Edge} {gd : Option (Nat × Bool)}
variable {ops : Array Oper} {o : Oper} {rest : List Oper} {Q : Exit → Act → World → Prop}
theorem hd_rangeFuncP {n : Nat} {ds : List Deferred} {g : Operand} {ps : List Tmp} {assign body : Code} {gf : FuncId} {lb : List Value} (St : Nat → PH → List HE → Prop) (JX : Code → PH → List HE → Prop) {V : Nat → List Value → PH → List HE → Prop} {m : Nat}
    (hg : Ev L g (.func (.func gf) #[] lb.toArray)) (hf : TFn P gf) (hlt : (ps.all fun p => Nat.blt p n) = true) (hit : IterP P gf lb h V m) (hps : ∀ k vs h' Hv, V k vs h' Hv → vs.length = ps.length) (h0 : St 0 h H)
    (hbody : ∀ C' l r k hk hq Hk vs Hv, k < m → h.le hk → hk.le hq → St k hk Hk → V k vs hq Hv → Hd C' ⟨n, []⟩ (enPs ps vs L) ((Hv ++ Hk) ++ [lp l r .ready none]) hq (cw (some l) P assign (Exit.then (rnd P l body (rPost C' St JX k l r)) (fun _ _ _ => False))))
    (next : ∀ D h' H', h.le h' → St m h' H' → Hd C ⟨n, ⟨.collected D, #[]⟩ :: ds⟩ L (H' ++ [dfr D]) h' (Q .normal))
    (stop : ∀ D c h' H', h.le h' → JX c h' H' → Hd C ⟨n, ⟨.collected D, #[]⟩ :: ds⟩ L (H' ++ [dfr D]) h' (cw none P c Q)) :
    Hd C ⟨n, ds⟩ L H h (cw none P (Code.rangeFunc g ps.toArray assign body) Q) := by
  refine ⟨fun a w ha hw => ?_⟩
  have hev := hg.eval ha
  show (Code.rangeFunc g ps.toArray assign body).wpIn Fence.wide 0 P Q a w
  refine wpIn_rangeFunc ?_
  intro fn _
  obtain ⟨rec, hrec⟩ : ∃ rec : Loop, rec = { state := .ready, pending := none, fn, tmps := a.tmps, params := ps.toArray, assign, body, defers := w.heap.size } := ⟨_, rfl⟩
  have hinv1 : Inv C (obj (w.heap.size + 1) (.loop rec) :: dfr w.heap.size :: H) h ((w.alloc (.deferred (some []))).alloc (.loop rec)) := by
    have := (hw.allocO (.deferred (some []))).allocO (.loop rec)
    rwa [World.size_alloc] at this
  have hrl : lp (w.heap.size + 1) rec .ready none = obj (w.heap.size + 1) (.loop rec) := by rw [hrec]; rfl
  have hinv2 : Inv C ((H ++ [lp (w.heap.size + 1) rec .ready none]) ++ [dfr w.heap.size]) h ((w.alloc (.deferred (some []))).alloc (.loop rec)) := by
    rw [hrl]
    refine Inv.perm ?_ hinv1
    have e : H ++ [obj (w.heap.size + 1) (.loop rec)] ++ [dfr w.heap.size] = H ++ [obj (w.heap.size + 1) (.loop rec), dfr w.heap.size] := by simp
    rw [e]
    exact (List.perm_append_comm (l₁ := [obj (w.heap.size + 1) (.loop rec), dfr w.heap.size]))
  refine ⟨w.heap.size + 1, [{ target := .collected w.heap.size, args := #[] }], (w.alloc (.deferred (some []))).alloc (.loop rec), { target := .fn (.func gf) lb.toArray, args := #[.func (.yield (w.heap.size + 1)) #[] #[]] }, (w.alloc (.deferred (some []))).alloc (.loop rec), gf,
    (.func (.yield (w.heap.size + 1)) #[] #[] :: lb).toArray, (w.alloc (.deferred (some []))).alloc (.loop rec), ?_, ?_, fun _ _ => trivial, ?_, fun hh => by simp [Fence.wide] at hh, ?_⟩
  · rw [hrec]; exact run_enterLoop_outer _ _ _ _ _
  · simp only [resolve, hev]
    simp [go_sem]
  · have := run_callFunc (P := P) (f := gf) (.func (.yield (w.heap.size + 1)) #[] #[] :: lb).toArray ((w.alloc (.deferred (some []))).alloc (.loop rec))
    simpa [invoke] using this
  · refine (callsIn_wide (n := 0 - 1)).2 ?_
    obtain ⟨bl, he, hsp, hc⟩ := hinv2
    obtain ⟨li, lf, rfl, hei, hef⟩ := ents_append.1 he
    have hsi : Sep ((w.alloc (.deferred (some []))).alloc (.loop rec)) h li := by
      have hnd := hsp.nodup
      rw [List.map_append, List.nodup_append] at hnd
      exact ⟨hnd.1, fun b o hm => hsp.mem b o (List.mem_append_left _ hm), hsp.pub, fun b o hm => hsp.sep b o (List.mem_append_left _ hm)⟩
    have hspec := hit (w.heap.size + 1) (fun k hk Hk' => ∃ Hk, Hk' = Hk ++ [lp (w.heap.size + 1) rec .ready none] ∧ St k hk Hk) (fun h' Ho' => ∃ c Ho, Ho' = Ho ++ [lp (w.heap.size + 1) rec .done (some c)] ∧ JX c h' Ho) (H ++ [lp (w.heap.size + 1) rec .ready none]) ⟨H, rfl, h0⟩ (by
      rintro k hk hq Hk' vs Hv hkm hle hleq ⟨Hk, rfl, hst⟩ hv W bl2 he2 hs2
      rw [← List.append_assoc] at he2
      have hW : Inv ⟨W, hq, bl2.map (·.1)⟩ ((Hv ++ Hk) ++ [lp (w.heap.size + 1) rec .ready none]) hq W :=
        ⟨bl2, he2, hs2, ⟨rfl, rfl, Nat.le_refl _, rfl, Nat.le_refl _, fun _ _ _ => rfl, PH.le_refl _, fun b o e1 e2 => (by simp only at e2; rw [e1] at e2; cases e2), fun b o hm => .inr (List.mem_map.2 ⟨(b, o), hm, rfl⟩)⟩⟩
      have hl := hW.last.objAt
      have hl2 : W.heap[w.heap.size + 1]? = some (.loop rec) := by rw [hl, hrec]
      have hlen := hps k vs hq Hv hv
      refine ⟨_, _, _, _, run_yield hl2 (by rw [hrec]; simp [hlen]), roundIn_of_wpIn trivial ?_⟩
      have hen : EnOK ⟨(ps.zip vs).foldl (fun t p => t.setIfInBounds p.1 p.2) a.tmps, []⟩ ⟨n, []⟩ (enPs ps vs L) := enPs_ok ps vs L a.tmps hlt ⟨ha.size, rfl, ha.at_⟩
      have key := (hbody ⟨W, hq, bl2.map (·.1)⟩ (w.heap.size + 1) rec k hk hq Hk vs Hv hkm hle hleq hst hv).all _ W hen hW
      have et : (rec.params.zip vs.toArray).foldl (fun tmps (x : Tmp × Value) => tmps.setIfInBounds x.1 x.2) rec.tmps = (ps.zip vs).foldl (fun t p => t.setIfInBounds p.1 p.2) a.tmps := by
        rw [hrec]; simp
      have ea : rec.assign = assign := by rw [hrec]
      have eb : rec.body = body := by rw [hrec]
      rw [ea, eb]
      have key2 : assign.wpIn (Fence.wide.inRound (w.heap.size + 1)) 0 P (Exit.then (rnd P (w.heap.size + 1) body (rPost ⟨W, hq, bl2.map (·.1)⟩ St JX k (w.heap.size + 1) rec)) (fun _ _ _ => False)) { tmps := (rec.params.zip vs.toArray).foldl (fun tmps (x : Tmp × Value) => tmps.setIfInBounds x.1 x.2) rec.tmps, defers := [] } W := by
        rw [et]; exact key
      refine wpIn_mono key2 ?_
      intro e a1 w1 hq
      cases e with
      | normal =>
        obtain ⟨w2, hb, hcw⟩ := hq
        refine ⟨w2, hb, wpIn_mono hcw ?_⟩
        intro e2 a2 w3 hq2
        cases e2 with
        | normal =>
          obtain ⟨h', Ho, hi, hs3⟩ := hq2
          refine ⟨_, _, run_endRound none hi.last.objAt, .bool true, h', _, rfl, .inl ⟨rfl, Ho, rfl, hs3⟩, (hi.last.putO _).first⟩
        | ret =>
          obtain ⟨h', Ho, hi, hs3⟩ := hq2
          refine ⟨_, _, run_endRound (some .ret) hi.last.objAt, .bool false, h', _, rfl, .inr ⟨rfl, .ret, Ho, rfl, hs3⟩, (hi.last.putO _).first⟩
        | exit id =>
          obtain ⟨h', Ho, hi, hs3⟩ := hq2
          refine ⟨_, _, run_endRound (some (.exit id)) hi.last.objAt, .bool false, h', _, rfl, .inr ⟨rfl, .exit id, Ho, rfl, hs3⟩, (hi.last.putO _).first⟩
        | goto _ => exact hq2.elim
        | panic _ => exact hq2.elim
        | outgrown => exact hq2.elim
      | _ => exact hq.elim)
    refine (hspec _ li hei hsi).mono ?_
    rintro e w3 ⟨v, h', Ho', rfl, hp, hi⟩
    have hn := Inv.call hei hef hsp hc hi
    have hle' := Inv.le0 hi
    have hen : ∀ D, EnOK { a with defers := [{ target := .collected D, args := #[] }] ++ a.defers } ⟨n, ⟨.collected D, #[]⟩ :: ds⟩ L := fun D => ⟨ha.size, by simp [ha.defers], ha.at_⟩
    rcases hp with ⟨Hm, rfl, hst⟩ | ⟨c, Ho, rfl, hj⟩
    · have hn2 : Inv C (lp (w.heap.size + 1) rec .ready none :: (Hm ++ [dfr w.heap.size])) h' w3 := by
        refine Inv.perm ?_ hn
        rw [List.append_assoc]
        exact List.perm_middle
      refine ⟨none, _, run_endLoop hn2.objAt (by simp), ?_⟩
      exact (next w.heap.size h' Hm hle' hst).all _ _ (hen _) (hn2.putO _).drop1
    · have hn2 : Inv C (lp (w.heap.size + 1) rec .done (some c) :: (Ho ++ [dfr w.heap.size])) h' w3 := by
        refine Inv.perm ?_ hn
        rw [List.append_assoc]
        exact List.perm_middle
      refine ⟨some c, _, run_endLoop hn2.objAt (by simp), ?_⟩
      exact (stop w.heap.size c h' Ho hle' hj).all _ _ (hen _) (hn2.putO _).drop1

end
end Go.GV
