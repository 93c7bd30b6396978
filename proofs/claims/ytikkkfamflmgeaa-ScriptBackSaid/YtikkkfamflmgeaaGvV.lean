/- Guards in plans; literal rows; over the small logic of GvA to GvU. -/
import Derived.Test.YtikkkfamflmgeaaGvU
namespace Go.GV
open Go
section
variable {ρ : Option Nat} {P : Program} {C : Ctx} {N : Fr} {L : En} {H H' : List HE} {h : PH} {ops : Array Oper} {o : Oper} {R : Act → World → Prop} {B : List Nat} {r : List PI}
theorem hd_pn_gon {i d s : Nat} {want c : Bool} {g0 : List (Bool × Bool)} {v : Value} (ho : ops[i]? = some o) (hg : gslot ops o.guard = some (s, want)) (hs : look L s = some (g0, .bool c)) (hsat : Sat ((c, want) :: g0)) (hv : OP P C o L H h v) (hd : o.dst = some d) (hN : Nat.blt d N.n = true)
    (next : Hd C N ((d, [], v) :: L) H h (wpPn P ops R B r (SS C H h))) : Hd C N L H h (wpPn P ops R B (.one i true :: r) (SS C H h)) := by
  refine ⟨fun a w ha hw => ?_⟩
  have hN' : d < N.n := by simpa using hN
  have hev : ∀ x ∈ o.op.operands, ∀ u, Ev L x u → a.eval x = u := fun x _ u hu => hu.eval ha
  refine ⟨SS.of hw, o, v, ho, .inl ⟨by rw [wanted_of ha hg hs]; exact (sat_iff _).1 hsat, fun w' hw' => by rw [hv.run a.eval w' hev hw']⟩, ?_⟩
  refine next.all _ _ ?_ hw
  rw [hd]
  have := ha.put (g := []) (v := v) hN'
  simpa [G, satB] using this
theorem hd_pn_goff {i d s : Nat} {want c : Bool} {g0 : List (Bool × Bool)} (ho : ops[i]? = some o) (hg : gslot ops o.guard = some (s, want)) (hs : look L s = some (g0, .bool c)) (hsat : ¬ Sat ((c, want) :: g0)) (hd : o.dst = some d) (hN : Nat.blt d N.n = true)
    (next : Hd C N ((d, [], undef) :: L) H h (wpPn P ops R B r (SS C H h))) : Hd C N L H h (wpPn P ops R B (.one i true :: r) (SS C H h)) := by
  refine ⟨fun a w ha hw => ?_⟩
  have hN' : d < N.n := by simpa using hN
  refine ⟨SS.of hw, o, undef, ho, .inr ⟨?_, rfl⟩, ?_⟩
  · rw [wanted_of ha hg hs]
    cases e : satB ((c, want) :: g0) with
    | false => rfl
    | true => exact absurd ((sat_iff _).2 e) hsat
  · refine next.all _ _ ?_ hw
    rw [hd]
    have := ha.put (g := []) (v := undef) hN'
    simpa [G, satB] using this
theorem hd_pn_gundef {i d s : Nat} {want : Bool} (ho : ops[i]? = some o) (hg : gslot ops o.guard = some (s, want)) (hs : look L s = some ([], undef)) (hd : o.dst = some d) (hN : Nat.blt d N.n = true)
    (next : Hd C N ((d, [], undef) :: L) H h (wpPn P ops R B r (SS C H h))) : Hd C N L H h (wpPn P ops R B (.one i true :: r) (SS C H h)) := by
  refine ⟨fun a w ha hw => ?_⟩
  have hN' : d < N.n := by simpa using hN
  refine ⟨SS.of hw, o, undef, ho, .inr ⟨?_, rfl⟩, ?_⟩
  · cases hgu : o.guard with
    | none => rw [hgu] at hg; simp [gslot] at hg
    | some gu =>
      rw [hgu] at hg
      obtain ⟨j, w'⟩ := gu
      simp only [gslot] at hg
      split at hg
      · rename_i oj hoj
        split at hg
        · rename_i d' hd'
          simp only [Option.some.injEq, Prod.mk.injEq] at hg
          obtain ⟨rfl, rfl⟩ := hg
          have hat := ha.at_ _ _ _ hs
          simp only [Region.wanted, hgu, yielded, hoj, Option.bind_some, hd', hat]
          simp [G, satB, undef]
        · simp at hg
      · simp at hg
  · refine next.all _ _ ?_ hw
    rw [hd]
    have := ha.put (g := []) (v := undef) hN'
    simpa [G, satB] using this
inductive CI (k : IntKind) : List Value → List Int → Prop
  | nil : CI k [] []
  | cons {b : Int} {xs : List Value} {bs : List Int} (hh : CI k xs bs) : CI k (.int k b :: xs) (b :: bs)
theorem CI.eq {k : IntKind} {xs : List Value} {bs : List Int} (hh : CI k xs bs) : xs = vI k bs := by
  induction hh with
  | nil => rfl
  | cons _ ih => rw [ih]; rfl
theorem hd_pubL {k : IntKind} {p : Option Addr} {n c : Nat} {e : TypeId} {ys : List Value} {xs : List Int} (hpk : Pick H (row p n c e 1 ys) H') (hc : CI k ys xs) (hr : ∀ x ∈ xs, inR k x) (hlen : xs.length = n) (htop : n ≤ 9223372036854775807)
    (next : ∀ h', h.le h' → SlR (rInt k) h' p n c xs → Hd C N L H' h' R) : Hd C N L H h R := hd_pubI xs hpk hc.eq hr hlen htop next
end
end Go.GV
