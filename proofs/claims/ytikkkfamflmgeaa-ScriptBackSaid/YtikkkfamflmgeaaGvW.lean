/- Plans once more: what was private ahead of the region stays what is asked of the world; over the small logic of GvA to GvV. -/
import Derived.Test.YtikkkfamflmgeaaGvV
namespace Go.GV
open Go
section
variable {ρ : Option Nat} {P : Program} {C : Ctx} {N : Fr} {L L0 L' : En} {H H0 HF H' : List HE} {h h0 h1 : PH} {ops : Array Oper} {o : Oper} {Q : Exit → Act → World → Prop} {R : Act → World → Prop} {B : List Nat} {r : List PI} {S : World → Prop} {D : List Nat} {Post : En → List HE → PH → Prop} {T : List Nat}
theorem hd_pn_run {i d : Nat} {g : List (Bool × Bool)} {v : Value} (ho : ops[i]? = some o) (hmo : More H0 H) (hok : OKp P C ops o L H0 h g v) (hd : o.dst = some d) (hN : Nat.blt d N.n = true)
    (next : Hd C N ((d, g, v) :: L) H h (wpPn P ops R B r (SS C H0 h))) : Hd C N L H h (wpPn P ops R B (.one i true :: r) (SS C H0 h)) := by
  refine ⟨fun a w ha hw => ?_⟩
  have hN' : d < N.n := by simpa using hN
  have hev : ∀ x ∈ o.op.operands, ∀ u, Ev L x u → a.eval x = u := fun x _ u hu => hu.eval ha
  refine ⟨SS.more hmo (PH.le_refl _) hw, o, G g v, ho, ?_, ?_⟩
  · cases hok with
    | plain hg hv => exact .inl ⟨by simp [Region.wanted, hg], fun w' hw' => by rw [hv.run a.eval w' hev hw']; simp [G, satB]⟩
    | guarded hg hs hv =>
      rename_i s want g0 c
      by_cases hsat : Sat ((c, want) :: g0)
      · exact .inl ⟨by rw [wanted_of ha hg hs]; exact (sat_iff _).1 hsat, fun w' hw' => by rw [(hv hsat).run a.eval w' hev hw', G_sat hsat]⟩
      · refine .inr ⟨?_, G_not hsat⟩
        rw [wanted_of ha hg hs]
        cases e : satB ((c, want) :: g0) with
        | false => rfl
        | true => exact absurd ((sat_iff _).2 e) hsat
  · refine next.all _ _ ?_ hw
    rw [hd]
    exact ha.put hN'
theorem hd_pn_runG {i d s : Nat} {want c : Bool} {g0 : List (Bool × Bool)} {v : Value} (ho : ops[i]? = some o) (hg : gslot ops o.guard = some (s, want)) (hs : look L s = some (g0, .bool c)) (hsat : Sat ((c, want) :: g0)) (hmo : More H0 H) (hv : OP P C o L H0 h v) (hd : o.dst = some d) (hN : Nat.blt d N.n = true)
    (next : Hd C N ((d, [], v) :: L) H h (wpPn P ops R B r (SS C H0 h))) : Hd C N L H h (wpPn P ops R B (.one i true :: r) (SS C H0 h)) := by
  refine ⟨fun a w ha hw => ?_⟩
  have hN' : d < N.n := by simpa using hN
  have hev : ∀ x ∈ o.op.operands, ∀ u, Ev L x u → a.eval x = u := fun x _ u hu => hu.eval ha
  refine ⟨SS.more hmo (PH.le_refl _) hw, o, v, ho, .inl ⟨by rw [wanted_of ha hg hs]; exact (sat_iff _).1 hsat, fun w' hw' => by rw [hv.run a.eval w' hev hw']⟩, ?_⟩
  refine next.all _ _ ?_ hw
  rw [hd]
  have := ha.put (g := []) (v := v) hN'
  simpa [G, satB] using this
theorem hd_pn_offG {i d s : Nat} {want c : Bool} {g0 : List (Bool × Bool)} (ho : ops[i]? = some o) (hg : gslot ops o.guard = some (s, want)) (hs : look L s = some (g0, .bool c)) (hsat : ¬ Sat ((c, want) :: g0)) (hmo : More H0 H) (hd : o.dst = some d) (hN : Nat.blt d N.n = true)
    (next : Hd C N ((d, [], undef) :: L) H h (wpPn P ops R B r (SS C H0 h))) : Hd C N L H h (wpPn P ops R B (.one i true :: r) (SS C H0 h)) := by
  refine ⟨fun a w ha hw => ?_⟩
  have hN' : d < N.n := by simpa using hN
  refine ⟨SS.more hmo (PH.le_refl _) hw, o, undef, ho, .inr ⟨?_, rfl⟩, ?_⟩
  · rw [wanted_of ha hg hs]
    cases e : satB ((c, want) :: g0) with
    | false => rfl
    | true => exact absurd ((sat_iff _).2 e) hsat
  · refine next.all _ _ ?_ hw
    rw [hd]
    have := ha.put (g := []) (v := undef) hN'
    simpa [G, satB] using this
theorem hd_pn_undefG {i d s : Nat} {want : Bool} (ho : ops[i]? = some o) (hg : gslot ops o.guard = some (s, want)) (hs : look L s = some ([], undef)) (hmo : More H0 H) (hd : o.dst = some d) (hN : Nat.blt d N.n = true)
    (next : Hd C N ((d, [], undef) :: L) H h (wpPn P ops R B r (SS C H0 h))) : Hd C N L H h (wpPn P ops R B (.one i true :: r) (SS C H0 h)) := by
  refine ⟨fun a w ha hw => ?_⟩
  have hN' : d < N.n := by simpa using hN
  refine ⟨SS.more hmo (PH.le_refl _) hw, o, undef, ho, .inr ⟨?_, rfl⟩, ?_⟩
  · cases hgu : o.guard with
    | none => rw [hgu] at hg; simp [gslot] at hg
    | some gu =>
      rw [hgu] at hg
      obtain ⟨j, w'⟩ := gu
      simp only [gslot] at hg
      split at hg
      · rename_i oj hoj
        split at hg
        · rename_i d' hd'
          simp only [Option.some.injEq, Prod.mk.injEq] at hg
          obtain ⟨rfl, rfl⟩ := hg
          have hat := ha.at_ _ _ _ hs
          simp only [Region.wanted, hgu, yielded, hoj, Option.bind_some, hd', hat]
          simp [G, satB, undef]
        · simp at hg
      · simp at hg
  · refine next.all _ _ ?_ hw
    rw [hd]
    have := ha.put (g := []) (v := undef) hN'
    simpa [G, satB] using this
theorem hd_pn_go {i : Nat} (hmo : More H0 H) (hl : h0.le h) (hx : Hd C N L H h (wpPn P ops R B r (SS C H0 h))) : Hd C N L H h (wpList P ops (Qn fun a' w' => (i ∉ B → SS C H0 h0 w') ∧ ∃ S', (∀ w, S' w → SS C H0 h0 w) ∧ wpPn P ops R B r S' a' w') []) :=
  ⟨fun a w ha hw => ⟨rfl, fun _ => SS.more hmo hl hw, SS C H0 h, fun _ hw => hw.less .same hl, hx.all a w ha hw⟩⟩
/-- 2 threads. -/
theorem hd_par2m {T1 T2 D1 D2 : List Nat} (Post1 Post2 : En → List HE → PH → Prop) (ha12 : apartTs ops L0 T1 D2 = true) (ha21 : apartTs ops L0 T2 D1 = true) (t1 : TS P C N ops L0 D1 Post1 T1 [] [] h) (t2 : TS P C N ops L0 D2 Post2 T2 [] [] h)
    (next : ∀ L1 H1 h1 L2 H2 h2 h', Post1 L1 H1 h1 → Post2 L2 H2 h2 → h1.le h' → h2.le h' → h.le h' → Hd C N (L1 ++ (L2 ++ L0)) (H1 ++ (H2 ++ H0)) h' (wpPn P ops R B r (SS C H0 h'))) :
    Hd C N L0 H0 h (wpPn P ops R B (.par [T1, T2] :: r) (SS C H0 h)) := by
  refine ⟨fun a w ha hw => ?_⟩
  refine inter_sound (P := P) (ops := ops) (B := B) (N := N) (L0 := L0) (H0 := H0) (h0 := h) [Post1, Post2] ?_ _ [⟨T1, D1, [], [], h, Post1⟩, ⟨T2, D2, [], [], h, Post2⟩] a w h rfl rfl ?_ ?_ (PH.le_refl _) ?_
  · intro sts a' w' h' hps hg hl hw'
    match sts, hps with
    | [s1, s2], hps =>
      simp only [List.map_cons, List.map_nil, List.cons.injEq, and_true] at hps
      obtain ⟨e1, e2⟩ := hps
      obtain ⟨p1, q1, r1⟩ := hg 0 s1 rfl
      rw [e1] at p1
      obtain ⟨p2, q2, r2⟩ := hg 1 s2 rfl
      rw [e2] at p2
      have hinv : Inv C (s1.H ++ (s2.H ++ H0)) h' w' := by simpa [List.append_assoc] using hw'
      have hen : EnOK a' N (s1.L ++ (s2.L ++ L0)) := by
        have z2 : EnOK a' N (s2.L ++ L0) := q2
        have z1 : EnOK a' N ((s1.L ++ s2.L) ++ L0) := by rw [List.append_assoc]; exact q1.join z2
        simpa [List.append_assoc] using z1
      refine ⟨SS C H0 h', fun _ hw2 => hw2.less .same hl, ?_⟩
      exact (next _ _ _ _ _ _ h' p1 p2 r1 r2 hl).all a' w' hen hinv
  · intro k s hs
    match k, hs with
    | 0, hs => simp at hs; subst hs; exact ⟨t1, ha, rfl, PH.le_refl _⟩
    | 1, hs => simp at hs; subst hs; exact ⟨t2, ha, rfl, PH.le_refl _⟩
  · intro k k' s s' hs hs' hne i hi
    match k, k', hs, hs' with
    | 0, 0, _, _ => exact absurd rfl hne
    | 0, 1, hs, hs' => simp at hs hs'; subst hs hs'; exact List.all_eq_true.1 ha12 i hi
    | 1, 0, hs, hs' => simp at hs hs'; subst hs hs'; exact List.all_eq_true.1 ha21 i hi
    | 1, 1, _, _ => exact absurd rfl hne
  · simpa using hw
/-- 3 threads. -/
theorem hd_par3m {T1 T2 T3 D1 D2 D3 : List Nat} (Post1 Post2 Post3 : En → List HE → PH → Prop) (ha12 : apartTs ops L0 T1 D2 = true) (ha13 : apartTs ops L0 T1 D3 = true) (ha21 : apartTs ops L0 T2 D1 = true) (ha23 : apartTs ops L0 T2 D3 = true) (ha31 : apartTs ops L0 T3 D1 = true) (ha32 : apartTs ops L0 T3 D2 = true) (t1 : TS P C N ops L0 D1 Post1 T1 [] [] h) (t2 : TS P C N ops L0 D2 Post2 T2 [] [] h) (t3 : TS P C N ops L0 D3 Post3 T3 [] [] h)
    (next : ∀ L1 H1 h1 L2 H2 h2 L3 H3 h3 h', Post1 L1 H1 h1 → Post2 L2 H2 h2 → Post3 L3 H3 h3 → h1.le h' → h2.le h' → h3.le h' → h.le h' → Hd C N (L1 ++ (L2 ++ (L3 ++ L0))) (H1 ++ (H2 ++ (H3 ++ H0))) h' (wpPn P ops R B r (SS C H0 h'))) :
    Hd C N L0 H0 h (wpPn P ops R B (.par [T1, T2, T3] :: r) (SS C H0 h)) := by
  refine ⟨fun a w ha hw => ?_⟩
  refine inter_sound (P := P) (ops := ops) (B := B) (N := N) (L0 := L0) (H0 := H0) (h0 := h) [Post1, Post2, Post3] ?_ _ [⟨T1, D1, [], [], h, Post1⟩, ⟨T2, D2, [], [], h, Post2⟩, ⟨T3, D3, [], [], h, Post3⟩] a w h rfl rfl ?_ ?_ (PH.le_refl _) ?_
  · intro sts a' w' h' hps hg hl hw'
    match sts, hps with
    | [s1, s2, s3], hps =>
      simp only [List.map_cons, List.map_nil, List.cons.injEq, and_true] at hps
      obtain ⟨e1, e2, e3⟩ := hps
      obtain ⟨p1, q1, r1⟩ := hg 0 s1 rfl
      rw [e1] at p1
      obtain ⟨p2, q2, r2⟩ := hg 1 s2 rfl
      rw [e2] at p2
      obtain ⟨p3, q3, r3⟩ := hg 2 s3 rfl
      rw [e3] at p3
      have hinv : Inv C (s1.H ++ (s2.H ++ (s3.H ++ H0))) h' w' := by simpa [List.append_assoc] using hw'
      have hen : EnOK a' N (s1.L ++ (s2.L ++ (s3.L ++ L0))) := by
        have z3 : EnOK a' N (s3.L ++ L0) := q3
        have z2 : EnOK a' N ((s2.L ++ s3.L) ++ L0) := by rw [List.append_assoc]; exact q2.join z3
        have z1 : EnOK a' N ((s1.L ++ (s2.L ++ s3.L)) ++ L0) := by rw [List.append_assoc]; exact q1.join z2
        simpa [List.append_assoc] using z1
      refine ⟨SS C H0 h', fun _ hw2 => hw2.less .same hl, ?_⟩
      exact (next _ _ _ _ _ _ _ _ _ h' p1 p2 p3 r1 r2 r3 hl).all a' w' hen hinv
  · intro k s hs
    match k, hs with
    | 0, hs => simp at hs; subst hs; exact ⟨t1, ha, rfl, PH.le_refl _⟩
    | 1, hs => simp at hs; subst hs; exact ⟨t2, ha, rfl, PH.le_refl _⟩
    | 2, hs => simp at hs; subst hs; exact ⟨t3, ha, rfl, PH.le_refl _⟩
  · intro k k' s s' hs hs' hne i hi
    match k, k', hs, hs' with
    | 0, 0, _, _ => exact absurd rfl hne
    | 0, 1, hs, hs' => simp at hs hs'; subst hs hs'; exact List.all_eq_true.1 ha12 i hi
    | 0, 2, hs, hs' => simp at hs hs'; subst hs hs'; exact List.all_eq_true.1 ha13 i hi
    | 1, 0, hs, hs' => simp at hs hs'; subst hs hs'; exact List.all_eq_true.1 ha21 i hi
    | 1, 1, _, _ => exact absurd rfl hne
    | 1, 2, hs, hs' => simp at hs hs'; subst hs hs'; exact List.all_eq_true.1 ha23 i hi
    | 2, 0, hs, hs' => simp at hs hs'; subst hs hs'; exact List.all_eq_true.1 ha31 i hi
    | 2, 1, hs, hs' => simp at hs hs'; subst hs hs'; exact List.all_eq_true.1 ha32 i hi
    | 2, 2, _, _ => exact absurd rfl hne
  · simpa using hw
/-- 4 threads. -/
theorem hd_par4m {T1 T2 T3 T4 D1 D2 D3 D4 : List Nat} (Post1 Post2 Post3 Post4 : En → List HE → PH → Prop) (ha12 : apartTs ops L0 T1 D2 = true) (ha13 : apartTs ops L0 T1 D3 = true) (ha14 : apartTs ops L0 T1 D4 = true) (ha21 : apartTs ops L0 T2 D1 = true) (ha23 : apartTs ops L0 T2 D3 = true) (ha24 : apartTs ops L0 T2 D4 = true) (ha31 : apartTs ops L0 T3 D1 = true) (ha32 : apartTs ops L0 T3 D2 = true) (ha34 : apartTs ops L0 T3 D4 = true) (ha41 : apartTs ops L0 T4 D1 = true) (ha42 : apartTs ops L0 T4 D2 = true) (ha43 : apartTs ops L0 T4 D3 = true) (t1 : TS P C N ops L0 D1 Post1 T1 [] [] h) (t2 : TS P C N ops L0 D2 Post2 T2 [] [] h) (t3 : TS P C N ops L0 D3 Post3 T3 [] [] h) (t4 : TS P C N ops L0 D4 Post4 T4 [] [] h)
    (next : ∀ L1 H1 h1 L2 H2 h2 L3 H3 h3 L4 H4 h4 h', Post1 L1 H1 h1 → Post2 L2 H2 h2 → Post3 L3 H3 h3 → Post4 L4 H4 h4 → h1.le h' → h2.le h' → h3.le h' → h4.le h' → h.le h' → Hd C N (L1 ++ (L2 ++ (L3 ++ (L4 ++ L0)))) (H1 ++ (H2 ++ (H3 ++ (H4 ++ H0)))) h' (wpPn P ops R B r (SS C H0 h'))) :
    Hd C N L0 H0 h (wpPn P ops R B (.par [T1, T2, T3, T4] :: r) (SS C H0 h)) := by
  refine ⟨fun a w ha hw => ?_⟩
  refine inter_sound (P := P) (ops := ops) (B := B) (N := N) (L0 := L0) (H0 := H0) (h0 := h) [Post1, Post2, Post3, Post4] ?_ _ [⟨T1, D1, [], [], h, Post1⟩, ⟨T2, D2, [], [], h, Post2⟩, ⟨T3, D3, [], [], h, Post3⟩, ⟨T4, D4, [], [], h, Post4⟩] a w h rfl rfl ?_ ?_ (PH.le_refl _) ?_
  · intro sts a' w' h' hps hg hl hw'
    match sts, hps with
    | [s1, s2, s3, s4], hps =>
      simp only [List.map_cons, List.map_nil, List.cons.injEq, and_true] at hps
      obtain ⟨e1, e2, e3, e4⟩ := hps
      obtain ⟨p1, q1, r1⟩ := hg 0 s1 rfl
      rw [e1] at p1
      obtain ⟨p2, q2, r2⟩ := hg 1 s2 rfl
      rw [e2] at p2
      obtain ⟨p3, q3, r3⟩ := hg 2 s3 rfl
      rw [e3] at p3
      obtain ⟨p4, q4, r4⟩ := hg 3 s4 rfl
      rw [e4] at p4
      have hinv : Inv C (s1.H ++ (s2.H ++ (s3.H ++ (s4.H ++ H0)))) h' w' := by simpa [List.append_assoc] using hw'
      have hen : EnOK a' N (s1.L ++ (s2.L ++ (s3.L ++ (s4.L ++ L0)))) := by
        have z4 : EnOK a' N (s4.L ++ L0) := q4
        have z3 : EnOK a' N ((s3.L ++ s4.L) ++ L0) := by rw [List.append_assoc]; exact q3.join z4
        have z2 : EnOK a' N ((s2.L ++ (s3.L ++ s4.L)) ++ L0) := by rw [List.append_assoc]; exact q2.join z3
        have z1 : EnOK a' N ((s1.L ++ (s2.L ++ (s3.L ++ s4.L))) ++ L0) := by rw [List.append_assoc]; exact q1.join z2
        simpa [List.append_assoc] using z1
      refine ⟨SS C H0 h', fun _ hw2 => hw2.less .same hl, ?_⟩
      exact (next _ _ _ _ _ _ _ _ _ _ _ _ h' p1 p2 p3 p4 r1 r2 r3 r4 hl).all a' w' hen hinv
  · intro k s hs
    match k, hs with
    | 0, hs => simp at hs; subst hs; exact ⟨t1, ha, rfl, PH.le_refl _⟩
    | 1, hs => simp at hs; subst hs; exact ⟨t2, ha, rfl, PH.le_refl _⟩
    | 2, hs => simp at hs; subst hs; exact ⟨t3, ha, rfl, PH.le_refl _⟩
    | 3, hs => simp at hs; subst hs; exact ⟨t4, ha, rfl, PH.le_refl _⟩
  · intro k k' s s' hs hs' hne i hi
    match k, k', hs, hs' with
    | 0, 0, _, _ => exact absurd rfl hne
    | 0, 1, hs, hs' => simp at hs hs'; subst hs hs'; exact List.all_eq_true.1 ha12 i hi
    | 0, 2, hs, hs' => simp at hs hs'; subst hs hs'; exact List.all_eq_true.1 ha13 i hi
    | 0, 3, hs, hs' => simp at hs hs'; subst hs hs'; exact List.all_eq_true.1 ha14 i hi
    | 1, 0, hs, hs' => simp at hs hs'; subst hs hs'; exact List.all_eq_true.1 ha21 i hi
    | 1, 1, _, _ => exact absurd rfl hne
    | 1, 2, hs, hs' => simp at hs hs'; subst hs hs'; exact List.all_eq_true.1 ha23 i hi
    | 1, 3, hs, hs' => simp at hs hs'; subst hs hs'; exact List.all_eq_true.1 ha24 i hi
    | 2, 0, hs, hs' => simp at hs hs'; subst hs hs'; exact List.all_eq_true.1 ha31 i hi
    | 2, 1, hs, hs' => simp at hs hs'; subst hs hs'; exact List.all_eq_true.1 ha32 i hi
    | 2, 2, _, _ => exact absurd rfl hne
    | 2, 3, hs, hs' => simp at hs hs'; subst hs hs'; exact List.all_eq_true.1 ha34 i hi
    | 3, 0, hs, hs' => simp at hs hs'; subst hs hs'; exact List.all_eq_true.1 ha41 i hi
    | 3, 1, hs, hs' => simp at hs hs'; subst hs hs'; exact List.all_eq_true.1 ha42 i hi
    | 3, 2, hs, hs' => simp at hs hs'; subst hs hs'; exact List.all_eq_true.1 ha43 i hi
    | 3, 3, _, _ => exact absurd rfl hne
  · simpa using hw
end
end Go.GV
