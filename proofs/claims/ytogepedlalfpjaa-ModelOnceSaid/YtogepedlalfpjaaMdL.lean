/- Appending to full shared slices; slices beside nil. -/
import Derived.Test.YtogepedlalfpjaaLe
set_option linter.unusedVariables false
set_option linter.unusedSimpArgs false
namespace Go.GV
open Go
section
variable {P : Program} {C : Ctx} {N : Fr} {L : En} {H H' : List HE} {h : PH} {ty : TypeId} {pos : String} {after : Array Edge}
variable {ops : Array Oper} {rest : List Oper} {Q : Exit → Act → World → Prop} {w : World} {p : Option Addr} {n c sz : Nat} {e : TypeId} {xs : List Value}
/-- Appending where there is no room: a new row. -/
theorem Inv.appendF {t t' ty : TypeId} {bt : Nat} {z : List Value} [TEl P t e sz bt] [TZero P e z] (ht' : ∃ e', P.underlying t' = some (.slice e')) (hz : z.length = sz) {q : Option Addr} {m d : Nat} {ys : List Value}
    (hw : Inv C H h w) (ho : SrcW w p n sz xs) (hs : SrcW w q m sz ys) (hroom : c < n + m) (hb : (n + m) * bt ≤ 140737488355328) (hm : n + m ≤ 9223372036854775807) :
    ∃ p' c' w', (Builtin.append_ #[t, t'] ty #[.slice p n c, .slice q m d]).run P w = .ok (.slice p' (n + m) c') w' ∧ Inv C (row p' (n + m) c' e sz (xs ++ ys) :: H) h w' := by
  obtain ⟨cap, sp, hc1, hsp, hrun⟩ := run_append_grow (P := P) (t := t) (t' := t') (ty := ty) (d := d) (c := c) ht' ho hs hroom hb hm hz
  refine ⟨_, cap, _, hrun, ?_⟩
  have h1 := ho.1
  have h2 := hs.1
  have hal := hw.drawn.alloc (xs ++ ys ++ sp) e
  have hle : (n + m) * sz ≤ cap * sz := Nat.mul_le_mul_right _ hc1
  refine Inv.box_row (by simp [h1, h2, Nat.add_mul]) hc1 ?_ hal
  rw [Nat.sub_mul] at hsp
  simp only [List.length_append, h1, h2, hsp]
  rw [Nat.add_mul] at hle ⊢
  omega
theorem hd_appendF {d : Nat} {x y : Operand} {t t' e' : TypeId} {bt : Nat} {z : List Value} [TEl P t e sz bt] [TSl P t' e'] [TZero P e z] {q : Option Addr} {m k : Nat} {ys : List Value} (hx : Ev L x (.slice p n c)) (hy : Ev L y (.slice q m k)) (ho : Src H h p n sz xs)
    (hs : Src H h q m sz ys) (hroom : c < n + m) (hz : z.length = sz) (hb : (n + m) * bt ≤ 140737488355328) (hm : n + m ≤ 9223372036854775807) (hN : Nat.blt d N.n = true)
    (next : ∀ p' c', Hd C N ((d, [], .slice p' (n + m) c') :: L) (row p' (n + m) c' e sz (xs ++ ys) :: H) h (wpList P ops Q rest)) :
    Hd C N L H h (wpList P ops Q (⟨some d, .call ⟨.builtin .append, #[x, y], #[t, t']⟩, ty, pos, after, none⟩ :: rest)) := by
  refine ⟨fun a w ha hw => ?_⟩
  obtain ⟨p', c', w', hrun, hi⟩ := Inv.appendF (P := P) (t := t) (t' := t') (ty := ty) (d := k) (c := c) ⟨e', TSl.eq⟩ hz hw (ho.w hw) (hs.w hw) hroom hb hm
  simp only [wpList]
  rw [if_pos (by simp [Region.wanted])]
  unfold opw
  rw [run_builtin (hx.eval ha) (hy.eval ha) hrun]
  refine (next p' c').all _ _ ?_ hi
  have := ha.put (g := []) (v := .slice p' (n + m) c') (d := d) (by simpa using hN)
  simpa [G, satB] using this
theorem equalIn_nil {el : TypeId} (w : World) (d : Nat) (t : TypeId) (hu : P.underlying t = some (.slice el)) : (Op.equalIn (d + 1) t (.slice p n c) (.slice none 0 0)).run P w = .ok p.isNone w := by
  cases p <;> simp [Op.equalIn, run_underlying hu]
theorem od_eqnil {dst : Option Tmp} {gd : Option (Nat × Bool)} {t t' el : TypeId} [TSl P t el] {x : Operand} (hx : Ev L x (.slice p n c)) : OP P C ⟨dst, .binOp .eql t x (.const (.slice none 0 0)) t', ty, pos, after, gd⟩ L H h (.bool p.isNone) :=
  od_pure fun ρ w hρ _ => by
    have e1 := hρ x (by simp [Op.operands]) _ hx
    have e2 := hρ (.const (.slice none 0 0)) (by simp [Op.operands]) (.slice none 0 0) ⟨[], rfl, trivial⟩
    have hu := TSl.eq (P := P) (t := t)
    have hb : binOp .eql t (.slice p n c) (.slice none 0 0) = (do pure (.bool (← Op.equal t (.slice p n c) (.slice none 0 0)))) := rfl
    have hr := equalIn_nil (P := P) (p := p) (n := n) (c := c) w 9999 t hu
    simp only [execOp, e1, e2, hb, Op.equal, Op.maxDepth]
    simp [eqGuard, hr]
/-- A contract's private blocks are turned. -/
theorem SpecM.turnN {f : FuncId} {args : Array Value} {Hi : List HE} {A B : Value → PH → List HE → Prop} (s : SpecM P f args h Hi A) (ab : ∀ C v h' Ho w, C.h0 = h → A v h' Ho → Inv C Ho h' w → ∃ h2 H2, B v h2 H2 ∧ Inv C H2 h2 w) : SpecM P f args h Hi B := fun w l hl hs =>
  (s w l hl hs).mono fun e w' ⟨v, h', Ho, he, ha, hi⟩ => by
    obtain ⟨h2, H2, hb, hi2⟩ := ab _ v h' Ho w' rfl ha hi
    exact ⟨v, h2, H2, he, hb, hi2⟩
/-- A private block is taken to the front. -/
theorem hd_front {R : Act → World → Prop} {e : HE} (hpk : Pick H e H') (next : Hd C N L (e :: H') h R) : Hd C N L H h R := hd_inv (fun _ hw => hw.pick hpk) next
/-- Drawn orders in which the first two private blocks may change. -/
theorem hd_planY {ρ : Option Nat} {H0 : List HE} {e1 e2 : HE} {id : Nat} {l : List Oper} (T : List Row3) (B : List Nat) (pl : List PI) (hm : P.follows .mixedOrders = true) (hs : Region.noSelect l.toArray = true) (hT : tableOf l = T) (hp : planT T B [] pl 0 = true)
    (hn : Nat.beq (sizeN pl) l.length = true) (hx : Hd C N L (e1 :: e2 :: H0) h (wpPn P l.toArray (Q .normal) B pl (SS C H0 h))) : Hd C N L (e1 :: e2 :: H0) h (cw ρ P (Code.region id l.toArray true) Q) :=
  ⟨fun a _ ha hw => wp_planN hm hs (plan_eq B [] (fun i hi => by cases hi) pl _ 0 (Same.zero _) (by rw [hT]; exact hp)) hn (hx.all a _ ha hw.drawn)⟩
end
end Go.GV
