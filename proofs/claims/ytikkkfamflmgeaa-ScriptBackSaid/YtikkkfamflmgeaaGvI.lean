/- Calls that are handed private blocks (closures with captured variables, methods on local variables), over the small logic of GvA to GvH. -/
import Derived.Test.YtikkkfamflmgeaaGvH
namespace Go.GV
open Go

theorem Pick.back {H H' : List HE} {e : HE} (hp : Pick H e H') : ∀ {l : List Blk}, Ents (e :: H') l → ∃ l', Ents H l' ∧ l.Perm l' := by
  induction hp with
  | here => exact fun he => ⟨_, he, .refl _⟩
  | there hh ih =>
    rintro l ⟨m1, m2, rfl, he1, l1, m3, rfl, hx, he2⟩
    obtain ⟨l', he', hpm⟩ := ih ⟨m1, m3, rfl, he1, he2⟩
    refine ⟨l1 ++ l', ⟨l1, l', rfl, hx, he'⟩, ?_⟩
    refine List.Perm.trans ?_ (List.Perm.append_left l1 hpm)
    rw [← List.append_assoc, ← List.append_assoc]
    exact List.Perm.append_right m3 List.perm_append_comm
theorem Inv.unpick {C : Ctx} {H H' : List HE} {e : HE} {h : PH} {w : World} (hp : Pick H e H') (hw : Inv C (e :: H') h w) : Inv C H h w := by
  obtain ⟨l, he, hs, hc⟩ := hw
  obtain ⟨l', he', hpm⟩ := hp.back he
  exact ⟨l', he', hs.perm hpm, hc.perm hpm⟩
/-- 'H' is 'Hi' and 'Hf', in some order. -/
inductive Split : List HE → List HE → List HE → Prop
  | nil {H : List HE} : Split H [] H
  | cons {H H1 Hi Hf : List HE} {e : HE} (hp : Pick H e H1) (hs : Split H1 Hi Hf) : Split H (e :: Hi) Hf
theorem pick_mid {e : HE} {B : List HE} : ∀ A : List HE, Pick (A ++ e :: B) e (A ++ B)
  | [] => .here
  | _ :: A => .there (pick_mid A)
theorem Split.ents {H Hi Hf : List HE} (hs : Split H Hi Hf) : ∀ {l : List Blk}, Ents H l → ∃ l', Ents (Hi ++ Hf) l' ∧ l.Perm l' := by
  induction hs with
  | nil => exact fun he => ⟨_, he, .refl _⟩
  | cons hp _ ih =>
    intro l he
    obtain ⟨l1, ⟨m1, m2, rfl, h1, h2⟩, hpm⟩ := hp.ents he
    obtain ⟨l2, h3, hpm2⟩ := ih h2
    exact ⟨m1 ++ l2, ⟨m1, l2, rfl, h1, h3⟩, hpm.trans (List.Perm.append_left m1 hpm2)⟩
theorem Split.back {H Hi Hf : List HE} (hs : Split H Hi Hf) : ∀ {l : List Blk}, Ents (Hi ++ Hf) l → ∃ l', Ents H l' ∧ l.Perm l' := by
  induction hs with
  | nil => exact fun he => ⟨_, he, .refl _⟩
  | cons hp _ ih =>
    rintro l ⟨m1, m2, rfl, h1, h2⟩
    obtain ⟨l2, h3, hpm2⟩ := ih h2
    obtain ⟨l3, h4, hpm3⟩ := hp.back (l := m1 ++ l2) ⟨m1, l2, rfl, h1, h3⟩
    exact ⟨l3, h4, (List.Perm.append_left m1 hpm2).trans hpm3⟩
theorem Inv.split {C : Ctx} {H Hi Hf : List HE} {h : PH} {w : World} (hs : Split H Hi Hf) (hw : Inv C H h w) : Inv C (Hi ++ Hf) h w := by
  obtain ⟨l, he, h1, h2⟩ := hw
  obtain ⟨l', he', hp⟩ := hs.ents he
  exact ⟨l', he', h1.perm hp, h2.perm hp⟩
theorem Inv.join {C : Ctx} {H Hi Hf : List HE} {h : PH} {w : World} (hs : Split H Hi Hf) (hw : Inv C (Hi ++ Hf) h w) : Inv C H h w := by
  obtain ⟨l, he, h1, h2⟩ := hw
  obtain ⟨l', he', hp⟩ := hs.back he
  exact ⟨l', he', h1.perm hp, h2.perm hp⟩

/-- A call that reads private blocks and yields one value. -/
def DetB (P : Program) (f : FuncId) (args : Array Value) (h : PH) (Hi : List HE) (v : Value) : Prop := SpecM P f args h Hi fun v' _ Ho => v' = v ∧ Ho = Hi

section
variable {ρ : Option Nat} {P : Program} {C : Ctx} {N : Fr} {L : En} {H : List HE} {h : PH} {dst : Option Tmp} {ty : TypeId} {pos : String} {after : Array Edge} {gd : Option (Nat × Bool)}
variable {ops : Array Oper} {o : Oper} {rest : List Oper} {Q : Exit → Act → World → Prop}

theorem od_callB {x : Operand} {xs : List Operand} {at_ : Array TypeId} {f : FuncId} {cs vs as : List Value} {v : Value} {Hi Hf : List HE} (hx : Ev L x (.func (.func f) #[] cs.toArray)) (hf : TFn P f) (hxs : Evs L xs vs) (has : Nf (vs ++ cs) as)
    (hd : DetB P f as.toArray h Hi v) (hsp : Split H Hi Hf) : OD P C ⟨dst, .call ⟨.value x, xs.toArray, at_⟩, ty, pos, after, gd⟩ L H h v := by
  refine ⟨fun a ha w hw => ?_⟩
  have e1 := ha x (by simp [Op.operands, Call.operands]) _ hx
  have e2 := hxs.map (ρ := a.eval) (fun y hy => ha y (by simp [Op.operands, Call.operands, hy]))
  have := run_call (P := P) (dst := dst) (ty := ty) (pos := pos) (after := after) (gd := gd) (at_ := at_) (fs := []) e1 e2 w
  unfold Oper.quietAt
  rw [this]
  refine ⟨rfl, ?_⟩
  simp only [List.nil_append]
  rw [has.eq]
  have hle := hw.le0
  obtain ⟨l, he, hs, hc⟩ := hw.split hsp
  obtain ⟨li, lf, rfl, hei, hef⟩ := ents_append.1 he
  have hsi : Sep w h li := by
    have hnd := hs.nodup
    rw [List.map_append, List.nodup_append] at hnd
    exact ⟨hnd.1, fun b o hm => hs.mem b o (List.mem_append_left _ hm), hs.pub, fun b o hm => hs.sep b o (List.mem_append_left _ hm)⟩
  refine (hd w li hei hsi).mono ?_
  rintro e w' ⟨v', h', Ho, rfl, ⟨rfl, rfl⟩, hi⟩
  refine ⟨rfl, ?_⟩
  have hn := Inv.call hei hef hs hc hi
  exact (hn.less (Inv.le0 hi) hle).join hsp
theorem Inv.fewer {w : World} {H0 : List HE} (hm : More H0 H) (hw : Inv C H h w) : Inv C H0 h w := by
  induction hm with
  | same => exact hw
  | one _ ih => exact ih hw.drop1
theorem hd_resB {fn : Func} {n : Nat} {Post : Value → PH → List HE → Prop} {rs : List ResultVar} {vs : List Value} {e : Exit} {H0 : List HE} (he : e = .ret ∨ e = .normal) (hr : fn.results = rs.toArray) (hv : Res P L H rs vs) (hm : More H0 H)
    (hp : Post (ofVs vs) h H0) : Hd C ⟨n, []⟩ L H h (bodyPost P fn (PostR C Post) e) :=
  hd_res he hr hv fun _ hw => ⟨h, H0, hp, hw.fewer hm⟩
end
end Go.GV
