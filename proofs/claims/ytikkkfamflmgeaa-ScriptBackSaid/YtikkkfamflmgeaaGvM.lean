/- Loops by a list of slots, sums by 'or'; over the small logic of GvA to GvL. -/
import Derived.Test.YtikkkfamflmgeaaGvL
namespace Go.GV
open Go

inductive Sub (L : En) : En → Prop
  | nil : Sub L []
  | cons {s : Nat} {g : List (Bool × Bool)} {v v' : Value} {r : En} (hl : look L s = some (g, v')) (hv : v' = v) (hh : Sub L r) : Sub L ((s, g, v) :: r)
theorem Sub.look {L L' : En} (hs : Sub L L') : ∀ {s : Nat} {g : List (Bool × Bool)} {v : Value}, look L' s = some (g, v) → look L s = some (g, v) := by
  induction hs with
  | nil => intro s g v e; simp [GV.look] at e
  | cons hl hv _ ih =>
    intro s g v e
    rw [look_put] at e
    split at e
    · rename_i e1; subst e1; simp at e; rw [← e.1, ← e.2, ← hv]; exact hl
    · exact ih e
theorem Sub.ok {L L' : En} (hs : Sub L L') {a : Act} {N : Fr} (ha : EnOK a N L) : EnOK a N L' := ⟨ha.size, ha.defers, fun _ _ _ e => ha.at_ _ _ _ (hs.look e)⟩

section
variable {ρ : Option Nat} {P : Program} {C : Ctx} {N : Fr} {L : En} {H H' : List HE} {h : PH} {dst : Option Tmp} {ty : TypeId} {pos : String} {after : Array Edge} {gd : Option (Nat × Bool)}
variable {ops : Array Oper} {o : Oper} {rest : List Oper} {Q : Exit → Act → World → Prop}

theorem hd_loopS {c : Code} {ι : Type} (I : ι → Prop) (LL : ι → En) (HH : ι → List HE) (hh : ι → PH) (μ : ι → Nat) (i0 : ι) (h0 : I i0) (hL : Sub L (LL i0)) (hH : ∀ w, Inv C H h w → Inv C (HH i0) (hh i0) w)
    (round : ∀ i, I i → Hd C N (LL i) (HH i) (hh i) (cw ρ P c (Exit.then (fun a w => ∃ j, I j ∧ μ j < μ i ∧ EnOK a N (LL j) ∧ Inv C (HH j) (hh j) w) Q))) : Hd C N L H h (cw ρ P (Code.loop c) Q) :=
  hd_loop I LL HH hh μ i0 h0 (fun _ w ha hw => ⟨hL.ok ha, hH w hw⟩) round
theorem hd_again {ι : Type} {I : ι → Prop} {LL : ι → En} {HH : ι → List HE} {hh : ι → PH} {μ : ι → Nat} {m : Nat} (j : ι) (hI : I j) (hm : μ j < m) (hL : Sub L (LL j)) (hH : ∀ w, Inv C H h w → Inv C (HH j) (hh j) w) :
    Hd C N L H h (fun a w => ∃ j, I j ∧ μ j < m ∧ EnOK a N (LL j) ∧ Inv C (HH j) (hh j) w) :=
  ⟨fun _ w ha hw => ⟨j, hI, hm, hL.ok ha, hH w hw⟩⟩
theorem hd_condT {c : Operand} {x y : Code} {t : Bool} (hc : Ev L c (.bool t)) (he : t = true) (ht : Hd C N L H h (cw ρ P x Q)) : Hd C N L H h (cw ρ P (Code.cond c x y) Q) := hd_cond hc (fun _ => ht) (fun e => by rw [he] at e; cases e)
theorem hd_condF {c : Operand} {x y : Code} {t : Bool} (hc : Ev L c (.bool t)) (he : t = false) (hf : Hd C N L H h (cw ρ P y Q)) : Hd C N L H h (cw ρ P (Code.cond c x y) Q) := hd_cond hc (fun e => by rw [he] at e; cases e) (fun _ => hf)
theorem hd_split {R : Act → World → Prop} (c : Bool) (ht : c = true → Hd C N L H h R) (hf : c = false → Hd C N L H h R) : Hd C N L H h R := by
  cases c with
  | true => exact ht rfl
  | false => exact hf rfl
theorem od_load_one0 {t : TypeId} {x : Operand} {b off : Nat} {cs : List Value} {v : Value} [TI P t 1 false] (hx : Ev L x (.pointer (some ⟨b, off, none⟩))) (hp : Pub h b off (v :: cs)) :
    OP P C ⟨dst, .load t x, ty, pos, after, gd⟩ L H h v := od_load_onep (k := 0) hx hp rfl rfl
/-- Results, and rows handed out. -/
theorem hd_resR {fn : Func} {n : Nat} {Post : Value → PH → List HE → Prop} {rs : List ResultVar} {vs : List Value} {e : Exit} (he : e = .ret ∨ e = .normal) (hr : fn.results = rs.toArray) (hv : Res P L H rs vs)
    (hp : Post (ofVs vs) h H) : Hd C ⟨n, []⟩ L H h (bodyPost P fn (PostR C Post) e) :=
  hd_res he hr hv fun _ hw => ⟨h, H, hp, hw⟩
theorem od_shlR {t t' : TypeId} {x y : Operand} {k k' : IntKind} {a b : Int} {n : Nat} (hx : Ev L x (.int k a)) (hy : Ev L y (.int k' b)) (hb : b = (n : Int)) (hn : n ≤ k.bits) (hr : inR k (a * 2 ^ n)) :
    OP P C ⟨dst, .binOp .shl t x y t', ty, pos, after, gd⟩ L H h (.int k (a * 2 ^ n)) := by
  have := od_shl (P := P) (C := C) (L := L) (H := H) (h := h) (dst := dst) (ty := ty) (pos := pos) (after := after) (gd := gd) (t := t) (t' := t') hx hy hb hn
  rwa [wrap_inR hr] at this
theorem or_low {a b m : Nat} (hb : b < 2 ^ m) : (a * 2 ^ m) ||| b = a * 2 ^ m + b := by
  rw [Nat.mul_comm]
  exact (Nat.two_pow_add_eq_or_of_lt hb a).symm
theorem od_orlow {t t' : TypeId} {x y : Operand} {k : IntKind} {a b : Int} (m : Nat) (hx : Ev L x (.int k (a * 2 ^ m))) (hy : Ev L y (.int k b)) (h0 : 0 ≤ a) (hb0 : 0 ≤ b) (hb : b < 2 ^ m) (hr : inR k (a * 2 ^ m + b)) :
    OP P C ⟨dst, .binOp .or t x y t', ty, pos, after, gd⟩ L H h (.int k (a * 2 ^ m + b)) := by
  refine od_bin hx hy ?_
  obtain ⟨a', rfl⟩ := Int.eq_ofNat_of_zero_le h0
  obtain ⟨b', rfl⟩ := Int.eq_ofNat_of_zero_le hb0
  have hb' : b' < 2 ^ m := by exact_mod_cast hb
  have e1 : ((a' : Int) * 2 ^ m) = ((a' * 2 ^ m : Nat) : Int) := by push_cast; rfl
  have e2 : ((a' : Int) * 2 ^ m + b') = ((a' * 2 ^ m + b' : Nat) : Int) := by push_cast; rfl
  have hor := or_low (a := a') hb'
  rw [e2] at hr ⊢
  rw [e1]
  generalize a' * 2 ^ m = A at hor hr ⊢
  have key : ∀ w : Nat, A + b' < 2 ^ w → (BitVec.ofInt w (A : Int) ||| BitVec.ofInt w (b' : Int)).toNat = A + b' := by
    intro w hw
    rw [BitVec.toNat_or]
    simp only [BitVec.ofInt_natCast, BitVec.toNat_ofNat]
    rw [Nat.mod_eq_of_lt (by omega), Nat.mod_eq_of_lt (by omega), hor]
  simp only [bi]
  rw [key k.bits (by cases k <;> simp only [inR, IntKind.bits] at hr ⊢ <;> omega), wrap_inR hr]
theorem od_andlow {t t' : TypeId} {x y : Operand} {k : IntKind} {a b : Int} (m : Nat) (hx : Ev L x (.int k a)) (hy : Ev L y (.int k b)) (hb : b = 2 ^ m - 1) (h0 : 0 ≤ a) (hra : inR k a) (hrb : inR k b) :
    OP P C ⟨dst, .binOp .and t x y t', ty, pos, after, gd⟩ L H h (.int k (a % 2 ^ m)) := by
  refine od_bin hx hy ?_
  obtain ⟨a', rfl⟩ := Int.eq_ofNat_of_zero_le h0
  have hpos : (0 : Nat) < 2 ^ m := Nat.pow_pos (by omega)
  have hb' : b = ((2 ^ m - 1 : Nat) : Int) := by rw [hb]; push_cast [Nat.one_le_two_pow]; rfl
  have e2 : ((a' : Int) % 2 ^ m) = ((a' % 2 ^ m : Nat) : Int) := by push_cast; rfl
  subst hb'
  have hle : a' % 2 ^ m ≤ a' := Nat.mod_le _ _
  have hr : inR k ((a' % 2 ^ m : Nat) : Int) := by cases k <;> simp only [inR] at hra ⊢ <;> omega
  rw [e2]
  have hor : a' &&& (2 ^ m - 1) = a' % 2 ^ m := Nat.and_two_pow_sub_one_eq_mod a' m
  generalize 2 ^ m - 1 = M at *
  have key : ∀ w : Nat, a' < 2 ^ w → M < 2 ^ w → (BitVec.ofInt w (a' : Int) &&& BitVec.ofInt w (M : Int)).toNat = a' % 2 ^ m := by
    intro w h1 h2
    rw [BitVec.toNat_and]
    simp only [BitVec.ofInt_natCast, BitVec.toNat_ofNat]
    rw [Nat.mod_eq_of_lt h1, Nat.mod_eq_of_lt h2, hor]
  simp only [bi]
  rw [key k.bits (by cases k <;> simp only [inR, IntKind.bits] at hra ⊢ <;> omega) (by cases k <;> simp only [inR, IntKind.bits] at hrb ⊢ <;> omega), wrap_inR hr]
end
end Go.GV
