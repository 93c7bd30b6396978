/- How many lives there are, and of which incarnations. -/
import Derived.Test.YtogepedlalfpjaaMdY
namespace Go.Proofs.Ytogepedlalfpjaa
open Go Go.GV
attribute [local irreducible] cw Go.GV.SpecM Go.GV.wpList Exit.then Exit.inBlock Go.GV.bodyPost wpPl wpPm wpPn TS rnd rPost YieldsB wpPT ptK
set_option linter.unusedVariables false
set_option linter.unusedSimpArgs false
theorem doS_len (s : SvD) (d : DeD) : (doS s d).lives.length = s.lives.length := by
  unfold doS
  split
  · rfl
  · split
    · rfl
    · simp [effS]
theorem runD_len (ds : List DeD) : ∀ s : SvD, (runD s ds).lives.length = s.lives.length := by
  induction ds with
  | nil => intro s; rfl
  | cons d ds ih => intro s; exact (ih (doS s d)).trans (doS_len s d)
theorem doS_schema (s : SvD) (d : DeD) : (doS s d).schema = s.schema := by
  unfold doS
  split
  · rfl
  · split <;> rfl
theorem runD_schema (ds : List DeD) : ∀ s : SvD, (runD s ds).schema = s.schema := by
  induction ds with
  | nil => intro s; rfl
  | cons d ds ih => intro s; exact (ih (doS s d)).trans (doS_schema s d)
/-- Incarnations are few. -/
def IncL (k : Nat) (s : SvD) : Prop := ∀ x ∈ s.lives, 0 ≤ x.inc ∧ x.inc ≤ k
theorem doS_inc {k : Nat} {s : SvD} {d : DeD} (hs : IncL k s) : IncL (k + 1) (doS s d) := by
  have hw : IncL (k + 1) s := fun x hx => by have := hs x hx; omega
  unfold doS
  split
  · exact hw
  · split
    · exact hw
    · rename_i x hx
      intro y hy
      simp only [effS] at hy
      rcases List.mem_or_eq_of_mem_set hy with h1 | h1
      · exact hw y h1
      · subst h1
        have := hs x (List.mem_of_getElem? hx)
        unfold nextL
        split
        · simp only; omega
        · split
          · simp only; omega
          · split
            · simp only; omega
            · split <;> (try simp only) <;> omega
theorem runD_inc {nodes last : Int} {sc : List Sp} : ∀ (ds : List DeD), IncL ds.length (runD (newS nodes sc last) ds) := by
  suffices H : ∀ (ds : List DeD) (k : Nat) (s : SvD), IncL k s → IncL (k + ds.length) (runD s ds) by
    intro ds
    have := H ds 0 (newS nodes sc last) (fun x hx => by simp only [newS] at hx; rw [List.eq_of_mem_replicate hx]; simp [LD.zero])
    rwa [Nat.zero_add] at this
  intro ds
  induction ds with
  | nil => intro k s hs; exact hs
  | cons d ds ih =>
    intro k s hs
    have := ih (k + 1) (doS s d) (doS_inc hs)
    rw [List.length_cons, show k + (ds.length + 1) = k + 1 + ds.length by omega]
    exact this
theorem od_remE {P : Program} {C : Ctx} {L : En} {H : List HE} {h : PH} {dst : Option Tmp} {ty : TypeId} {pos : String} {after : Array Edge} {gd : Option (Nat × Bool)} {t t' : TypeId} {x y : Operand} {k : IntKind} {a b c : Int} (hx : Ev L x (.int k a)) (hy : Ev L y (.int k b)) (h0 : 0 ≤ a) (h1 : 0 < b) (hc : a % b = c) :
    OP P C ⟨dst, .binOp .rem t x y t', ty, pos, after, gd⟩ L H h (.int k c) := by
  subst hc
  exact od_rem hx hy h0 h1
theorem may_at {a : SvP} {dv : Value} {s : SvD} {d : DeD} {k : Nat} {c : Bool} (h : PH) (hva : VSvP h a s) (hd : VDe h dv d) (hB : SvB k s) (hDB : DeB d) (hk : k ≤ 1000000) (e1 : decide (doE s d = 0) = c) :
    Det Try.prog 22 #[.agg #[.slice a.pl a.nl a.cl, .slice a.ps a.ns a.cs, .int .u32 s.last, .slice a.pe a.ne a.ce, .slice a.pg a.ng a.cg], dv] h (.bool c) := by
  subst e1
  exact model_May h hva.v hd hB hDB hk
theorem DoP_at {a : SvP} {dv : Value} {s s' : SvD} {d : DeD} {k : Nat} {i : IDt} {e : Int} (h : PH) (hva : VSvP h a s) (hd : VDe h dv d) (hB : SvB k s) (hDB : DeB d) (hk : k ≤ 1000000) (e1 : doE s d = e) (e2 : doS s d = s') (e3 : doI s d = i) :
    SpecM Try.prog 13 #[.agg #[.slice a.pl a.nl a.cl, .slice a.ps a.ns a.cs, .int .u32 s.last, .slice a.pe a.ne a.ce, .slice a.pg a.ng a.cg], dv] h [] fun r h' Ho => ∃ (b : SvP) (css : List (List Value)), r = .tuple #[.agg #[.slice b.pl b.nl b.cl, .slice b.ps b.ns b.cs, .int .u32 s'.last, .slice b.pe b.ne b.ce, .slice b.pg b.ng b.cg], .agg #[.int .u8 i.1, .int .u16 i.2.1, .int .u32 i.2.2], .int .i64 e] ∧ Ho = [row b.pl b.nl b.cl 38 4 css.flatten] ∧
      (All2 (rLife.ok h') css s'.lives ∧ s'.lives.length = b.nl) ∧ SlS h' b.ps b.ns b.cs s'.schema ∧ inR .u32 s'.last ∧ SlE h' b.pe b.ne b.ce s'.events ∧ SlG h' b.pg b.ng b.cg s'.given := by
  subst e1 e2 e3
  refine (model_DoP h hva.v hd hB hDB hk).mono ?_
  rintro r h' Ho ⟨css, pL, nL, cL, pS, nS, cS, pE, nE, cE, pG, nG, cG, rfl, rfl, ⟨hL, lL⟩, hS, hla, hE, hG⟩
  exact ⟨⟨pL, nL, cL, pS, nS, cS, pE, nE, cE, pG, nG, cG⟩, css, rfl, rfl, ⟨All2.rmono hL (PH.new_le _ _), lL⟩, SlR.old hS, hla, SlR.old hE, SlR.old hG⟩
theorem dd_DB {w n : Int} {id : IDt} : DeB (dd w n [] [] id) := ⟨by simp [dd], by simp [dd], by simp [dd]⟩
theorem dd_V {w n : Int} {id : IDt} (h : PH) (hw : inR .u8 w) (hn : inR .u8 n) (hi : IdR id) : VDe h (.agg #[.int .u8 w, .int .u8 n, .slice none 0 0, .int .u8 0, .int .u16 0, .int .u32 0, .slice none 0 0, .slice none 0 0, .int .u8 id.1, .int .u16 id.2.1, .int .u32 id.2.2]) (dd w n [] [] id) :=
  ⟨_, _, _, _, _, _, _, _, _, rfl, ⟨hw, hn, ⟨by simp [inR, dd], by simp [inR, dd], by simp [inR, dd]⟩, hi⟩, SlR.nil _ _, SlR.nil _ _, SlR.nil _ _⟩
theorem dd_V0 {w n : Int} (h : PH) (hw : inR .u8 w) (hn : inR .u8 n) : VDe h (.agg #[.int .u8 w, .int .u8 n, .slice none 0 0, .int .u8 0, .int .u16 0, .int .u32 0, .slice none 0 0, .slice none 0 0, .int .u8 0, .int .u16 0, .int .u32 0]) (dd w n [] [] (0, 0, 0)) := dd_V (id := (0, 0, 0)) h hw hn ⟨by simp [inR], by simp [inR], by simp [inR]⟩
theorem doS_ok {s : SvD} {d : DeD} {x : LD} (he : doE s d = 0) (hx : s.lives[d.node.toNat]? = some x) : doS s d = effS s x d ∧ doI s d = effId x d := by
  unfold doS doI
  rw [if_neg (by rw [he]; decide), if_neg (by rw [he]; decide), hx]
  exact ⟨rfl, rfl⟩
theorem dd_at {s : SvD} {x : LD} {w : Int} {k : Nat} {id : IDt} (hx : s.lives[k]? = some x) : s.lives[(dd w k [] [] id).node.toNat]? = some x := by simpa [dd] using hx
theorem doE_at {s : SvD} {d : DeD} {x : LD} (hk : kn d = true) (hx : s.lives[d.node.toNat]? = some x) : doE s d = refE s x d := by simp [doE, hk, hx]
end Go.Proofs.Ytogepedlalfpjaa
