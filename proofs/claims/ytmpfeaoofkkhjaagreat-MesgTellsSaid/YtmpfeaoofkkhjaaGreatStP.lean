/- Steps and scripts, in plain lists: which are right, what is written, what is read. -/
import Derived.Test.YtmpfeaoofkkhjaaGreatFWP
namespace Go.Proofs.YtmpfeaoofkkhjaaGreat
open Go Go.GV
attribute [local irreducible] cw Go.GV.SpecM Go.GV.wpList Exit.then Exit.inBlock Go.GV.bodyPost wpPl wpPm wpPn TS rnd rPost YieldsB wpPT ptK
set_option linter.unusedVariables false
set_option linter.unusedSimpArgs false
structure SD where
  kind : Int
  node : Int
  other : Int
  at_ : Int
  to_ : Int
  from_ : Int
  turns : Int
  filter : List Sp
  vals : List Int
  data : List Int
deriving DecidableEq
def SD.zero : SD := ⟨0, 0, 0, 0, 0, 0, 0, [], [], []⟩
def known (k : Int) : Bool := decide (1 ≤ k) && decide (k ≤ 13)
def hNode (k : Int) : Bool := decide (k = 1) || (decide (7 ≤ k) && decide (k ≤ 13))
def hOther (k : Int) : Bool := decide (k = 10)
def hAt (k : Int) : Bool := decide (2 ≤ k) && decide (k ≤ 6)
def hTo (k : Int) : Bool := decide (k = 6)
def hFrom (k : Int) : Bool := decide (k = 5)
def hFil (k : Int) : Bool := decide (k = 7)
def hVal (k : Int) : Bool := decide (k = 9)
/-- May a number be? -/
def fitB (there : Bool) (v most : Int) : Bool := decide (0 ≤ v) && decide (v ≤ if there then most else 0)
def stepOk (x : SD) : Bool := known x.kind && fitB (hNode x.kind) x.node 11 && fitB (hOther x.kind) x.other 11 && fitB (hAt x.kind) x.at_ 65535 && fitB (hTo x.kind) x.to_ 65535 && fitB (hFrom x.kind) x.from_ 65535 &&
  (hFrom x.kind || decide (x.turns = 0)) && fitB (hFil x.kind) x.filter.length 4 && fitB (hVal x.kind) x.vals.length 4 && fitB (hVal x.kind) x.data.length 64
/-- Its numbers are of their kinds. -/
structure SdR (x : SD) : Prop where
  kind : inR .u8 x.kind
  node : inR .u8 x.node
  other : inR .u8 x.other
  at_ : inR .i64 x.at_
  to_ : inR .i64 x.to_
  from_ : inR .i64 x.from_
  turns : inR .u32 x.turns
  filter : ∀ s ∈ x.filter, inR .i32 s.1 ∧ inR .i32 s.2
  vals : ∀ v ∈ x.vals, inR .i32 v
  data : B8 x.data
/-! ### Written -/
def putIf (there : Bool) (v : Int) (n : Nat) : List Int := if there then putB v n n else []
def wrSpans : List Sp → List Int
  | [] => []
  | s :: r => putB (s.1 + 2147483648) 4 4 ++ (putB (s.2 + 2147483648) 4 4 ++ wrSpans r)
def wrVals : List Int → List Int
  | [] => []
  | v :: r => putB (v + 2147483648) 4 4 ++ wrVals r
def wrText (there : Bool) (t : List Int) : List Int := if there then putT [] t else []
def wr (x : SD) : List Int := putIf true x.kind 1 ++ (putIf (hNode x.kind) x.node 1 ++ (putIf (hOther x.kind) x.other 1 ++ (putIf (hAt x.kind) x.at_ 2 ++ (putIf (hTo x.kind) x.to_ 2 ++ (putIf (hFrom x.kind) x.from_ 2 ++ (putIf (hFrom x.kind) x.turns 4 ++
  (putIf (hFil x.kind) x.filter.length 1 ++ (wrSpans x.filter ++ (putIf (hVal x.kind) x.vals.length 1 ++ (wrVals x.vals ++ wrText (hVal x.kind) x.data))))))))))
/-! ### Read -/
def rdN (there : Bool) (n : Nat) (b : List Int) : Option (Int × List Int) := if there then (if b.length < n then none else some (num (b.take n), b.drop n)) else some (0, b)
def rdSpans : Nat → List Int → Option (List Sp × List Int)
  | 0, b => some ([], b)
  | k + 1, b => (rdN true 4 b).bind fun p => (rdN true 4 p.2).bind fun q => (rdSpans k q.2).bind fun r => some ((p.1 - 2147483648, q.1 - 2147483648) :: r.1, r.2)
def rdVals : Nat → List Int → Option (List Int × List Int)
  | 0, b => some ([], b)
  | k + 1, b => (rdN true 4 b).bind fun p => (rdVals k p.2).bind fun r => some ((p.1 - 2147483648) :: r.1, r.2)
def rdText (there : Bool) (b : List Int) : Option (List Int × List Int) := if there then (if tkOk b 65535 then some (tkT b 65535, tkR b 65535) else none) else some ([], b)
def rd (b : List Int) : Option (SD × List Int) :=
  (rdN true 1 b).bind fun k => bif known k.1 then
    (rdN (hNode k.1) 1 k.2).bind fun nd => (rdN (hOther k.1) 1 nd.2).bind fun ot => (rdN (hAt k.1) 2 ot.2).bind fun a => (rdN (hTo k.1) 2 a.2).bind fun t => (rdN (hFrom k.1) 2 t.2).bind fun f => (rdN (hFrom k.1) 4 f.2).bind fun u =>
    (rdN (hFil k.1) 1 u.2).bind fun cf => (rdSpans cf.1.toNat cf.2).bind fun fl => (rdN (hVal k.1) 1 fl.2).bind fun cv => (rdVals cv.1.toNat cv.2).bind fun vs => (rdText (hVal k.1) vs.2).bind fun da =>
    some (⟨k.1, nd.1, ot.1, a.1, t.1, f.1, u.1, fl.1, vs.1, da.1⟩, da.2)
  else none
/-! ### There and back -/
theorem putB_one (x : Int) (h : 0 ≤ x ∧ x < 256) : putB x 1 1 = [x] := by
  simp [putB, List.range_succ]; omega
theorem rdN_put {t : Bool} {v : Int} {n : Nat} (r : List Int) (h1 : t = true → 0 ≤ v ∧ v < 256 ^ n) (h0 : t = false → v = 0) : rdN t n (putIf t v n ++ r) = some (v, r) := by
  cases t with
  | false => simp [rdN, putIf, h0 rfl]
  | true =>
    have hb := h1 rfl
    have e1 : (putB v n n ++ r).take n = putB v n n := by rw [List.take_append_of_le_length (by rw [putB_len]; omega), List.take_of_length_le (by rw [putB_len]; omega)]
    have e2 : (putB v n n ++ r).drop n = r := by rw [List.drop_append_of_le_length (by rw [putB_len]; omega), List.drop_of_length_le (by rw [putB_len]; omega), List.nil_append]
    simp only [rdN, putIf, if_true, List.length_append, putB_len]
    rw [if_neg (by omega), e1, e2, num_putB, Int.emod_eq_of_lt hb.1 hb.2]
theorem rdN_putB {v : Int} {n : Nat} (r : List Int) (h1 : 0 ≤ v ∧ v < 256 ^ n) : rdN true n (putB v n n ++ r) = some (v, r) := by
  have := rdN_put (t := true) (v := v) (n := n) r (fun _ => h1) (fun h => by cases h)
  simpa [putIf] using this
theorem rdN_inv {t : Bool} {n : Nat} {b : List Int} {v : Int} {r : List Int} (hb : B8 b) (h : rdN t n b = some (v, r)) : b = putIf t v n ++ r ∧ (t = true → 0 ≤ v ∧ v < 256 ^ n) ∧ (t = false → v = 0) ∧ B8 r := by
  cases t with
  | false =>
    simp only [rdN, Bool.false_eq_true, if_false, Option.some.injEq, Prod.mk.injEq] at h
    obtain ⟨rfl, rfl⟩ := h
    exact ⟨by simp [putIf], (fun h => by cases h), (fun _ => rfl), hb⟩
  | true =>
    simp only [rdN, if_true] at h
    split at h
    · cases h
    · rename_i hl
      simp only [Option.some.injEq, Prod.mk.injEq] at h
      obtain ⟨rfl, rfl⟩ := h
      have hlt := num_lt (hb.take n)
      have hlen : (b.take n).length = n := by simp; omega
      rw [hlen] at hlt
      refine ⟨?_, (fun _ => hlt), (fun h => by cases h), hb.drop n⟩
      have : putB (num (b.take n)) n n = b.take n := by
        rw [eq_num (putB_b8 _ _ _) (hb.take n) (by rw [putB_len, hlen]), num_putB, Int.emod_eq_of_lt hlt.1 hlt.2]
      simp only [putIf, if_true]
      rw [this, List.take_append_drop]
theorem rdSpans_inv : ∀ (k : Nat) (b : List Int) (l : List Sp) (r : List Int), B8 b → rdSpans k b = some (l, r) → b = wrSpans l ++ r ∧ l.length = k ∧ (∀ s ∈ l, inR .i32 s.1 ∧ inR .i32 s.2) ∧ B8 r
  | 0, b, l, r, hb, h => by
    simp only [rdSpans, Option.some.injEq, Prod.mk.injEq] at h
    obtain ⟨rfl, rfl⟩ := h
    exact ⟨rfl, rfl, by simp, hb⟩
  | k + 1, b, l, r, hb, h => by
    simp only [rdSpans, Option.bind_eq_some_iff, Prod.exists, Option.some.injEq, Prod.mk.injEq] at h
    obtain ⟨v, b1, h1, u, b2, h2, l', r', h3, rfl, rfl⟩ := h
    obtain ⟨e1, i1, _, hb1⟩ := rdN_inv hb h1
    obtain ⟨e2, i2, _, hb2⟩ := rdN_inv hb1 h2
    obtain ⟨e3, hl, hi, hb3⟩ := rdSpans_inv k b2 l' r' hb2 h3
    have j1 := i1 rfl
    have j2 := i2 rfl
    refine ⟨?_, by simp [hl], ?_, hb3⟩
    · simp only [wrSpans, List.append_assoc, Int.sub_add_cancel]
      rw [← e3]
      simp only [putIf, if_true] at e1 e2
      rw [← e2, ← e1]
    · intro s hs
      rcases List.mem_cons.1 hs with rfl | hs
      · exact ⟨⟨by omega, by omega⟩, ⟨by omega, by omega⟩⟩
      · exact hi s hs
theorem rdVals_inv : ∀ (k : Nat) (b : List Int) (l : List Int) (r : List Int), B8 b → rdVals k b = some (l, r) → b = wrVals l ++ r ∧ l.length = k ∧ (∀ s ∈ l, inR .i32 s) ∧ B8 r
  | 0, b, l, r, hb, h => by
    simp only [rdVals, Option.some.injEq, Prod.mk.injEq] at h
    obtain ⟨rfl, rfl⟩ := h
    exact ⟨rfl, rfl, by simp, hb⟩
  | k + 1, b, l, r, hb, h => by
    simp only [rdVals, Option.bind_eq_some_iff, Prod.exists, Option.some.injEq, Prod.mk.injEq] at h
    obtain ⟨v, b1, h1, l', r', h3, rfl, rfl⟩ := h
    obtain ⟨e1, i1, _, hb1⟩ := rdN_inv hb h1
    obtain ⟨e3, hl, hi, hb3⟩ := rdVals_inv k b1 l' r' hb1 h3
    have j1 := i1 rfl
    refine ⟨?_, by simp [hl], ?_, hb3⟩
    · simp only [wrVals, List.append_assoc, Int.sub_add_cancel]
      rw [← e3]
      simp only [putIf, if_true] at e1
      rw [← e1]
    · intro s hs
      rcases List.mem_cons.1 hs with rfl | hs
      · exact ⟨by omega, by omega⟩
      · exact hi s hs
theorem rdText_wr {t : Bool} {d : List Int} (r : List Int) (h1 : d.length ≤ 65535) (h0 : t = false → d = []) : rdText t (wrText t d ++ r) = some (d, r) := by
  cases t with
  | false => simp [rdText, wrText, h0 rfl]
  | true =>
    simp only [rdText, wrText, if_true]
    rw [text_ok h1 (by omega), text_text h1 (by omega), text_rest h1 (by omega)]
    rfl
theorem rdText_inv {t : Bool} {b d r : List Int} (hb : B8 b) (h : rdText t b = some (d, r)) : b = wrText t d ++ r ∧ (t = false → d = []) ∧ B8 d ∧ B8 r := by
  cases t with
  | false =>
    simp only [rdText, Bool.false_eq_true, if_false, Option.some.injEq, Prod.mk.injEq] at h
    obtain ⟨rfl, rfl⟩ := h
    exact ⟨by simp [wrText], fun _ => rfl, B8.nil, hb⟩
  | true =>
    simp only [rdText, if_true] at h
    split at h
    · rename_i hk
      simp only [Option.some.injEq, Prod.mk.injEq] at h
      obtain ⟨rfl, rfl⟩ := h
      exact ⟨by simp only [wrText, if_true]; exact (again_text hb hk).symm, (fun h => by cases h), tkT_b8 hb _, tkR_b8 hb _⟩
    · cases h
theorem rd_inv {b : List Int} {x : SD} {r : List Int} (hb : B8 b) (h : rd b = some (x, r)) : b = wr x ++ r ∧ SdR x ∧ B8 r ∧ known x.kind = true := by
  simp only [rd, Option.bind_eq_some_iff, Prod.exists] at h
  obtain ⟨k, b0, h0, h⟩ := h
  cases hk : known k with
  | false => simp [hk] at h
  | true =>
    simp only [hk, cond_true, Option.bind_eq_some_iff, Prod.exists, Option.some.injEq, Prod.mk.injEq] at h
    obtain ⟨nd, b1, h1, ot, b2, h2, a, b3, h3, t, b4, h4, f, b5, h5, u, b6, h6, cf, b7, h7, fl, b8, h8, cv, b9, h9, vs, b10, h10, da, b11, h11, rfl, rfl⟩ := h
    obtain ⟨e0, i0, _, g0⟩ := rdN_inv hb h0
    obtain ⟨e1, i1, j1, g1⟩ := rdN_inv g0 h1
    obtain ⟨e2, i2, j2, g2⟩ := rdN_inv g1 h2
    obtain ⟨e3, i3, j3, g3⟩ := rdN_inv g2 h3
    obtain ⟨e4, i4, j4, g4⟩ := rdN_inv g3 h4
    obtain ⟨e5, i5, j5, g5⟩ := rdN_inv g4 h5
    obtain ⟨e6, i6, j6, g6⟩ := rdN_inv g5 h6
    obtain ⟨e7, i7, j7, g7⟩ := rdN_inv g6 h7
    obtain ⟨e8, l8, i8, g8⟩ := rdSpans_inv _ _ _ _ g7 h8
    obtain ⟨e9, i9, j9, g9⟩ := rdN_inv g8 h9
    obtain ⟨e10, l10, i10, g10⟩ := rdVals_inv _ _ _ _ g9 h10
    obtain ⟨e11, j11, i11, g11⟩ := rdText_inv g10 h11
    have c7 : ((fl.length : Nat) : Int) = cf := by
      rw [l8]
      cases e : hFil k with
      | true => have := i7 e; omega
      | false => have := j7 e; omega
    have c9 : ((vs.length : Nat) : Int) = cv := by
      rw [l10]
      cases e : hVal k with
      | true => have := i9 e; omega
      | false => have := j9 e; omega
    refine ⟨?_, ⟨?_, ?_, ?_, ?_, ?_, ?_, ?_, i8, i10, i11⟩, g11, hk⟩
    · simp only [wr, List.append_assoc]
      rw [c7, c9, ← e11, ← e10, ← e9, ← e8, ← e7, ← e6, ← e5, ← e4, ← e3, ← e2, ← e1, ← e0]
    · have := i0 rfl
      exact ⟨by simp only; omega, by simp only; omega⟩
    · cases e : hNode k with
      | true => have := i1 e; exact ⟨by simp only; omega, by simp only; omega⟩
      | false => have := j1 e; subst this; simp [inR]
    · cases e : hOther k with
      | true => have := i2 e; exact ⟨by simp only; omega, by simp only; omega⟩
      | false => have := j2 e; subst this; simp [inR]
    · cases e : hAt k with
      | true => have := i3 e; exact ⟨by simp only; omega, by simp only; omega⟩
      | false => have := j3 e; subst this; simp [inR]
    · cases e : hTo k with
      | true => have := i4 e; exact ⟨by simp only; omega, by simp only; omega⟩
      | false => have := j4 e; subst this; simp [inR]
    · cases e : hFrom k with
      | true => have := i5 e; exact ⟨by simp only; omega, by simp only; omega⟩
      | false => have := j5 e; subst this; simp [inR]
    · cases e : hFrom k with
      | true => have := i6 e; exact ⟨by simp only; omega, by simp only; omega⟩
      | false => have := j6 e; subst this; simp [inR]
theorem wr_pos (x : SD) : 0 < (wr x).length := by simp [wr, putIf, putB_len]; omega
theorem rd_len {b : List Int} {x : SD} {r : List Int} (hb : B8 b) (h : rd b = some (x, r)) : r.length < b.length := by
  have e := (rd_inv hb h).1
  have := wr_pos x
  rw [e, List.length_append]; omega
/-! ### Scripts -/
def wrs (l : List SD) : List Int := (l.map wr).flatten
def bytesOf (l : List SD) : List Int × Int := if l.all stepOk then (wrs l, 0) else ([], 280)
/-- What is yielded: steps, or one error behind them. -/
def ylds : Nat → List Int → List (SD × Int)
  | 0, _ => []
  | n + 1, b => if b = [] then [] else match rd b with
    | none => [(SD.zero, 10)]
    | some (x, r) => if stepOk x then (x, 0) :: ylds n r else [(SD.zero, 280)]
def fin : List SD → List (SD × Int) → List SD × Int
  | acc, [] => (acc, 0)
  | acc, (x, e) :: ys => if e = 0 then fin (acc ++ [x]) ys else ([], e)
def parse (b : List Int) : List SD × Int := fin [] (ylds b.length b)
def comb (acc : List SD) (p : List SD × Int) : List SD × Int := if p.2 = 0 then (acc ++ p.1, 0) else ([], p.2)
end Go.Proofs.YtmpfeaoofkkhjaaGreat
