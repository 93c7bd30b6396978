/- Plans are checked on numbers: sets of operations and of slots as bits; over the small logic of GvA to GvW. -/
import Derived.Test.YtikkkfamflmgeaaGvW
namespace Go.GV
open Go

abbrev Row3 := Nat × Nat × Nat
def maskL (l : List Nat) : Nat := l.foldl (fun m k => m ||| (1 <<< k)) 0
theorem mask_fold (l : List Nat) (m k : Nat) : (l.foldl (fun m k => m ||| (1 <<< k)) m).testBit k = (m.testBit k || l.contains k) := by
  induction l generalizing m with
  | nil => simp
  | cons x l ih =>
    rw [List.foldl_cons, ih, Nat.testBit_or]
    have : (1 <<< x).testBit k = (k == x) := by
      rw [Nat.one_shiftLeft, Nat.testBit_two_pow]
      by_cases h : x = k
      · subst h; simp
      · simp [h, Ne.symm h]
    rw [this, List.contains_cons, Bool.or_assoc]
theorem mask_bit (l : List Nat) (k : Nat) : (maskL l).testBit k = l.contains k := by rw [maskL, mask_fold]; simp
def aftL (o : Oper) : List Nat := (o.after.toList.filter (Region.binds .any)).map (·.on)
def dstN (o : Oper) : Nat := match o.dst with | some d => d + 1 | none => 0
def rowOf (ops : Array Oper) (o : Oper) : Row3 := (maskL (aftL o), dstN o, maskL (o.looksAt ops))
def tableOf (l : List Oper) : List Row3 := l.map (rowOf l.toArray)
def readyR (m : Nat) (i : Nat) (r : Row3) : Bool := !m.testBit i && (r.1 &&& m == r.1)
def readyT (T : List Row3) (m : Nat) : List Nat := (List.range T.length).filter fun i => match T[i]? with | some r => readyR m i r | none => false
def apartR (x y : Row3) : Bool := (x.2.1 == 0 || (!(y.2.2.testBit (x.2.1 - 1)) && y.2.1 != x.2.1)) && (y.2.1 == 0 || !(x.2.2.testBit (y.2.1 - 1)))
def freeT (T : List Row3) (m i : Nat) : Bool :=
  match T[i]? with
  | none => false
  | some x => (List.range T.length).all fun j => j == i || m.testBit j || match T[j]? with
    | some y => y.1.testBit i || apartR x y
    | none => true
def waitsN (T : List Row3) (j i : Nat) : Bool := match T[j]? with | some r => r.1.testBit i | none => false
def waitsTT (T : List Row3) : Nat → Nat → Nat → Bool
  | 0, j, i => waitsN T j i
  | f + 1, j, i => waitsN T j i || (List.range T.length).any fun k => waitsN T j k && waitsTT T f k i
def parT (T : List Row3) (B U : List Nat) (next : Nat → Bool) : Nat → List (List Nat) → Nat → Bool
  | 0, _, m => next m
  | f + 1, ts, m => ((List.range ts.length).any fun k =>
    match ts[k]? with
    | some (i :: r) => B.contains i && U.contains i && (readyT T m).contains i && freeT T m i && parT T B U next f (ts.set k r) (m ||| (1 <<< i))
    | _ => false) ||
    (!(readyT T m).isEmpty && (readyT T m).all fun j => (List.range ts.length).any fun k =>
    match ts[k]? with
    | some (i :: r) => Nat.beq i j && parT T B U next f (ts.set k r) (m ||| (1 <<< j))
    | _ => false)
def planT (T : List Row3) (B U : List Nat) : List PI → Nat → Bool
  | [], m => (readyT T m).isEmpty
  | .one i true :: r, m => (readyT T m).contains i && freeT T m i && B.all (fun j => waitsTT T 6 j i && !Nat.beq i j) && planT T B U r (m ||| (1 <<< i))
  | .one i false :: r, m => decide (readyT T m = [i]) && planT T B U r (m ||| (1 <<< i))
  | .par ts :: r, m => parT T B U (planT T B U r) (total ts) ts m

/-- The same set, by bits and by an array. -/
structure Same (n : Nat) (listed : Array Bool) (m : Nat) : Prop where
  size : listed.size = n
  bit : ∀ j, listed.getD j false = m.testBit j
theorem Same.getD_true {n : Nat} {listed : Array Bool} {m : Nat} (h : Same n listed m) {j : Nat} (hj : j < n) : listed.getD j true = m.testBit j := by
  rw [← h.bit j]
  have : j < listed.size := by rw [h.size]; exact hj
  simp [Array.getD, this]
theorem Same.zero (n : Nat) : Same n (Array.replicate n false) 0 := ⟨by simp, fun j => by rw [getD_repl]; simp⟩
theorem Same.set {n : Nat} {listed : Array Bool} {m : Nat} (h : Same n listed m) {i : Nat} (hi : i < n) : Same n (listed.setIfInBounds i true) (m ||| (1 <<< i)) := by
  refine ⟨by simp [h.size], fun j => ?_⟩
  rw [Nat.testBit_or, ← h.bit j, Nat.one_shiftLeft, Nat.testBit_two_pow]
  by_cases hij : i = j
  · subst hij
    have : i < listed.size := by rw [h.size]; exact hi
    simp [Array.getD, this]
  · rw [getD_set_ne false hij]
    simp [hij]
section
variable {l : List Oper} {listed : Array Bool} {m : Nat}
theorem aft_contains (o : Oper) (i : Nat) : (aftL o).contains i = o.after.any (fun e => Region.binds .any e && e.on == i) := by
  rw [Bool.eq_iff_iff]
  simp only [aftL, List.contains_iff_mem, List.mem_map, List.mem_filter, Array.any_eq_true', Bool.and_eq_true, beq_iff_eq, Array.mem_toList_iff]
  exact ⟨fun ⟨e, ⟨h1, h2⟩, h3⟩ => ⟨e, h1, h2, h3⟩, fun ⟨e, h1, h2, h3⟩ => ⟨e, ⟨h1, h2⟩, h3⟩⟩
theorem and_sub (a m : Nat) : (a &&& m == a) = true ↔ ∀ k, a.testBit k = true → m.testBit k = true := by
  rw [beq_iff_eq]
  constructor
  · intro h k hk
    have := congrArg (fun x => x.testBit k) h
    simp only [Nat.testBit_and, hk, Bool.true_and] at this
    exact this
  · intro h
    apply Nat.eq_of_testBit_eq
    intro k
    rw [Nat.testBit_and]
    cases e : a.testBit k with
    | false => rfl
    | true => rw [h k e]; rfl
theorem ready_eq (hs : Same l.length listed m) : Region.ready .any l.toArray listed = readyT (tableOf l) m := by
  unfold Region.ready readyT
  have hlen : (tableOf l).length = l.toArray.size := by simp [tableOf]
  rw [hlen]
  apply List.filter_congr
  intro i hi
  have hi' : i < l.length := by simpa using hi
  rw [hs.getD_true hi']
  have e1 : l.toArray[i]? = some l[i] := by simp [hi']
  have e2 : (tableOf l)[i]? = some (rowOf l.toArray l[i]) := by simp [tableOf, hi']
  rw [e1, e2]
  simp only [Option.map_some, Option.getD_some, readyR, rowOf]
  congr 1
  rw [Bool.eq_iff_iff, and_sub]
  simp only [Array.all_eq_true', Bool.or_eq_true, Bool.not_eq_true', mask_bit]
  constructor
  · intro h k hk
    rw [aft_contains, Array.any_eq_true'] at hk
    obtain ⟨e, he, hb⟩ := hk
    simp only [Bool.and_eq_true, beq_iff_eq] at hb
    rcases h e he with h1 | h1
    · rw [hb.1] at h1; cases h1
    · rw [← hs.bit, ← hb.2]; exact h1
  · intro h e he
    cases hb : Region.binds .any e with
    | false => exact .inl rfl
    | true =>
      right
      rw [hs.bit]
      exact h e.on (by rw [aft_contains, Array.any_eq_true']; exact ⟨e, he, by simp [hb]⟩)
theorem apart_eq (ops : Array Oper) (x y : Oper) : x.apart ops y = apartR (rowOf ops x) (rowOf ops y) := by
  unfold Oper.apart apartR rowOf dstN
  simp only [mask_bit]
  cases hx : x.dst <;> cases hy : y.dst <;> simp
  rename_i d e
  have : (some e != some d) = (e != d) := by
    by_cases h : e = d
    · subst h; simp
    · simp [bne]
  rw [this]
theorem free_eq (hs : Same l.length listed m) (i : Nat) : Region.free .any l.toArray listed i = freeT (tableOf l) m i := by
  unfold Region.free freeT
  have hlen : (tableOf l).length = l.toArray.size := by simp [tableOf]
  rcases Nat.lt_or_ge i l.length with hi | hi
  · have e1 : l.toArray[i]? = some l[i] := by simp [hi]
    have e2 : (tableOf l)[i]? = some (rowOf l.toArray l[i]) := by simp [tableOf, hi]
    rw [e1, e2, hlen]
    rw [Bool.eq_iff_iff]
    simp only [List.all_eq_true, List.mem_range]
    refine forall_congr' fun j => forall_congr' fun hj => ?_
    have hj' : j < l.length := by simpa using hj
    have f1 : l.toArray[j]? = some l[j] := by simp [hj']
    have f2 : (tableOf l)[j]? = some (rowOf l.toArray l[j]) := by simp [tableOf, hj']
    rw [f1, f2, hs.getD_true hj']
    simp only
    rw [apart_eq, ← aft_contains, ← mask_bit]
    rfl
  · have e1 : l.toArray[i]? = none := by simp [hi]
    have e2 : (tableOf l)[i]? = none := by simp [tableOf, hi]
    rw [e1, e2]
theorem waits_eq (j i : Nat) : waits l.toArray j i = waitsN (tableOf l) j i := by
  unfold waits waitsN
  rcases Nat.lt_or_ge j l.length with hj | hj
  · have e1 : l.toArray[j]? = some l[j] := by simp [hj]
    have e2 : (tableOf l)[j]? = some (rowOf l.toArray l[j]) := by simp [tableOf, hj]
    rw [e1, e2]
    simp only [rowOf, mask_bit, aft_contains]
    congr 1
    funext e
    congr 1
    rw [Bool.eq_iff_iff]; simp
  · have e1 : l.toArray[j]? = none := by simp [hj]
    have e2 : (tableOf l)[j]? = none := by simp [tableOf, hj]
    rw [e1, e2]
theorem waitsT_eq : ∀ (f j i : Nat), waitsT l.toArray f j i = waitsTT (tableOf l) f j i
  | 0, j, i => waits_eq j i
  | f + 1, j, i => by
    have hlen : (tableOf l).length = l.toArray.size := by simp [tableOf]
    simp only [waitsT, waitsTT, waits_eq, hlen]
    congr 1
    congr 1
    funext k
    rw [waitsT_eq f k i]
theorem ready_lt {i : Nat} (h : i ∈ readyT (tableOf l) m) : i < l.length := by
  have := (List.mem_filter.1 h).1
  simpa [tableOf] using this
theorem par_imp {B U : List Nat} (hU : ∀ i ∈ U, easy l.toArray i = true) {next : Array Bool → Bool} {nextN : Nat → Bool} (hn : ∀ listed m, Same l.length listed m → nextN m = true → next listed = true) : ∀ (f : Nat) (ts : List (List Nat)) (listed : Array Bool) (m : Nat), Same l.length listed m → parT (tableOf l) B U nextN f ts m = true → parOK l.toArray B next f ts listed = true
  | 0, ts, listed, m, hs, h => hn listed m hs h
  | f + 1, ts, listed, m, hs, h => by
    simp only [parOK, parT, Bool.or_eq_true] at *
    rcases h with h | h
    · left
      simp only [List.any_eq_true] at *
      obtain ⟨k, hk, hh⟩ := h
      refine ⟨k, hk, ?_⟩
      split at hh
      · rename_i i r hts
        simp only [Bool.and_eq_true] at hh
        simp only [hts, Bool.and_eq_true, ready_eq hs, free_eq hs]
        obtain ⟨⟨⟨⟨h1, h2⟩, h3⟩, h4⟩, h5⟩ := hh
        exact ⟨⟨⟨⟨h1, hU i (by simpa using h2)⟩, h3⟩, h4⟩, par_imp hU hn f _ _ _ (hs.set (ready_lt (m := m) (by simpa using h3))) h5⟩
      · cases hh
    · right
      simp only [ready_eq hs, Bool.and_eq_true, List.all_eq_true, List.any_eq_true] at *
      refine ⟨h.1, fun j hj => ?_⟩
      obtain ⟨k, hk, hh⟩ := h.2 j hj
      refine ⟨k, hk, ?_⟩
      split at hh
      · rename_i i r hts
        simp only [Bool.and_eq_true] at hh
        simp only [hts, Bool.and_eq_true]
        exact ⟨hh.1, par_imp hU hn f _ _ _ (hs.set (ready_lt hj)) hh.2⟩
      · cases hh
theorem plan_eq (B U : List Nat) (hU : ∀ i ∈ U, easy l.toArray i = true) : ∀ (pl : List PI) (listed : Array Bool) (m : Nat), Same l.length listed m → planT (tableOf l) B U pl m = true → planOKn l.toArray B pl listed = true
  | [], listed, m, hs, h => by simp only [planOKn, planT, ready_eq hs] at *; exact h
  | .one i true :: r, listed, m, hs, h => by
    simp only [planOKn, planT, ready_eq hs, free_eq hs, waitsT_eq, Bool.and_eq_true] at *
    refine ⟨h.1, plan_eq B U hU r _ _ (hs.set (ready_lt (m := m) ?_)) h.2⟩
    simpa using h.1.1.1
  | .one i false :: r, listed, m, hs, h => by
    simp only [planOKn, planT, ready_eq hs, Bool.and_eq_true, decide_eq_true_eq] at *
    refine ⟨h.1, plan_eq B U hU r _ _ (hs.set (ready_lt (m := m) ?_)) h.2⟩
    rw [h.1]; simp
  | .par ts :: r, listed, m, hs, h => by
    simp only [planOKn, planT] at *
    refine par_imp (l := l) hU (fun listed m hs h => plan_eq B U hU r listed m hs h) _ _ _ _ hs h
end
section
variable {ρ : Option Nat} {P : Program} {C : Ctx} {N : Fr} {L : En} {H : List HE} {h : PH} {Q : Exit → Act → World → Prop}
theorem hd_planU {id : Nat} {l : List Oper} (T : List Row3) (B U : List Nat) (pl : List PI) (hm : P.follows .mixedOrders = true) (hs : Region.noSelect l.toArray = true) (hT : tableOf l = T) (hU : (U.all fun i => easy l.toArray i) = true) (hp : planT T B U pl 0 = true)
    (hn : Nat.beq (sizeN pl) l.length = true) (hx : Hd C N L H h (wpPn P l.toArray (Q .normal) B pl (SS C H h))) : Hd C N L H h (cw ρ P (Code.region id l.toArray true) Q) :=
  hd_planN B pl hm hs (plan_eq B U (fun i hi => List.all_eq_true.1 hU i hi) pl _ 0 (Same.zero _) (by rw [hT]; exact hp)) hn hx
theorem hd_planT {id : Nat} {l : List Oper} (T : List Row3) (B : List Nat) (pl : List PI) (hm : P.follows .mixedOrders = true) (hs : Region.noSelect l.toArray = true) (hT : tableOf l = T) (hp : planT T B [] pl 0 = true)
    (hn : Nat.beq (sizeN pl) l.length = true) (hx : Hd C N L H h (wpPn P l.toArray (Q .normal) B pl (SS C H h))) : Hd C N L H h (cw ρ P (Code.region id l.toArray true) Q) :=
  hd_planU T B [] pl hm hs hT rfl hp hn hx
end
end Go.GV
