/- Descriptors in plain lists: which is newer, what is known of all nodes; their cells. -/
import Derived.Test.YtddhljoglhfhdaaFArg
namespace Go.Proofs.Ytddhljoglhfhdaa
open Go Go.GV
attribute [local irreducible] cw Go.GV.SpecM Go.GV.wpList Exit.then Exit.inBlock Go.GV.bodyPost wpPl wpPm wpPn TS rnd rPost YieldsB wpPT ptK
set_option maxRecDepth 10000
set_option linter.unusedVariables false
set_option linter.unusedSimpArgs false
structure DD where
  node : Int
  inc : Int
  age : Int
  filter : List Sp
deriving DecidableEq
def DD.zero : DD := ⟨0, 0, 0, []⟩
/-- Its numbers are of their kinds. -/
structure DdR (x : DD) : Prop where
  node : inR .u8 x.node
  inc : inR .u16 x.inc
  age : inR .u8 x.age
  filter : ∀ s ∈ x.filter, inR .i32 s.1 ∧ inR .i32 s.2
def rDescP := rPair (rInt .u8) (rPair (rInt .u16) (rPair (rInt .u8) (rSl rSpan)))
def rDesc : Rp DD := rMap rDescP fun x => (x.node, x.inc, x.age, x.filter)
theorem rDesc_sz : rDesc.sz = 4 := rfl
theorem rDesc_ok {h : PH} {cs : List Value} {x : DD} (hh : rDesc.ok h cs x) : ∃ p n c, cs = [.int .u8 x.node, .int .u16 x.inc, .int .u8 x.age, .slice p n c] ∧ DdR x ∧ SlS h p n c x.filter := by
  obtain ⟨_, _, rfl, ⟨rfl, h0⟩, _, _, rfl, ⟨rfl, h1⟩, _, _, rfl, ⟨rfl, h2⟩, p, n, c, rfl, h3⟩ := hh
  exact ⟨p, n, c, rfl, ⟨h0, h1, h2, SlS_in h3⟩, h3⟩
theorem rDesc_mk {h : PH} {x : DD} {p : Option Addr} {n c : Nat} (hx : DdR x) (h3 : SlS h p n c x.filter) : rDesc.ok h [.int .u8 x.node, .int .u16 x.inc, .int .u8 x.age, .slice p n c] x :=
  ⟨[_], _, rfl, ⟨rfl, hx.node⟩, [_], _, rfl, ⟨rfl, hx.inc⟩, [_], _, rfl, ⟨rfl, hx.age⟩, p, n, c, rfl, h3⟩
/-- A value that is a descriptor. -/
def VDs (h : PH) (v : Value) (x : DD) : Prop := ∃ p n c, v = .agg #[.int .u8 x.node, .int .u16 x.inc, .int .u8 x.age, .slice p n c] ∧ DdR x ∧ SlS h p n c x.filter
theorem VDs.mono {h h' : PH} {v : Value} {x : DD} (hv : VDs h v x) (hl : h.le h') : VDs h' v x := by
  obtain ⟨p, n, c, rfl, a1, a2⟩ := hv
  exact ⟨p, n, c, rfl, a1, a2.mono hl⟩
theorem VDs.of {h : PH} {x : DD} {p : Option Addr} {n c : Nat} (hx : DdR x) (h3 : SlS h p n c x.filter) : VDs h (.agg #[.int .u8 x.node, .int .u16 x.inc, .int .u8 x.age, .slice p n c]) x := ⟨p, n, c, rfl, hx, h3⟩
theorem VDs.ofR {h : PH} {x : DD} {cs : List Value} (hh : rDesc.ok h cs x) : VDs h (.agg cs.toArray) x := by
  obtain ⟨p, n, c, rfl, h1, h2⟩ := rDesc_ok hh
  exact ⟨p, n, c, rfl, h1, h2⟩
abbrev SlD := SlR rDesc
abbrev SlDs := SlR (rSl rDesc)
def VDl (h : PH) (v : Value) (xs : List DD) : Prop := ∃ p n c, v = .slice p n c ∧ SlD h p n c xs
theorem SlD_at {h : PH} {p : Option Addr} {n c : Nat} {xs : List DD} (hs : SlD h p n c xs) {i : Nat} {x : DD} (hx : xs[i]? = some x) : ∃ p1 n1 c1, Pub h (pb p) (po p + i * 4) [.int .u8 x.node, .int .u16 x.inc, .int .u8 x.age, .slice p1 n1 c1] ∧ DdR x ∧ SlS h p1 n1 c1 x.filter ∧ p = some ⟨pb p, po p, none⟩ := by
  obtain ⟨cs, h1, h2, h3⟩ := hs.at hx
  obtain ⟨p1, n1, c1, rfl, h4, h5⟩ := rDesc_ok h2
  exact ⟨p1, n1, c1, h1, h4, h5, h3⟩
theorem SlD_in {h : PH} {p : Option Addr} {n c : Nat} {xs : List DD} (hs : SlD h p n c xs) : ∀ x ∈ xs, DdR x := fun x hx => by
  obtain ⟨css, _, h2⟩ := hs
  obtain ⟨a, ha⟩ := h2.mem x hx
  obtain ⟨_, _, _, _, h, _⟩ := rDesc_ok ha
  exact h
theorem SlDs_at {h : PH} {p : Option Addr} {n c : Nat} {xs : List (List DD)} (hs : SlDs h p n c xs) {i : Nat} {x : List DD} (hx : xs[i]? = some x) : ∃ p1 n1 c1, Pub h (pb p) (po p + i * 1) [.slice p1 n1 c1] ∧ SlD h p1 n1 c1 x ∧ p = some ⟨pb p, po p, none⟩ := by
  obtain ⟨cs, h1, ⟨p1, n1, c1, rfl, h4⟩, h3⟩ := hs.at hx
  exact ⟨p1, n1, c1, h1, h4, h3⟩
/-! ### Newer; what is known of all -/
def newer (a b : DD) : Bool := if a.inc ≠ b.inc then decide (a.inc > b.inc) else decide (a.age < b.age)
/-- May a descriptor be taken ahead of what is there? -/
def over (d t : DD) : Bool := decide (t.inc = 0) || newer d t
def skip (self : Int) (d : DD) : Bool := decide (d.node = self) || decide (d.inc = 0)
def put (self : Int) (tab : List DD) (d : DD) : List DD := if skip self d then tab else if over d (tab.getD d.node.toNat DD.zero) then tab.set d.node.toNat d else tab
def table (self : Int) (ds : List DD) : List DD := ds.foldl (put self) (List.replicate 256 DD.zero)
def union (self : Int) (ds : List DD) : List DD := (table self ds).filter fun d => decide (0 < d.inc)
theorem put_len (self : Int) (tab : List DD) (d : DD) : (put self tab d).length = tab.length := by unfold put; split; rfl; split <;> simp
theorem foldl_len (self : Int) : ∀ (ds tab : List DD), (ds.foldl (put self) tab).length = tab.length
  | [], _ => rfl
  | d :: ds, tab => by rw [List.foldl_cons, foldl_len self ds, put_len]
theorem table_len (self : Int) (ds : List DD) : (table self ds).length = 256 := by simp [table, foldl_len]
theorem put_R {self : Int} {tab : List DD} {d : DD} (ht : ∀ x ∈ tab, DdR x) (hd : DdR d) : ∀ x ∈ put self tab d, DdR x := by
  unfold put
  split
  · exact ht
  · split
    · intro x hx
      rcases List.mem_or_eq_of_mem_set hx with hx | hx
      · exact ht x hx
      · rw [hx]; exact hd
    · exact ht
theorem zero_R : DdR DD.zero := ⟨by simp [DD.zero, inR], by simp [DD.zero, inR], by simp [DD.zero, inR], by simp [DD.zero]⟩
theorem fold_R {self : Int} : ∀ {ds tab : List DD}, (∀ x ∈ tab, DdR x) → (∀ x ∈ ds, DdR x) → ∀ x ∈ ds.foldl (put self) tab, DdR x
  | [], _, ht, _ => ht
  | d :: ds, tab, ht, hd => by rw [List.foldl_cons]; exact fold_R (put_R ht (hd d (by simp))) (fun x hx => hd x (by simp [hx]))
theorem table_R {self : Int} {ds : List DD} (hd : ∀ x ∈ ds, DdR x) : ∀ x ∈ table self ds, DdR x := fold_R (fun x hx => by rw [List.eq_of_mem_replicate hx]; exact zero_R) hd
theorem union_R {self : Int} {ds : List DD} (hd : ∀ x ∈ ds, DdR x) : ∀ x ∈ union self ds, DdR x := fun x hx => table_R hd x (List.mem_filter.1 hx).1
/-- The best that is known of one node. -/
def best (self n : Int) (b d : DD) : DD := if d.node = n && (!skip self d) && over d b then d else b
theorem put_at {self : Int} {tab : List DD} {d : DD} (hd : DdR d) (hl : tab.length = 256) {n : Nat} (hn : n < 256) : (put self tab d).getD n DD.zero = best self n (tab.getD n DD.zero) d := by
  have h1 := hd.node
  simp only [inR] at h1
  unfold put best
  cases hs : skip self d with
  | true => simp
  | false =>
    simp only [Bool.false_eq_true, if_false, Bool.not_false, Bool.and_true]
    by_cases he : d.node = n
    · have e1 : d.node.toNat = n := by omega
      rw [e1]
      cases ho : over d (tab.getD n DD.zero) with
      | false => simp only [Bool.false_eq_true, if_false, Bool.and_false]
      | true =>
        simp only [if_true, he, decide_true, Bool.and_true]
        rw [List.getD_eq_getElem?_getD, List.getElem?_set_self (by omega)]; rfl
    · have e1 : d.node.toNat ≠ n := by omega
      cases ho : over d (tab.getD d.node.toNat DD.zero) with
      | false => simp only [Bool.false_eq_true, if_false, he, decide_false, Bool.false_and]
      | true =>
        simp only [if_true, he, decide_false, Bool.false_and, Bool.false_eq_true, if_false, List.getD_eq_getElem?_getD]
        rw [List.getElem?_set_ne e1]
theorem fold_at {self : Int} {n : Nat} (hn : n < 256) : ∀ {ds tab : List DD}, (∀ x ∈ ds, DdR x) → tab.length = 256 → (ds.foldl (put self) tab).getD n DD.zero = ds.foldl (best self n) (tab.getD n DD.zero)
  | [], _, _, _ => rfl
  | d :: ds, tab, hd, hl => by
    rw [List.foldl_cons, List.foldl_cons, fold_at hn (fun x hx => hd x (by simp [hx])) (by rw [put_len, hl]), put_at (hd d (by simp)) hl hn]
theorem table_at {self : Int} {ds : List DD} (hd : ∀ x ∈ ds, DdR x) {n : Nat} (hn : n < 256) : (table self ds).getD n DD.zero = ds.foldl (best self n) DD.zero := by
  unfold table
  rw [fold_at hn hd (by simp), List.getD_eq_getElem?_getD, List.getElem?_replicate, if_pos hn]; rfl
theorem table_eq {self : Int} {ds : List DD} (hd : ∀ x ∈ ds, DdR x) : table self ds = (List.range 256).map fun n => ds.foldl (best self (n : Nat)) DD.zero := by
  apply List.ext_getElem
  · simp [table_len]
  · intro i h1 h2
    have hi : i < 256 := by rw [table_len] at h1; exact h1
    have := table_at (self := self) hd hi
    rw [List.getD_eq_getElem?_getD, List.getElem?_eq_getElem h1] at this
    simp at this
    simp [this]
def unionR (self : Int) (ds : List DD) : List DD := ((List.range 256).map fun n => ds.foldl (best self (n : Nat)) DD.zero).filter fun d => decide (0 < d.inc)
theorem union_eq {self : Int} {ds : List DD} (hd : ∀ x ∈ ds, DdR x) : union self ds = unionR self ds := by unfold union unionR; rw [table_eq hd]
/-! ### What is in a union -/
theorem best_node {self n : Int} : ∀ {ds : List DD} {b : DD}, (b.inc = 0 ∨ (b.node = n ∧ b.node ≠ self)) → ((ds.foldl (best self n) b).inc = 0 ∨ ((ds.foldl (best self n) b).node = n ∧ (ds.foldl (best self n) b).node ≠ self))
  | [], _, h => h
  | d :: ds, b, h => by
    rw [List.foldl_cons]
    refine best_node ?_
    unfold best
    split
    · rename_i hc
      simp only [Bool.and_eq_true, decide_eq_true_eq, Bool.not_eq_true', skip, Bool.or_eq_false_iff, decide_eq_false_iff_not] at hc
      right; exact ⟨hc.1.1, hc.1.2.1⟩
    · exact h
theorem best_mem {self n : Int} : ∀ {ds : List DD} {b : DD}, ds.foldl (best self n) b = b ∨ ds.foldl (best self n) b ∈ ds
  | [], _ => .inl rfl
  | d :: ds, b => by
    rw [List.foldl_cons]
    rcases best_mem (self := self) (n := n) (ds := ds) (b := best self n b d) with h | h
    · rw [h]
      unfold best
      split
      · right; simp
      · left; rfl
    · right; simp [h]
/-- The row by rising nodes. -/
theorem unionR_rising (self : Int) (ds : List DD) : (unionR self ds).Pairwise fun a b => a.node < b.node := by
  unfold unionR
  rw [List.pairwise_filter, List.pairwise_map]
  refine List.Pairwise.imp_of_mem ?_ (List.pairwise_lt_range (n := 256))
  intro a b _ _ hab h1 h2
  simp only [decide_eq_true_eq] at h1 h2
  have e1 := best_node (self := self) (n := (a : Int)) (ds := ds) (b := DD.zero) (.inl rfl)
  have e2 := best_node (self := self) (n := (b : Int)) (ds := ds) (b := DD.zero) (.inl rfl)
  omega
theorem unionR_mem {self : Int} {ds : List DD} {x : DD} (hx : x ∈ unionR self ds) : x ∈ ds ∧ 0 < x.inc ∧ x.node ≠ self := by
  unfold unionR at hx
  rw [List.mem_filter, List.mem_map] at hx
  obtain ⟨⟨n, hn, rfl⟩, h2⟩ := hx
  simp only [decide_eq_true_eq] at h2
  have e1 := best_node (self := self) (n := (n : Int)) (ds := ds) (b := DD.zero) (.inl rfl)
  have e2 := best_mem (self := self) (n := (n : Int)) (ds := ds) (b := DD.zero)
  refine ⟨?_, h2, ?_⟩
  · rcases e2 with e | e
    · rw [e] at h2; simp [DD.zero] at h2
    · exact e
  · rcases e1 with e | e
    · omega
    · exact e.2
end Go.Proofs.Ytddhljoglhfhdaa
