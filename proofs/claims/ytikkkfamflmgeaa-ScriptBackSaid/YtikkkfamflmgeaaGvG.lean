/- From a row's readings to the small logic: what a readable argument is, cell by cell; from a contract to the row's walk. -/
import Derived.Test.YtikkkfamflmgeaaGvF
import Derived.ProofKit
import Derived.OpenShut
import Derived.ChangeOld
import Derived.Below
import Derived.Carry
namespace Go.GV
open Go Go.RowKit Go.ChangeShapes Go.WideShapes

/-- These cells read as a value of type t. -/
def Rd {X : Type} (enc : TypeId × Value → X) (P : Program) (W : World) (t : TypeId) (cs : List Value) : Prop := ∃ fuel x, DataW.trod enc P W 0 (fun _ => true) true fuel t cs = some x
theorem Rd.of {X : Type} {enc : TypeId × Value → X} {P : Program} {W : World} {t : TypeId} {v : Value} {d : DataW X} {p : List MemPlace} (hh : DataW.Trod enc P W 0 (fun _ => true) true t v d p) : Rd enc P W t v.cells.toList := by
  obtain ⟨fuel, hf⟩ := hh
  exact ⟨fuel, _, hf⟩
section
variable {X : Type} {enc : TypeId × Value → X} {P : Program} {W : World}
theorem inR_of_wf {k : IntKind} {n : Int} (hw : (Lit.int k n).wf = true) : inR k n := by
  simp only [Lit.wf, Bool.and_eq_true, decide_eq_true_eq] at hw
  cases k <;> simp only [IntKind.min, IntKind.max, IntKind.signed, IntKind.bits] at hw <;> simp only [inR] <;> simpa using hw
theorem rd_int {t : TypeId} {k : IntKind} [TInt P t k] {cs : List Value} (hh : Rd enc P W t cs) : ∃ n, cs = [.int k n] ∧ inR k n := by
  obtain ⟨fuel, x, hf⟩ := hh
  obtain ⟨n, e, _, hw⟩ := DataW.trod_int (TInt.eq (P := P) (t := t)) hf
  exact ⟨n, e, inR_of_wf hw⟩
theorem rd_bool {t : TypeId} [TBool P t] {cs : List Value} (hh : Rd enc P W t cs) : ∃ b, cs = [.bool b] := by
  obtain ⟨fuel, x, hf⟩ := hh
  obtain ⟨b, e, _⟩ := DataW.trod_bool (TBool.eq (P := P) (t := t)) hf
  exact ⟨b, e⟩
theorem rd_field {s : TypeId} {f off n : Nat} {ft : TypeId} {g : Bool} [TFd P s f off ft] [TI P ft n g] {cs : List Value} (hh : Rd enc P W s cs) : Rd enc P W ft ((cs.drop off).take n) := by
  obtain ⟨fuel, x, hf⟩ := hh
  have hq := TFd.eq (P := P) (s := s) (f := f)
  cases hu : P.underlying s with
  | none => simp [hu] at hq
  | some d =>
    rw [hu] at hq
    cases d with
    | struct fs =>
      simp only [Option.map_eq_some_iff, Prod.mk.injEq] at hq
      obtain ⟨fd, hfd, rfl, rfl⟩ := hq
      obtain ⟨xs, m, _, _, _, hl, hall⟩ := DataW.trod_struct hu hf
      have h1 := hall f fd hfd
      have hsz : P.cellsOf fd.type = n := by
        have := TI.sz (P := P) (t := fd.type) (size := n)
        simp [Program.cellsOf, this]
      rw [hsz] at h1
      have hlt : f < xs.length := by rw [hl]; exact (Array.getElem?_eq_some_iff.1 hfd).1
      rw [List.getElem?_eq_getElem hlt] at h1
      exact ⟨m, _, h1⟩
    | _ => simp at hq
theorem rd_len {s : TypeId} {n : Nat} [TStruct P s] [TI P s n true] {cs : List Value} (hh : Rd enc P W s cs) : cs.length = n := by
  obtain ⟨fuel, x, hf⟩ := hh
  have hst := TStruct.eq (P := P) (s := s)
  cases hu : P.underlying s with
  | none => simp [hu] at hst
  | some d =>
    rw [hu] at hst
    cases d with
    | struct fs =>
      obtain ⟨xs, m, _, _, hc, _⟩ := DataW.trod_struct hu hf
      have := TI.sz (P := P) (t := s) (size := n)
      rw [hc]; simp [Program.cellsOf, this]
    | _ => simp at hst
/-- A struct by value. -/
theorem ok_struct {s : TypeId} [TStruct P s] {r : Reach} {b : Nat} {v : Value} (hv : Value.okWide P W r b s v) : ∃ cs : List Value, v = .agg cs.toArray := by
  have hst := TStruct.eq (P := P) (s := s)
  cases hu : P.underlying s with
  | none => simp [hu] at hst
  | some d =>
    rw [hu] at hst
    cases d with
    | struct fs =>
      obtain ⟨cs, e, _⟩ := okWide_struct hu hv
      exact ⟨cs.toList, by simpa using e⟩
    | _ => simp at hst
theorem ok_int {t : TypeId} {k : IntKind} [TInt P t k] {v : Value} {d : DataW X} {p : List MemPlace} {r : Reach} {b : Nat} (hv : Value.okWide P W r b t v) (hh : DataW.Trod enc P W 0 (fun _ => true) true t v d p) : ∃ n, v = .int k n ∧ inR k n := by
  obtain ⟨n, rfl⟩ := okWide_int (TInt.eq (P := P) (t := t)) hv
  obtain ⟨m, e, hm⟩ := rd_int (Rd.of hh)
  simp [Value.cells] at e
  subst e
  exact ⟨n, rfl, hm⟩

/-- All arguments read as they did. -/
theorem trodAll_below (hl : laidOutB P = true) {W' : World} (hb : Below W.heap.size W W') : ∀ {ts : List TypeId} {vs : List Value} {ds : List (DataW X)} {ps : List MemPlace}, (ts.all fun t => P.readableRec t && decide (t < P.types.size)) = true →
    DataW.TrodAll enc P W 0 (fun _ => true) true ts vs ds ps → DataW.TrodAll enc P W' 0 (fun b => decide (b < W.heap.size)) true ts vs ds ps
  | [], vs, ds, ps, _, hh => by
    obtain ⟨rfl, rfl, rfl⟩ := trodAll_nil hh
    exact trodAll_mk0
  | t :: ts, vs, ds, ps, ht, hh => by
    simp only [List.all_cons, Bool.and_eq_true, decide_eq_true_eq] at ht
    obtain ⟨v, vs', d, ds', p, q, rfl, rfl, rfl, h1, h2⟩ := trodAll_cons hh
    have hlt : ∀ x ∈ p, x.block < W.heap.size := by obtain ⟨m, hm⟩ := h1; exact DataW.trod_lt m _ _ _ hm
    exact trodAll_cons_mk (Below.trod hl ht.1.1 ht.1.2 h1 hb hlt) (trodAll_below hl hb ht.2 h2)

def whole (W : World) : PH := fun b => W.heap[b]?
theorem Spec.calls {f : FuncId} {args : Array Value} {Post : Value → PH → Prop} (hs : Spec P f args (whole W) Post) : Calls P f args W fun e W' => ∃ v, e = .returned v ∧ (∃ h', Post v h') ∧ Below W.heap.size W W' := by
  refine (hs W [] rfl ⟨by simp, by simp, fun b o e => e, by simp⟩).mono ?_
  rintro e W' ⟨v, h', Ho, rfl, ⟨hp, _⟩, l, _, _, hc⟩
  exact ⟨v, rfl, ⟨h', hp⟩, ⟨hc.os, hc.tape, hc.output, hc.size, fun k hk => hc.old k hk (by simp)⟩⟩
theorem Det.calls {f : FuncId} {args : Array Value} {v : Value} (hs : Det P f args (whole W) v) : Calls P f args W fun e W' => e = .returned v ∧ Below W.heap.size W W' := by
  refine (Spec.calls hs).mono ?_
  rintro e W' ⟨v', rfl, ⟨_, rfl⟩, hb⟩
  exact ⟨rfl, hb⟩
end
end Go.GV
