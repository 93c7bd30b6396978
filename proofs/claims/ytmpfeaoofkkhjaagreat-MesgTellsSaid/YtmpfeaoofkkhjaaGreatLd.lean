/- A small logic over the kit's weakest preconditions, part 4. -/
import Derived.Test.YtmpfeaoofkkhjaaGreatLc
set_option linter.unusedVariables false
set_option linter.unusedSimpArgs false
section
/- Maps of the call's own, and equality of nested structures; over the small logic of GvA to GvAJ. -/
namespace Go.GV
open Go

/-! ### Flat values -/
/-- The kinds of all cells of a type of integers, bools and structures of such. -/
def flatG (P : Program) (F : TypeId → Option (List (Option IntKind))) : List Field → Nat → Option (List (Option IntKind))
  | [], _ => some []
  | f :: fs, i =>
    if f.name != "_" && (f.offset == i && !P.stoodInHeld f.type) then
      match F f.type with
      | some ks => if (P.info? f.type).map (·.size) == some ks.length then (flatG P F fs (i + ks.length)).map (ks ++ ·) else none
      | none => none
    else none
def flatT (P : Program) : Nat → TypeId → Option (List (Option IntKind))
  | 0, _ => none
  | d + 1, t => match P.underlying t with
    | some (.int k) => some [some k]
    | some .bool => some [none]
    | some (.struct fs) => flatG P (flatT P d) fs.toList 0
    | _ => none
def aggB (P : Program) (t : TypeId) : Bool := match P.underlying t with | some (.struct _) | some (.array _ _) => true | _ => false
/-- The value with these cells. -/
def kvv (g : Bool) (cs : List Value) : Value := match g with | true => .agg cs.toArray | false => cs.headD undef
theorem Cells.split : ∀ {ks ks' : List (Option IntKind)} {vs : List Value}, Cells (ks ++ ks') vs → ∃ a b, vs = a ++ b ∧ Cells ks a ∧ Cells ks' b
  | [], _, vs, h => ⟨[], vs, rfl, .nil, h⟩
  | some k :: ks, ks', _, .int (a := n) h => by
    obtain ⟨a, b, rfl, h1, h2⟩ := Cells.split (ks := ks) h
    exact ⟨.int k n :: a, b, rfl, .int h1, h2⟩
  | none :: ks, ks', _, .bool (b := x) h => by
    obtain ⟨a, b, rfl, h1, h2⟩ := Cells.split (ks := ks) h
    exact ⟨.bool x :: a, b, rfl, .bool h1, h2⟩
theorem eqL_append : ∀ {a b xs ys : List Value}, a.length = b.length → xs.length = ys.length → eqL (a ++ xs) (b ++ ys) = (eqL a b && eqL xs ys)
  | [], [], xs, ys, _, _ => by simp [eqL]
  | x :: a, y :: b, xs, ys, h1, h2 => by
    have h1' : a.length = b.length := by simpa using h1
    rw [List.cons_append, List.cons_append, eqL_cons x y _ _ (by simp [h1', h2]), eqL_cons x y a b h1', eqL_append h1' h2, Bool.and_assoc]
  | [], _ :: _, _, _, h, _ => by simp at h
  | _ :: _, [], _, _, h, _ => by simp at h
theorem eqL_eq : ∀ {K : List (Option IntKind)} {a b : List Value}, Cells K a → Cells K b → eqL a b = true → a = b
  | _, _, _, .nil, .nil, _ => rfl
  | _, _, _, .int (a := x) h1 (vs := a), .int (a := y) h2 (vs := b), h => by
    rw [eqL_cons _ _ _ _ (by rw [h1.length, h2.length])] at h
    simp only [eqV, Bool.and_eq_true, beq_iff_eq] at h
    rw [h.1, eqL_eq h1 h2 h.2]
  | _, _, _, .bool (b := x) h1, .bool (b := y) h2, h => by
    rw [eqL_cons _ _ _ _ (by rw [h1.length, h2.length])] at h
    simp only [eqV, Bool.and_eq_true, beq_iff_eq] at h
    rw [h.1, eqL_eq h1 h2 h.2]
section
variable {P : Program}
theorem run_part_flat {d : Nat} {t : TypeId} {ks : List (Option IntKind)} (hf : flatT P d t = some ks) (hsz : (P.info? t).map (·.size) = some ks.length) {X : Array Value} {i : Nat} {a r : List Value} (hX : X.toList.drop i = a ++ r) (ha : Cells ks a) (w : World) :
    (part t X i).run P w = .ok (kvv (aggB P t) a) w := by
  have hl := ha.length
  cases d with
  | zero => simp [flatT] at hf
  | succ d =>
    simp only [flatT] at hf
    cases hu : P.underlying t with
    | none => simp [hu] at hf
    | some u =>
      rw [hu] at hf
      have one : ∀ v, a = [v] → (match P.underlying t with | some (.struct _) | some (.array _ _) => some true | some _ => some false | none => none) = some false → (part t X i).run P w = .ok v w := by
        intro v ev hag
        refine run_part1 hag ?_ w
        rw [← Array.getElem?_toList]
        have : (X.toList.drop i)[0]? = some v := by rw [hX, ev]; rfl
        simpa using this
      cases u with
      | int k =>
        simp at hf; subst hf
        cases ha with | int h0 => cases h0; simp only [aggB, hu, kvv]; exact one _ rfl (by rw [hu])
      | bool =>
        simp at hf; subst hf
        cases ha with | bool h0 => cases h0; simp only [aggB, hu, kvv]; exact one _ rfl (by rw [hu])
      | struct fs =>
        have : TI P t ks.length true := ⟨hsz, by rw [hu]⟩
        rw [run_partA (P := P) (t := t) (n := ks.length) w]
        simp only [aggB, hu, kvv]
        congr 2
        rw [← hl]
        apply Array.ext'
        rw [Array.toList_extract, List.extract_eq_take_drop]
        rw [show i + a.length - i = a.length by omega, hX]
        simp
      | _ => simp at hf
theorem run_eqG {F : TypeId → Option (List (Option IntKind))} {d e : Nat} (hFd : ∀ t, F t = flatT P d t)
    (hF : ∀ t K xs ys w, F t = some K → P.stoodInHeld t = false → Cells K xs → Cells K ys → (Op.equalIn (e + 1) t (kvv (aggB P t) xs) (kvv (aggB P t) ys)).run P w = .ok (eqL xs ys) w) (w : World) (X Y : Array Value) :
    ∀ (fs : List Field) (i : Nat) (K : List (Option IntKind)) (xs ys : List Value), flatG P F fs i = some K → Cells K xs → Cells K ys → X.toList.drop i = xs → Y.toList.drop i = ys → (Op.eqFields (e + 1) X Y fs).run P w = .ok (eqL xs ys) w
  | [], i, K, xs, ys, h, hx, hy, _, _ => by
    simp [flatG] at h
    subst h
    cases hx; cases hy
    simp [Op.eqFields, eqL]
  | f :: fs, i, K, xs, ys, h, hx, hy, ex, ey => by
    simp only [flatG] at h
    split at h
    · rename_i hn
      simp at hn
      obtain ⟨hname, hoff, hheld⟩ := hn
      split at h
      · rename_i ks hks
        split at h
        · rename_i hsz
          simp only [beq_iff_eq] at hsz
          simp only [Option.map_eq_some_iff] at h
          obtain ⟨K', hK', rfl⟩ := h
          obtain ⟨a, xs', rfl, ca, cx⟩ := hx.split
          obtain ⟨b, ys', rfl, cb, cy⟩ := hy.split
          have px := run_part_flat (by rw [← hFd]; exact hks) hsz ex ca w
          have py := run_part_flat (by rw [← hFd]; exact hks) hsz ey cb w
          have he := hF f.type ks a b w hks hheld ca cb
          have dx : X.toList.drop (i + ks.length) = xs' := by rw [← List.drop_drop, ex, ← ca.length]; simp
          have dy : Y.toList.drop (i + ks.length) = ys' := by rw [← List.drop_drop, ey, ← cb.length]; simp
          have ih := run_eqG hFd hF w X Y fs (i + ks.length) K' xs' ys' hK' cx cy dx dy
          simp only [Op.eqFields]
          rw [if_pos hname, hoff]
          simp only [Sem.run_bind, px, py, Result.andThen_ok, he]
          rw [eqL_append (by rw [ca.length, cb.length]) (by rw [cx.length, cy.length])]
          cases hb : eqL a b
          · simp
          · simp [ih]
        · simp at h
      · simp at h
    · simp at h
theorem run_equalT : ∀ (d : Nat) (e : Nat), d ≤ e → ∀ (t : TypeId) (K : List (Option IntKind)) (xs ys : List Value) (w : World), flatT P d t = some K → P.stoodInHeld t = false → Cells K xs → Cells K ys →
    (Op.equalIn (e + 1) t (kvv (aggB P t) xs) (kvv (aggB P t) ys)).run P w = .ok (eqL xs ys) w
  | 0, _, _, _, _, _, _, _, hf, _, _, _ => by simp [flatT] at hf
  | d + 1, e, hde, t, K, xs, ys, w, hf, hheld, hx, hy => by
    have hf0 := hf
    simp only [flatT] at hf
    cases hu : P.underlying t with
    | none => simp [hu] at hf
    | some u =>
      rw [hu] at hf
      cases u with
      | int k =>
        simp at hf; subst hf
        cases hx with | int h0 => cases h0; cases hy with | int h1 => cases h1; simp only [aggB, hu, kvv]; exact run_equalIn_int w e t k k _ _ hu
      | bool =>
        simp at hf; subst hf
        cases hx with | bool h0 => cases h0; cases hy with | bool h1 => cases h1; simp only [aggB, hu, kvv]; exact run_equalIn_bool w e t _ _ hu
      | struct fs =>
        simp only [aggB, hu, kvv]
        have hfo : P.fieldsOf t = fs := by simp [Program.fieldsOf, hu]
        obtain ⟨e', rfl⟩ : ∃ e', e = e' + 1 := ⟨e - 1, by omega⟩
        rw [run_equalIn_struct w (e' + 1) t _ _ (by rw [hfo]; exact hu) hheld, hfo]
        exact run_eqG (F := flatT P d) (d := d) (fun _ => rfl) (fun t K xs ys w => run_equalT d e' (by omega) t K xs ys w) w _ _ fs.toList 0 K xs ys hf hx hy (by simp) (by simp)
      | _ => simp at hf
/-- A type whose values are compared cell by cell. -/
class TKy (P : Program) (t : TypeId) (K : outParam (List (Option IntKind))) (g : outParam Bool) : Prop where
  eq : flatT P 4 t = some K
  ag : aggB P t = g
  held : P.stoodInHeld t = false
  guard : P.eqGuardType P.depth t = false
theorem run_equalK {t : TypeId} {K : List (Option IntKind)} {g : Bool} [TKy P t K g] {xs ys : List Value} (hx : Cells K xs) (hy : Cells K ys) (w : World) : (Op.equal t (kvv g xs) (kvv g ys)).run P w = .ok (eqL xs ys) w := by
  have := run_equalT (P := P) 4 9999 (by omega) t K xs ys w TKy.eq TKy.held hx hy
  rw [TKy.ag (P := P) (t := t)] at this
  exact this
/-- What cells a value has. -/
inductive KV : Bool → Value → List Value → Prop
  | one {v : Value} : KV false v [v]
  | agg {cs : List Value} : KV true (.agg cs.toArray) cs
theorem KV.eq {g : Bool} {v : Value} {cs : List Value} (h : KV g v cs) : v = kvv g cs := by cases h <;> rfl
/-! ### Keys -/
theorem run_checkG {F : TypeId → Option (List (Option IntKind))} {d n : Nat} {em : Bool} (hFd : ∀ t, F t = flatT P d t)
    (hF : ∀ t K xs w, F t = some K → Cells K xs → (Instr.checkKey em n t (kvv (aggB P t) xs)).run P w = .ok () w) (w : World) (X : Array Value) :
    ∀ (fs : List Field) (i : Nat) (K : List (Option IntKind)) (xs : List Value), flatG P F fs i = some K → Cells K xs → X.toList.drop i = xs →
      (forIn fs PUnit.unit (fun f _ => if f.name ≠ "_" then do { let x ← part f.type X f.offset; Instr.checkKey em n f.type x; pure (ForInStep.yield PUnit.unit) } else pure (ForInStep.yield PUnit.unit)) : Sem PUnit).run P w = .ok () w
  | [], i, K, xs, h, hx, ex => by simp
  | f :: fs, i, K, xs, h, hx, ex => by
    simp only [flatG] at h
    split at h
    · rename_i hn
      simp at hn
      obtain ⟨hname, hoff, hheld⟩ := hn
      split at h
      · rename_i ks hks
        split at h
        · rename_i hsz
          simp only [beq_iff_eq] at hsz
          simp only [Option.map_eq_some_iff] at h
          obtain ⟨K', hK', rfl⟩ := h
          obtain ⟨a, xs', rfl, ca, cx⟩ := hx.split
          have px := run_part_flat (by rw [← hFd]; exact hks) hsz ex ca w
          have he := hF f.type ks a w hks ca
          have dx : X.toList.drop (i + ks.length) = xs' := by rw [← List.drop_drop, ex, ← ca.length]; simp
          have ih := run_checkG hFd hF w X fs (i + ks.length) K' xs' hK' cx dx
          simp only [List.forIn_cons, Sem.run_bind]
          rw [if_pos hname, hoff]
          simp only [Sem.run_bind, px, Result.andThen_ok, he, Sem.run_pure]
          exact ih
        · simp at h
      · simp at h
    · simp at h
theorem run_checkT : ∀ (d n : Nat), d ≤ n → ∀ (em : Bool) (t : TypeId) (K : List (Option IntKind)) (xs : List Value) (w : World), flatT P d t = some K → Cells K xs → (Instr.checkKey em n t (kvv (aggB P t) xs)).run P w = .ok () w
  | 0, _, _, _, _, _, _, _, hf, _ => by simp [flatT] at hf
  | d + 1, n, hdn, em, t, K, xs, w, hf, hx => by
    simp only [flatT] at hf
    obtain ⟨n', rfl⟩ : ∃ n', n = n' + 1 := ⟨n - 1, by omega⟩
    cases hu : P.underlying t with
    | none => simp [hu] at hf
    | some u =>
      rw [hu] at hf
      cases u with
      | int k =>
        simp at hf; subst hf
        cases hx with | int h0 => cases h0; simp [aggB, hu, kvv, Instr.checkKey, run_underlying hu]
      | bool =>
        simp at hf; subst hf
        cases hx with | bool h0 => cases h0; simp [aggB, hu, kvv, Instr.checkKey, run_underlying hu]
      | struct fs =>
        simp only [aggB, hu, kvv]
        have := run_checkG (F := flatT P d) (d := d) (n := n') (em := em) (fun _ => rfl) (fun t K xs w => run_checkT d n' (by omega) em t K xs w) w xs.toArray fs.toList 0 K xs hf hx (by simp)
        simp only [Instr.checkKey, Sem.run_bind, run_underlying hu, Result.andThen_ok]
        rw [← Array.forIn_toList]
        simp only [ne_eq, ite_not] at this ⊢
        simp at this ⊢
        rw [this]
        rfl
      | _ => simp at hf
/-! ### Maps -/
abbrev Ent := List Value × Value × Nat
abbrev KVs := List (List Value × Value)
def toE (g : Bool) (x : Ent) : MapEntry := { key := kvv g x.1, val := x.2.1, born := x.2.2 }
def kvs (es : List Ent) : KVs := es.map fun x => (x.1, x.2.1)
def lookM (kc : List Value) : KVs → Option Value
  | [] => none
  | x :: r => if eqL kc x.1 then some x.2 else lookM kc r
def putM (kc : List Value) (v : Value) : KVs → KVs
  | [] => [(kc, v)]
  | x :: r => if eqL kc x.1 then (x.1, v) :: r else x :: putM kc v r
def findI (kc : List Value) : List Ent → Nat → Option (Nat × Value)
  | [], _ => none
  | x :: r, i => if eqL kc x.1 then some (i, x.2.1) else findI kc r (i + 1)
theorem findI_spec (kc : List Value) : ∀ (es : List Ent) (i : Nat), (findI kc es i = none ∧ lookM kc (kvs es) = none ∧ ∀ v, putM kc v (kvs es) = kvs es ++ [(kc, v)]) ∨
    ∃ j x, findI kc es i = some (i + j, x.2.1) ∧ es[j]? = some x ∧ eqL kc x.1 = true ∧ lookM kc (kvs es) = some x.2.1 ∧ ∀ v, putM kc v (kvs es) = kvs (es.set j (x.1, v, x.2.2))
  | [], i => .inl ⟨rfl, rfl, fun _ => rfl⟩
  | x :: es, i => by
    cases h : eqL kc x.1 with
    | true => exact .inr ⟨0, x, by simp [findI, h], rfl, h, by simp [kvs, lookM, h], fun v => by simp [kvs, putM, h]⟩
    | false =>
      rcases findI_spec kc es (i + 1) with ⟨h1, h2, h3⟩ | ⟨j, y, h1, h2, h3, h4, h5⟩
      · exact .inl ⟨by simp [findI, h, h1], by simpa [kvs, lookM, h] using h2, fun v => by simpa [kvs, putM, h] using h3 v⟩
      · exact .inr ⟨j + 1, y, by simp [findI, h, h1]; omega, by simpa using h2, h3, by simpa [kvs, lookM, h] using h4, fun v => by simpa [kvs, putM, h] using h5 v⟩
structure MOk (K : List (Option IntKind)) (es : List Ent) (clock : Nat) : Prop where
  keys : ∀ x ∈ es, Cells K x.1
  old : ∀ x ∈ es, x.2.2 < clock
  nodup : (es.map (·.2.2)).Nodup
/-- A map of the call's own. -/
def mp (b : Nat) (K : List (Option IntKind)) (g : Bool) (m : KVs) : HE := fun l => ∃ es clock, MOk K es clock ∧ m = kvs es ∧ l = [(b, .map (es.map (toE g)).toArray clock)]
/-- .. whose entry with this key has this stamp. -/
def mpS (b : Nat) (K : List (Option IntKind)) (g : Bool) (m : KVs) (kc : List Value) (s : Nat) : HE := fun l => ∃ es clock, MOk K es clock ∧ m = kvs es ∧ (∃ j x, es[j]? = some x ∧ x.2.2 = s ∧ findI kc es 0 = some (j, x.2.1)) ∧ l = [(b, .map (es.map (toE g)).toArray clock)]
class TMap (P : Program) (t : TypeId) (k e : outParam TypeId) : Prop where
  eq : P.underlying t = some (.map k e)
class TZv (P : Program) (t : TypeId) (z : outParam Value) : Prop where
  eq : (P.info? t).bind (·.zero) = some z
theorem run_zeroV {t : TypeId} {z : Value} [TZv P t z] (w : World) : (zeroValue t).run P w = .ok z w := by
  have e := TZv.eq (P := P) (t := t)
  cases hi : P.info? t with
  | none => simp [hi] at e
  | some i => simp [hi] at e; simp [zeroValue, typeInfo, hi, e]
theorem run_getMap {w : World} {r : Nat} {es : Array MapEntry} {clock : Nat} (hb : w.heap[r]? = some (.map es clock)) : (getObj r).run P w = .ok (.map es clock) w := by simp [getObj, Sem.run, hb]
theorem run_setMap {w : World} {r : Nat} {es : Array MapEntry} {clock : Nat} (o : Obj) (hb : w.heap[r]? = some (.map es clock)) : (setObj r o).run P w = .ok () { w with heap := w.heap.setIfInBounds r o } := by simp [setObj, Sem.run, hb]
theorem run_findNow {w : World} {kt : TypeId} {d : TypeDesc} {k : Value} {l : List MapEntry} {a : Option (Nat × Value)} (hd : P.underlying kt = some d) (h : Instr.findNow d k l 0 = some a) : (Instr.findKey kt k l).run P w = .ok a w := by simp [Instr.findKey, run_underlying hd, Result.andThen, h]
theorem findNow_kv {k : Option IntKind} {v : Value} (hv : Cells [k] [v]) {desc : TypeDesc} (hd : (∃ q, k = some q ∧ desc = .int q) ∨ k = none ∧ desc = .bool) : ∀ (es : List Ent) (i : Nat), (∀ x ∈ es, Cells [k] x.1) → Instr.findNow desc v (es.map (toE false)) i = some (findI [v] es i)
  | [], _, _ => rfl
  | x :: es, i, h => by
    have hx := h x (by simp)
    have ih := findNow_kv hv hd es (i + 1) (fun y hy => h y (by simp [hy]))
    obtain ⟨xk, xv, xb⟩ := x
    simp only at hx
    rcases hd with ⟨q, rfl, rfl⟩ | ⟨rfl, rfl⟩
    · cases hv with | int h0 => cases hx with | int h1 =>
        cases h1
        rename_i a b
        simp only [List.map_cons, Instr.findNow, toE, kvv, List.headD_cons, Instr.sameNow, if_true, findI, eqL, eqV]
        by_cases hb : a = b
        · simp [hb]
        · have hb' : (a == b) = false := by simpa using hb
          simp [hb', ih]
    · cases hv with | bool h0 => cases hx with | bool h1 =>
        cases h1
        rename_i a b
        simp only [List.map_cons, Instr.findNow, toE, kvv, List.headD_cons, Instr.sameNow, findI, eqL, eqV]
        by_cases hb : a = b
        · simp [hb]
        · have hb' : (a == b) = false := by simpa using hb
          simp [hb', ih]
theorem run_findAsk {t : TypeId} {K : List (Option IntKind)} [TKy P t K true] {kc : List Value} (hk : Cells K kc) (w : World) : ∀ (es : List Ent) (i : Nat), (∀ x ∈ es, Cells K x.1) → (Instr.findAsking t (kvv true kc) (es.map (toE true)) i).run P w = .ok (findI kc es i) w
  | [], _, _ => by simp [Instr.findAsking, findI]
  | x :: es, i, h => by
    have hx := h x (by simp)
    have ih := run_findAsk (t := t) hk w es (i + 1) (fun y hy => h y (by simp [hy]))
    have he := run_equalK (P := P) (t := t) hk hx w
    simp only [List.map_cons, Instr.findAsking, findI, Sem.run_bind]
    simp only [toE] at he ⊢
    rw [he]
    simp only [Result.andThen_ok]
    cases hb : eqL kc x.1
    · simpa [toE] using ih
    · simp
theorem run_findK {t : TypeId} {K : List (Option IntKind)} {g : Bool} [TKy P t K g] {kc : List Value} (hk : Cells K kc) (w : World) (es : List Ent) (h : ∀ x ∈ es, Cells K x.1) : (Instr.findKey t (kvv g kc) (es.map (toE g))).run P w = .ok (findI kc es 0) w := by
  have hf := TKy.eq (P := P) (t := t)
  have hag := TKy.ag (P := P) (t := t)
  simp only [flatT] at hf
  cases hu : P.underlying t with
  | none => simp [hu] at hf
  | some u =>
    rw [hu] at hf
    simp only [aggB, hu] at hag
    cases u with
    | int k =>
      simp at hf hag; subst hf; subst hag
      cases hk with | int h0 => cases h0; exact run_findNow hu (findNow_kv (k := some k) (.int .nil) (.inl ⟨k, rfl, rfl⟩) es 0 h)
    | bool =>
      simp at hf hag; subst hf; subst hag
      cases hk with | bool h0 => cases h0; exact run_findNow hu (findNow_kv (k := none) (.bool .nil) (.inr ⟨rfl, rfl⟩) es 0 h)
    | struct fs =>
      simp at hag; subst hag
      rw [run_findKey_eq w (by rw [hu])]
      exact run_findAsk hk w es 0 h
    | _ => simp at hf
theorem same_self : ∀ {K : List (Option IntKind)} {a : List Value}, Cells K a → ∀ n, ∀ x ∈ a, Instr.sameBits n x x = true
  | _, _, .nil, n, x, hx => by cases hx
  | _, _, .int h, n, x, hx => by
    rcases List.mem_cons.1 hx with rfl | hx
    · cases n <;> simp [Instr.sameBits]
    · exact same_self h n x hx
  | _, _, .bool h, n, x, hx => by
    rcases List.mem_cons.1 hx with rfl | hx
    · cases n <;> simp [Instr.sameBits]
    · exact same_self h n x hx
theorem zip_self {α : Type} : ∀ {l : List α} {p : α × α}, p ∈ l.zip l → p.1 = p.2 ∧ p.1 ∈ l
  | [], p, h => by simp at h
  | x :: l, p, h => by
    simp only [List.zip_cons_cons, List.mem_cons] at h
    rcases h with rfl | h
    · simp
    · have := zip_self h; exact ⟨this.1, List.mem_cons_of_mem _ this.2⟩
theorem run_stays {t : TypeId} {K : List (Option IntKind)} {g : Bool} [TKy P t K g] {a : List Value} (ha : Cells K a) (w : World) : (Instr.keyThatStays (kvv g a) (kvv g a)).run P w = .ok (kvv g a) w := by
  have hb : Instr.sameBits 10000 (kvv g a) (kvv g a) = true := by
    have hf := TKy.eq (P := P) (t := t)
    have hag := TKy.ag (P := P) (t := t)
    simp only [flatT] at hf
    cases hu : P.underlying t with
    | none => simp [hu] at hf
    | some u =>
      rw [hu] at hf
      simp only [aggB, hu] at hag
      cases u with
      | int k =>
        simp at hf hag; subst hf; subst hag
        cases ha with | int h0 => cases h0; simp [kvv, Instr.sameBits]
      | bool =>
        simp at hf hag; subst hf; subst hag
        cases ha with | bool h0 => cases h0; simp [kvv, Instr.sameBits]
      | struct fs =>
        simp at hag; subst hag
        show Instr.sameBits (9999 + 1) (.agg a.toArray) (.agg a.toArray) = true
        simp only [Instr.sameBits, beq_self_eq_true, Bool.true_and, List.all_eq_true]
        intro p hp
        obtain ⟨h1, h2⟩ := zip_self hp
        obtain ⟨x, y⟩ := p
        simp only at h1 h2 ⊢
        subst h1
        exact same_self ha _ x h2
      | _ => simp at hf
  simp [Instr.keyThatStays, hb]
end
theorem set_turned {w : World} {b : Nat} {o o' : Obj} (hb : w.heap[b]? = some o) : Turned w { w with heap := w.heap.setIfInBounds b o' } b o' := by
  have hlt : b < w.heap.size := (Array.getElem?_eq_some_iff.1 hb).1
  exact ⟨rfl, rfl, rfl, rfl, by simp, by simp [hlt], fun k hk => by simp [Array.getElem?_setIfInBounds_ne (Ne.symm hk)]⟩
section
variable {ρ : Option Nat} {P : Program} {C : Ctx} {N : Fr} {L : En} {H H' : List HE} {h : PH} {dst : Option Tmp} {ty : TypeId} {pos : String} {after : Array Edge} {gd : Option (Nat × Bool)}
variable {ops : Array Oper} {o : Oper} {rest : List Oper} {Q : Exit → Act → World → Prop} {w : World} {b : Nat} {K : List (Option IntKind)} {g : Bool} {m : KVs}
theorem Inv.turnE {b : Nat} {o o' : Obj} (hw : Inv C (obj b o :: H) h w) : Inv C (obj b o' :: H) h { w with heap := w.heap.setIfInBounds b o' } := Inv.turn1 hw (set_turned hw.objAt)
theorem Inv.mp_out (hw : Inv C (mp b K g m :: H) h w) : ∃ es clock, MOk K es clock ∧ m = kvs es ∧ Inv C (obj b (.map (es.map (toE g)).toArray clock) :: H) h w := by
  obtain ⟨l, ⟨l1, l2, rfl, ⟨es, clock, h1, h2, rfl⟩, he⟩, hs, hc⟩ := hw
  exact ⟨es, clock, h1, h2, _, ⟨_, l2, rfl, rfl, he⟩, hs, hc⟩
theorem Inv.mp_in {es : List Ent} {clock : Nat} (h1 : MOk K es clock) (hw : Inv C (obj b (.map (es.map (toE g)).toArray clock) :: H) h w) : Inv C (mp b K g (kvs es) :: H) h w := by
  obtain ⟨l, ⟨l1, l2, rfl, hl, he⟩, hs, hc⟩ := hw
  exact ⟨_, ⟨l1, l2, rfl, ⟨es, clock, h1, rfl, hl⟩, he⟩, hs, hc⟩
theorem HMem.mp_at (hm : HMem H (mp b K g m)) (hw : SS C H h w) : ∃ es clock, MOk K es clock ∧ m = kvs es ∧ w.heap[b]? = some (.map (es.map (toE g)).toArray clock) := by
  obtain ⟨Hx, h', hl, l, he, hs, hc⟩ := hw
  obtain ⟨l1, ⟨es, clock, h1, h2, rfl⟩, hsub⟩ := (hm.more Hx).ents he
  exact ⟨es, clock, h1, h2, hs.mem _ _ (hsub _ (by simp))⟩
theorem run_lookup {t kt et : TypeId} {zv : Value} [TMap P t kt et] [TKy P kt K g] [TZv P et zv] {kc : List Value} (hk : Cells K kc) {es : List Ent} {clock : Nat} (hes : MOk K es clock) (hb : w.heap[b]? = some (.map (es.map (toE g)).toArray clock)) (ok : Bool) :
    (Instr.lookup t (.map (some b)) (kvv g kc) ok).run P w = .ok (if ok then .tuple #[(lookM kc (kvs es)).getD zv, .bool (lookM kc (kvs es)).isSome] else (lookM kc (kvs es)).getD zv) w := by
  have hc := run_checkT (P := P) 4 10000 (by omega) (es.map (toE g)).toArray.isEmpty kt K kc w TKy.eq hk
  rw [TKy.ag (P := P) (t := kt)] at hc
  have hf := run_findK (P := P) (t := kt) hk w es hes.keys
  simp only [Instr.lookup, Sem.run_bind, run_underlying (TMap.eq (P := P) (t := t)), Result.andThen_ok, run_getMap hb, Sem.run_pure, hc, hf]
  rcases findI_spec kc es 0 with ⟨h1, h2, _⟩ | ⟨j, x, h1, _, _, h2, _⟩
  · rw [h1, h2]
    simp only [Sem.run_bind, run_zeroV (P := P) w, Result.andThen_ok, Sem.run_pure]
    cases ok <;> simp
  · rw [h1, h2]
    simp only [Sem.run_bind, Result.andThen_ok, Sem.run_pure]
    cases ok <;> simp
theorem od_lookup {t kt et : TypeId} {zv : Value} [TMap P t kt et] [TKy P kt K g] [TZv P et zv] {x y : Operand} {kc : List Value} {kv : Value} (hx : Ev L x (.map (some b))) (hy : Ev L y kv) (hm : HMem H (mp b K g m)) (hk : KV g kv kc) (hc : Cells K kc) :
    OP P C ⟨dst, .lookup t x y true, ty, pos, after, gd⟩ L H h (.tuple #[(lookM kc m).getD zv, .bool (lookM kc m).isSome]) :=
  od_pure fun ρ w hρ hw => by
    have e1 := hρ x (by simp [Op.operands]) _ hx
    have e2 := hρ y (by simp [Op.operands]) _ hy
    obtain ⟨es, clock, h1, rfl, hb⟩ := hm.mp_at hw
    simp only [execOp, e1, e2, hk.eq]
    have := run_lookup (P := P) (t := t) hc h1 hb true
    simp only [this, Sem.run_bind, Result.andThen_ok, Sem.run_pure, if_true]
theorem od_mlen {t kt et : TypeId} [TMap P t kt et] {x : Operand} (hx : Ev L x (.map (some b))) (hm : HMem H (mp b K g m)) : OP P C ⟨dst, .call ⟨.builtin .len, #[x], #[t]⟩, ty, pos, after, gd⟩ L H h (.int .i64 m.length) :=
  od_pure fun ρ w hρ hw => by
    have e1 := hρ x (by simp [Op.operands, Call.operands]) _ hx
    obtain ⟨es, clock, h1, rfl, hb⟩ := hm.mp_at hw
    have hl : (Builtin.len_ #[t] ty #[.map (some b)]).run P w = .ok (goInt es.length) w := by
      simp [Builtin.len_, run_underlying (TMap.eq (P := P) (t := t)), run_getMap hb]
    simp [execOp, resolve, invoke, builtin, e1, Builtin.len_, run_underlying (TMap.eq (P := P) (t := t)), run_getMap hb, goInt, kvs]
/-- 'make(map[K]V)'. -/
theorem hd_makeMap {t kt et : TypeId} {d : Nat} {r : Option Operand} [TMap P t kt et] [TKy P kt K g] (hr : r = none ∨ ∃ x k n, r = some x ∧ Ev L x (.int k n)) (hN : Nat.blt d N.n = true)
    (next : ∀ b, Hd C N ((d, [], .map (some b)) :: L) (mp b K g [] :: H) h (wpList P ops Q rest)) :
    Hd C N L H h (wpList P ops Q (⟨some d, .makeMap t r, ty, pos, after, none⟩ :: rest)) := by
  refine ⟨fun a w ha hw => ?_⟩
  simp only [wpList]
  rw [if_pos (by simp [Region.wanted])]
  have hrun : (execOp a.eval ⟨some d, .makeMap t r, ty, pos, after, none⟩).run P w = .ok (.value (.map (some w.heap.size))) (w.alloc (.map #[] 0)) := by
    rcases hr with rfl | ⟨x, k, n, rfl, hx⟩
    · rfl
    · have e1 := hx.eval ha
      simp only [execOp, Option.map_some, e1, Instr.makeMap, Sem.run_bind, run_underlying (TMap.eq (P := P) (t := t)), Result.andThen_ok, asInt, Sem.run_pure]
      rfl
  unfold opw
  rw [hrun]
  refine (next w.heap.size).all _ _ ?_ ?_
  · have := ha.put (g := []) (v := .map (some w.heap.size)) (d := d) (by simpa using hN)
    simpa [G, satB] using this
  · have := Inv.mp_in (K := K) (g := g) (es := []) (clock := 0) ⟨by simp, by simp, by simp⟩ (hw.allocO (.map #[] 0))
    exact this
theorem mok_set {es : List Ent} {clock j : Nat} {x : Ent} {v : Value} (h : MOk K es clock) (hj : es[j]? = some x) : MOk K (es.set j (x.1, v, x.2.2)) clock := by
  have hx := List.mem_of_getElem? hj
  refine ⟨fun y hy => ?_, fun y hy => ?_, ?_⟩
  · rcases List.mem_or_eq_of_mem_set hy with hy | rfl
    · exact h.keys y hy
    · exact h.keys x hx
  · rcases List.mem_or_eq_of_mem_set hy with hy | rfl
    · exact h.old y hy
    · exact h.old x hx
  · have : (es.set j (x.1, v, x.2.2)).map (·.2.2) = es.map (·.2.2) := by
      rw [List.map_set]
      apply List.ext_getElem? 
      intro i
      rw [List.getElem?_set]
      split
      · rename_i e; subst e
        simp only [List.length_map]
        split
        · rename_i hlt
          rw [List.getElem?_map, hj]; rfl
        · rename_i hlt
          exact absurd (List.getElem?_eq_some_iff.1 hj).1 hlt
      · rfl
    rw [this]; exact h.nodup
theorem mok_snoc {es : List Ent} {clock : Nat} {kc : List Value} {v : Value} (h : MOk K es clock) (hk : Cells K kc) : MOk K (es ++ [(kc, v, clock)]) (clock + 1) := by
  refine ⟨fun y hy => ?_, fun y hy => ?_, ?_⟩
  · rcases List.mem_append.1 hy with hy | hy
    · exact h.keys y hy
    · simp at hy; subst hy; exact hk
  · rcases List.mem_append.1 hy with hy | hy
    · have := h.old y hy; omega
    · simp at hy; subst hy; simp
  · rw [List.map_append, List.nodup_append]
    refine ⟨h.nodup, by simp, fun a ha b hb => ?_⟩
    obtain ⟨y, hy, rfl⟩ := List.mem_map.1 ha
    simp at hb; subst hb
    have := h.old y hy
    omega
theorem modify_toE {es : List Ent} {j : Nat} {x : Ent} {kc : List Value} {v : Value} (hj : es[j]? = some x) (he : kc = x.1) : ((es.map (toE g)).toArray.modify j fun e => { e with key := kvv g kc, val := v }) = ((es.set j (x.1, v, x.2.2)).map (toE g)).toArray := by
  subst he
  apply Array.ext'
  rw [Array.toList_modify]
  apply List.ext_getElem?
  intro i
  rw [List.getElem?_modify]
  simp only [List.getElem?_map, List.getElem?_set]
  by_cases e : j = i
  · subst e
    obtain ⟨hlt, he⟩ := List.getElem?_eq_some_iff.1 hj
    simp [hlt, he, toE]
  · simp [e]
/-- A store into a map. -/
theorem Inv.mapPut {t kt et : TypeId} [TMap P t kt et] [TKy P kt K g] {kc : List Value} (hk : Cells K kc) (v : Value) (hw : Inv C (mp b K g m :: H) h w) : ∃ w', (Instr.mapUpdate t (.map (some b)) (kvv g kc) v).run P w = .ok () w' ∧ Inv C (mp b K g (putM kc v m) :: H) h w' := by
  obtain ⟨es, clock, h1, rfl, hi⟩ := hw.mp_out
  have hb := hi.objAt
  have hc := run_checkT (P := P) 4 10000 (by omega) false kt K kc w TKy.eq hk
  rw [TKy.ag (P := P) (t := kt)] at hc
  have hf := run_findK (P := P) (t := kt) hk w es h1.keys
  rcases findI_spec kc es 0 with ⟨e1, _, e3⟩ | ⟨j, x, e1, e2, e3, _, e5⟩
  · refine ⟨{ w with heap := w.heap.setIfInBounds b (.map ((es ++ [(kc, v, clock)]).map (toE g)).toArray (clock + 1)) }, ?_, ?_⟩
    rotate_left
    · rw [e3]
      have := Inv.mp_in (g := g) (mok_snoc (v := v) h1 hk) (Inv.turnE hi)
      rw [show kvs (es ++ [(kc, v, clock)]) = kvs es ++ [(kc, v)] by simp [kvs]] at this
      exact this
    · simp only [Instr.mapUpdate, Sem.run_bind, run_underlying (TMap.eq (P := P) (t := t)), Result.andThen_ok, run_getMap hb, hc, hf, e1]
      rw [run_setMap _ hb]
      simp [toE]
  · have hx := h1.keys x (List.mem_of_getElem? e2)
    have hkx : kc = x.1 := eqL_eq hk hx e3
    refine ⟨{ w with heap := w.heap.setIfInBounds b (.map ((es.set j (x.1, v, x.2.2)).map (toE g)).toArray clock) }, ?_, ?_⟩
    rotate_left
    · rw [e5]
      exact Inv.mp_in (g := g) (mok_set (v := v) h1 e2) (Inv.turnE hi)
    · simp only [Instr.mapUpdate, Sem.run_bind, run_underlying (TMap.eq (P := P) (t := t)), Result.andThen_ok, run_getMap hb, hc, hf, e1]
      have hold : (((es.map (toE g)).toArray[0 + j]?).map (·.key)).getD (kvv g kc) = kvv g kc := by
        rw [Nat.zero_add]; simp [e2, toE, hkx]
      simp only [hold, run_stays (P := P) (t := kt) hk w, Result.andThen_ok]
      rw [run_setMap _ hb, Nat.zero_add, modify_toE e2 hkx]
theorem hd_mapIns {t kt et : TypeId} {x y z : Operand} {kc : List Value} {kv v : Value} [TMap P t kt et] [TKy P kt K g] (hx : Ev L x (.map (some b))) (hy : Ev L y kv) (hz : Ev L z v) (hpk : Pick H (mp b K g m) H') (hk : KV g kv kc) (hc : Cells K kc)
    (next : Hd C N L (mp b K g (putM kc v m) :: H') h (wpList P ops Q rest)) : Hd C N L H h (wpList P ops Q (⟨none, .insert t x y z, ty, pos, after, none⟩ :: rest)) := by
  refine ⟨fun a w ha hw => ?_⟩
  simp only [wpList]
  rw [if_pos (by simp [Region.wanted])]
  obtain ⟨w', h1, h2⟩ := Inv.mapPut (P := P) (t := t) hc v (hw.pick hpk)
  have hrun : (execOp a.eval ⟨none, .insert t x y z, ty, pos, after, none⟩).run P w = .ok .skip w' := by
    simp only [execOp, hx.eval ha, hy.eval ha, hz.eval ha, hk.eq, Sem.run_bind, h1, Result.andThen_ok, Sem.run_pure]
  unfold opw
  rw [hrun]
  exact next.all _ _ (by simpa [Act.put] using ha) h2
/-! ### Equality of nested structures -/
theorem od_eqsN {t t' : TypeId} {x y : Operand} {xs ys : List Value} [TKy P t K true] (hx : Ev L x (.agg xs.toArray)) (hy : Ev L y (.agg ys.toArray)) (cx : Cells K xs) (cy : Cells K ys) :
    OP P C ⟨dst, .binOp .eql t x y t', ty, pos, after, gd⟩ L H h (.bool (eqL xs ys)) :=
  od_pure fun ρ w hρ _ => by
    have e1 := hρ x (by simp [Op.operands]) _ hx
    have e2 := hρ y (by simp [Op.operands]) _ hy
    have hg := run_eqGuard_agg (P := P) w .eql t x y xs.toArray ys.toArray (TKy.guard (P := P) (t := t))
    have hb : binOp .eql t (.agg xs.toArray) (.agg ys.toArray) = (do pure (.bool (← Op.equal t (.agg xs.toArray) (.agg ys.toArray)))) := rfl
    have hq := run_equalK (P := P) (t := t) cx cy w
    simp only [kvv] at hq
    simp only [execOp, e1, e2, hb, Sem.run_bind, hg, Result.andThen_ok, hq, Sem.run_pure]
theorem od_nesN {t t' : TypeId} {x y : Operand} {xs ys : List Value} [TKy P t K true] (hx : Ev L x (.agg xs.toArray)) (hy : Ev L y (.agg ys.toArray)) (cx : Cells K xs) (cy : Cells K ys) :
    OP P C ⟨dst, .binOp .neq t x y t', ty, pos, after, gd⟩ L H h (.bool (!eqL xs ys)) :=
  od_pure fun ρ w hρ _ => by
    have e1 := hρ x (by simp [Op.operands]) _ hx
    have e2 := hρ y (by simp [Op.operands]) _ hy
    have hg := run_eqGuard_agg (P := P) w .neq t x y xs.toArray ys.toArray (TKy.guard (P := P) (t := t))
    have hb : binOp .neq t (.agg xs.toArray) (.agg ys.toArray) = (do pure (.bool (!(← Op.equal t (.agg xs.toArray) (.agg ys.toArray))))) := rfl
    have hq := run_equalK (P := P) (t := t) cx cy w
    simp only [kvv] at hq
    simp only [execOp, e1, e2, hb, Sem.run_bind, hg, Result.andThen_ok, hq, Sem.run_pure]
/-! ### Maps from integers to integers -/
def mI (k k' : IntKind) (l : List (Int × Int)) : KVs := l.map fun p => ([.int k p.1], .int k' p.2)
def lookI (a : Int) : List (Int × Int) → Option Int
  | [] => none
  | p :: r => if a == p.1 then some p.2 else lookI a r
def putI (a v : Int) : List (Int × Int) → List (Int × Int)
  | [] => [(a, v)]
  | p :: r => if a == p.1 then (p.1, v) :: r else p :: putI a v r
theorem lookM_I {k k' : IntKind} {a : Int} : ∀ {l : List (Int × Int)}, lookM [.int k a] (mI k k' l) = (lookI a l).map (Value.int k')
  | [] => rfl
  | p :: l => by
    have ih := lookM_I (k := k) (k' := k') (a := a) (l := l)
    simp only [mI] at ih
    simp only [mI, List.map_cons, lookM, lookI, eqL, eqV]
    by_cases h : a = p.1
    · simp [h]
    · have h' : (a == p.1) = false := by simpa using h
      simp [h', ih]
theorem putM_I {k k' : IntKind} {a v : Int} : ∀ {l : List (Int × Int)}, putM [.int k a] (.int k' v) (mI k k' l) = mI k k' (putI a v l)
  | [] => rfl
  | p :: l => by
    have ih := putM_I (k := k) (k' := k') (a := a) (v := v) (l := l)
    simp only [mI] at ih
    simp only [mI, List.map_cons, putM, putI, eqL, eqV]
    by_cases h : a = p.1
    · simp [h]
    · have h' : (a == p.1) = false := by simpa using h
      simp [h', ih]
theorem od_lookupI {t kt et : TypeId} {k k' : IntKind} [TMap P t kt et] [TKy P kt [some k] false] [TZv P et (.int k' 0)] {x y : Operand} {a : Int} {l : List (Int × Int)} (hx : Ev L x (.map (some b))) (hy : Ev L y (.int k a)) (hm : HMem H (mp b [some k] false (mI k k' l))) :
    OP P C ⟨dst, .lookup t x y true, ty, pos, after, gd⟩ L H h (.tuple #[.int k' ((lookI a l).getD 0), .bool (lookI a l).isSome]) := by
  have := od_lookup (P := P) (C := C) (h := h) (dst := dst) (ty := ty) (pos := pos) (after := after) (gd := gd) (t := t) hx hy hm .one (.int .nil)
  rw [lookM_I] at this
  have e1 : ((lookI a l).map (Value.int k')).getD (.int k' 0) = .int k' ((lookI a l).getD 0) := by cases lookI a l <;> rfl
  have e2 : ((lookI a l).map (Value.int k')).isSome = (lookI a l).isSome := by cases lookI a l <;> rfl
  rwa [e1, e2] at this
end
end Go.GV

end
section
/- Memory that is new: what is handed out lies apart from what there was; over the small logic of GvA to GvAK. -/
namespace Go.GV
open Go
/-- What 'h1' has, and 'h0' has not. -/
def PH.new (h0 h1 : PH) : PH := fun b => match h0 b, h1 b with | none, some (.cells a t (0, 0)) => some (.cells a t (0, 0)) | _, _ => none
theorem PH.new_some {h0 h1 : PH} {b : Nat} {o : Obj} : PH.new h0 h1 b = some o ↔ h0 b = none ∧ h1 b = some o ∧ ∃ a t, o = .cells a t (0, 0) := by
  unfold PH.new
  split
  · rename_i a t e0 e1
    constructor
    · intro e; cases e; exact ⟨e0, e1, a, t, rfl⟩
    · rintro ⟨_, e, _⟩; rw [e1] at e; cases e; rfl
  · rename_i hn
    constructor
    · intro e; cases e
    · rintro ⟨e0, e1, a, t, rfl⟩; exact absurd e1 (hn a t e0)
theorem PH.new_le (h0 h1 : PH) : (PH.new h0 h1).le h1 := fun b o e => (PH.new_some.1 e).2.1
theorem PH.new_mono {h0 h1 h2 : PH} (hl : h1.le h2) : (PH.new h0 h1).le (PH.new h0 h2) := fun b o e => by
  obtain ⟨e0, e1, e2⟩ := PH.new_some.1 e
  exact PH.new_some.2 ⟨e0, hl b o e1, e2⟩
theorem PH.new_back {h0 h0' h1 : PH} (hl : h0.le h0') : (PH.new h0' h1).le (PH.new h0 h1) := fun b o e => by
  obtain ⟨e0, e1, e2⟩ := PH.new_some.1 e
  refine PH.new_some.2 ⟨?_, e1, e2⟩
  cases h2 : h0 b with
  | none => rfl
  | some x => rw [hl b x h2] at e0; cases e0
theorem PH.new_at {h0 h1 : PH} {b : Nat} {a : Array Value} {t : TypeId} (h : h0 b = none) (e : h1 b = some (.cells a t (0, 0))) : PH.new h0 h1 b = some (.cells a t (0, 0)) := PH.new_some.2 ⟨h, e, a, t, rfl⟩
section
variable {ρ : Option Nat} {P : Program} {C : Ctx} {N : Fr} {L : En} {H H' : List HE} {h : PH} {ty : TypeId} {pos : String} {after : Array Edge} {R : Act → World → Prop}
variable {ops : Array Oper} {rest : List Oper} {Q : Exit → Act → World → Prop}
theorem Inv.publishN {w : World} {p : Option Addr} {n c sz : Nat} {e : TypeId} {xss : List (List Value)} {hb : PH} (hbl : hb.le h) (hw : Inv C (row p n c e sz xss.flatten :: H) h w) (hlen : xss.length = n) (heach : ∀ x ∈ xss, x.length = sz) (htop : n ≤ 9223372036854775807) :
    ∃ h', h.le h' ∧ Sl (PH.new hb h') sz p n c xss ∧ Inv C H h' w := by
  obtain ⟨l, ⟨l1, l2, rfl, ⟨hx, hnc, hr⟩, he⟩, hs, hc⟩ := hw
  rcases hr with ⟨rfl, rfl, rfl, rfl⟩ | ⟨b, sp, rfl, hsp, rfl⟩
  · have : xss = [] := List.eq_nil_of_length_eq_zero hlen
    subst this
    exact ⟨h, PH.le_refl _, Sl.nil _ _, ⟨_, by simpa using he, by simpa using hs, by simpa using hc⟩⟩
  · have hnone : h b = none := hs.sep b (.cells (xss.flatten ++ sp).toArray e (0, 0)) (by simp)
    have hnb : hb b = none := by
      cases e2 : hb b with
      | none => rfl
      | some o => rw [hbl b o e2] at hnone; cases hnone
    obtain ⟨h1, h2⟩ := Inv.publish1 (o := .cells (xss.flatten ++ sp).toArray e (0, 0)) ⟨_, ⟨_, l2, rfl, rfl, he⟩, hs, hc⟩
    refine ⟨_, h1, ⟨hlen, hnc, htop, heach, fun _ => ⟨b, 0, rfl, (xss.flatten ++ sp).toArray, e, (0, 0), PH.new_at hnb (by simp [PH.add]), fun j v hv => ?_⟩⟩, h2⟩
    have hlt : j < xss.flatten.length := (List.getElem?_eq_some_iff.1 hv).1
    simp only [Nat.zero_add, List.getElem?_toArray]
    rw [List.getElem?_append_left hlt]; exact hv
theorem hd_pubN {α : Type} {r : Rp α} {p : Option Addr} {n c : Nat} {e : TypeId} {ys : List Value} {hb : PH} (hbl : hb.le h) (css : List (List Value)) (xs : List α) (hpk : Pick H (row p n c e r.sz ys) H') (hys : ys = css.flatten) (hok : All2 (r.ok (PH.new hb h)) css xs) (hlen : xs.length = n) (htop : n ≤ 9223372036854775807)
    (next : ∀ h', h.le h' → SlR r (PH.new hb h') p n c xs → Hd C N L H' h' R) : Hd C N L H h R := ⟨fun a w ha hw => by
  subst hys
  have heach : ∀ x ∈ css, x.length = r.sz := by
    intro x hx
    have : ∀ {as : List (List Value)} {bs : List α}, All2 (r.ok (PH.new hb h)) as bs → ∀ x ∈ as, x.length = r.sz := by
      intro as
      induction as with
      | nil => intro bs _ x hx; cases hx
      | cons a as ih =>
        intro bs hh x hx
        cases bs with
        | nil => exact hh.elim
        | cons b bs =>
          rcases List.mem_cons.1 hx with rfl | hx
          · exact r.len hh.1
          · exact ih hh.2 x hx
    exact this hok x hx
  obtain ⟨h', hl, hsl, hi⟩ := (hw.pick hpk).publishN hbl (by rw [hok.length, hlen]) heach htop
  exact (next h' hl ⟨css, hsl, hok.mono fun _ _ => r.mono (PH.new_mono hl)⟩).all a w ha hi⟩
end
end Go.GV

end
section
/- Steps of a walk, told apart by the operation's kind; over the small logic of GvA to GvAL. -/
namespace Go.GV
open Go
def opTag : Op → Nat
  | .move _ => 0
  | .assign _ => 0
  | .binOp op _ _ _ _ => (match op with
    | .add => 1 | .sub => 1 | .mul => 1 | .eql => 2 | .neq => 2 | .lss => 3 | .leq => 3 | .gtr => 3 | .geq => 3 | .shl => 4 | .shr => 4 | .quo => 5 | .rem => 5 | _ => 6)
  | .load _ _ => 7
  | .fieldAddr _ _ _ => 8
  | .pick _ _ _ => 9
  | .call c => (match c.callee with
    | .builtin .len => 10 | .builtin .min => 10 | .builtin .max => 10 | .builtin _ => 20 | _ => 21)
  | .convert _ _ _ => 11
  | .unOp _ _ _ => 12
  | .extract _ _ => 13
  | .build _ _ => 14
  | .makeFunc _ _ _ => 15
  | .indexAddr _ _ _ => 16
  | .slice _ _ _ _ _ => 17
  | .index _ _ _ => 18
  | .field _ _ _ => 18
  | .lookup _ _ _ _ => 18
  | .nilCheck _ => 19
  | _ => 30
def opPu (o : Op) : Bool := Nat.blt (opTag o) 20
section
variable {ρ : Option Nat} {P : Program} {C : Ctx} {N : Fr} {L : En} {H H' H0 : List HE} {h h0 : PH} {ty : TypeId} {pos : String} {after : Array Edge}
variable {ops : Array Oper} {o : Oper} {rest : List Oper} {Q : Exit → Act → World → Prop} {R : Act → World → Prop} {B : List Nat}
theorem opG {v : Value} (n : Nat) (_ : opTag o.op = n) (hp : OP P C o L H h v) : OP P C o L H h v := hp
/-- A pure operation in a list. -/
theorem is_pu (hx : Hd C N L H h (wpList P ops Q (o :: rest))) (_ : opPu o.op = true) : Hd C N L H h (wpList P ops Q (o :: rest)) := hx
theorem is_co (hx : Hd C N L H h (wpList P ops Q (o :: rest))) : Hd C N L H h (wpList P ops Q (o :: rest)) := hx
theorem is_ni (hx : Hd C N L H h (wpList P ops Q [])) : Hd C N L H h (wpList P ops Q []) := hx
theorem is_pn {S : World → Prop} {pl : List PI} (hx : Hd C N L H h (wpPn P ops R B pl S)) : Hd C N L H h (wpPn P ops R B pl S) := hx
theorem is_cw {c : Code} (hx : Hd C N L H h (cw ρ P c Q)) : Hd C N L H h (cw ρ P c Q) := hx
theorem is_rg {id : Nat} {l : List Oper} (hx : Hd C N L H h (cw ρ P (Code.region id l.toArray true) Q)) : Hd C N L H h (cw ρ P (Code.region id l.toArray true) Q) := hx
theorem is_cd {c : Operand} {x y : Code} (hx : Hd C N L H h (cw ρ P (Code.cond c x y) Q)) : Hd C N L H h (cw ρ P (Code.cond c x y) Q) := hx
theorem is_ch {K : En → Prop} (hx : Ch P C N ops H h K (o :: rest) L) : Ch P C N ops H h K (o :: rest) L := hx
/-- An operation that is not plain. -/
theorem is_cx (hx : Hd C N L H h (wpList P ops Q (o :: rest))) (_ : opPu o.op = false) : Hd C N L H h (wpList P ops Q (o :: rest)) := hx
/-- An operation that leaves the world alone. -/
theorem opB {v : Value} (hp : OP P C o L H h v := by first | (apply opG 0; (focus rfl); first | (apply od_move; (focus exact (Ev.mk rfl (by trivial)))) | (apply od_assign; (focus exact (Ev.mk rfl (by trivial))))) | (apply opG 7; (focus rfl); first | (apply od_load_agg; (focus exact (Ev.mk rfl (by trivial))); (focus ((repeat (first | exact HGet.here | apply HGet.there)); first | done | fail)); (focus ((repeat (first | exact Nf.nil | apply Nf.cons)); first | done | fail)); rfl) | (apply od_load_one; (focus exact (Ev.mk rfl (by trivial))); (focus ((repeat (first | exact HGet.here | apply HGet.there)); first | done | fail)); rfl) | (apply od_load_oner; (focus exact (Ev.mk rfl (by trivial))); (focus ((repeat (first | exact HMem.here | apply HMem.there)); first | done | fail)); (focus (first | assumption | rfl))) | (apply od_load_aggr; (focus exact (Ev.mk rfl (by trivial))); (focus ((repeat (first | exact HMem.here | apply HMem.there)); first | done | fail)); rfl; rfl) | (apply od_load_one0; (focus exact (Ev.mk rfl (by trivial))); (focus (first | assumption | exact Pub.mono (by assumption) (by ((repeat (first | assumption | exact PH.le_refl _ | (refine PH.le_trans ?_ (by assumption)))); first | done | fail))))) | (apply od_load_aggp; (focus exact (Ev.mk rfl (by trivial))); (focus (first | assumption | exact Pub.mono (by assumption) (by ((repeat (first | assumption | exact PH.le_refl _ | (refine PH.le_trans ?_ (by assumption)))); first | done | fail)))); (focus ((repeat (first | exact Nf.nil | apply Nf.cons)); first | done | fail)); rfl) | (apply od_load_onep; (focus exact (Ev.mk rfl (by trivial))); (focus (first | assumption | exact Pub.mono (by assumption) (by ((repeat (first | assumption | exact PH.le_refl _ | (refine PH.le_trans ?_ (by assumption)))); first | done | fail)))); rfl; rfl)) | (apply opG 8; (focus rfl); first | (apply od_fieldAddr; (focus exact (Ev.mk rfl (by trivial))); rfl)) | (apply opG 9; (focus rfl); first | (apply od_and; rfl; (focus trivial); rfl) | (apply od_or; rfl; (focus trivial); rfl)) | (apply opG 2; (focus rfl); first | (apply od_bin; (focus exact (Ev.mk rfl (by trivial))); (focus exact (Ev.mk rfl (by trivial))); rfl) | (apply od_eqb; (focus exact (Ev.mk rfl (by trivial))); (focus exact (Ev.mk rfl (by trivial)))) | (apply od_neb; (focus exact (Ev.mk rfl (by trivial))); (focus exact (Ev.mk rfl (by trivial)))) | (apply od_eqs; (focus exact (Ev.mk rfl (by trivial))); (focus exact (Ev.mk rfl (by trivial))); (focus ((repeat (first | exact Cells.nil | apply Cells.int | apply Cells.bool)); first | done | fail)); (focus ((repeat (first | exact Cells.nil | apply Cells.int | apply Cells.bool)); first | done | fail))) | (apply od_nes; (focus exact (Ev.mk rfl (by trivial))); (focus exact (Ev.mk rfl (by trivial))); (focus ((repeat (first | exact Cells.nil | apply Cells.int | apply Cells.bool)); first | done | fail)); (focus ((repeat (first | exact Cells.nil | apply Cells.int | apply Cells.bool)); first | done | fail))) | (apply od_eqsN; (focus exact (Ev.mk rfl (by trivial))); (focus exact (Ev.mk rfl (by trivial))); (focus ((repeat (first | exact Cells.nil | apply Cells.int | apply Cells.bool)); first | done | fail)); (focus ((repeat (first | exact Cells.nil | apply Cells.int | apply Cells.bool)); first | done | fail))) | (apply od_nesN; (focus exact (Ev.mk rfl (by trivial))); (focus exact (Ev.mk rfl (by trivial))); (focus ((repeat (first | exact Cells.nil | apply Cells.int | apply Cells.bool)); first | done | fail)); (focus ((repeat (first | exact Cells.nil | apply Cells.int | apply Cells.bool)); first | done | fail)))) | (apply opG 3; (focus rfl); first | (apply od_bin; (focus exact (Ev.mk rfl (by trivial))); (focus exact (Ev.mk rfl (by trivial))); rfl)) | (apply opG 1; (focus rfl); first | (apply od_ar; (focus exact (Ev.mk rfl (by trivial))); (focus exact (Ev.mk rfl (by trivial))); rfl; (focus ((first | with_reducible apply inR_i64 | with_reducible apply inR_i32 | with_reducible apply inR_u8 | with_reducible apply inR_u16 | with_reducible apply inR_u32 | with_reducible apply inR_u64) <;> (first | omega | grind [Sat])))) | (apply od_bin; (focus exact (Ev.mk rfl (by trivial))); (focus exact (Ev.mk rfl (by trivial))); rfl)) | (apply opG 12; (focus rfl); first | (apply od_not; (focus exact (Ev.mk rfl (by trivial))))) | (apply opG 11; (focus rfl); first | (apply od_cv; (focus exact (Ev.mk rfl (by trivial))); (focus ((first | with_reducible apply inR_i64 | with_reducible apply inR_i32 | with_reducible apply inR_u8 | with_reducible apply inR_u16 | with_reducible apply inR_u32 | with_reducible apply inR_u64) <;> (first | omega | grind [Sat])))) | (apply od_conv; (focus exact (Ev.mk rfl (by trivial))))) | (apply opG 10; (focus rfl); first | (apply od_min; (focus exact (Ev.mk rfl (by trivial))); (focus exact (Ev.mk rfl (by trivial)))) | (apply od_max; (focus exact (Ev.mk rfl (by trivial))); (focus exact (Ev.mk rfl (by trivial)))) | (apply od_len; (focus exact (Ev.mk rfl (by trivial)))) | (apply od_mlen; (focus exact (Ev.mk rfl (by trivial))); (focus ((repeat (first | exact HMem.here | apply HMem.there)); first | done | fail)))) | (apply opG 13; (focus rfl); first | (apply od_extract; (focus exact (Ev.mk rfl (by trivial))); rfl)) | (apply opG 14; (focus rfl); first | (apply od_build; (focus ((repeat (first | exact Parts.nil | (apply Parts.cons; (focus exact (Ev.mk rfl (by trivial))); rfl; rfl))); first | done | fail)); rfl; (focus ((repeat (first | exact Nf.nil | apply Nf.cons)); first | done | fail))) | (apply od_buildA; (focus ((repeat (first | exact PartsS.nil | (apply PartsS.cons; (focus exact (Ev.mk rfl (by trivial))); rfl; rfl))); first | done | fail)); rfl; (focus ((repeat (first | exact Nf.nil | apply Nf.cons)); first | done | fail)))) | (apply opG 15; (focus rfl); first | (apply od_makeFunc; (focus ((repeat (first | exact Evs.nil | (apply Evs.cons; (focus exact (Ev.mk rfl (by trivial)))))); first | done | fail)))) | (apply opG 16; (focus rfl); first | (apply od_indexA; (focus exact (Ev.mk rfl (by trivial))); (focus exact (Ev.mk rfl (by trivial))); (focus (first | (with_reducible exact natC _) | (with_reducible exact natLit _) | exact rfl | exact (Int.toNat_of_nonneg (by (first | omega | grind [Sat]))).symm)); (focus (first | omega | grind [Sat]))) | (apply od_indexR; (focus exact (Ev.mk rfl (by trivial))); (focus exact (Ev.mk rfl (by trivial))); (focus ((repeat (first | exact HMem.here | apply HMem.there)); first | done | fail)); (focus (first | (with_reducible exact natC _) | (with_reducible exact natLit _) | exact rfl | exact (Int.toNat_of_nonneg (by (first | omega | grind [Sat]))).symm)); (focus (first | omega | grind [Sat]))) | (apply od_index; (focus exact (Ev.mk rfl (by trivial))); (focus exact (Ev.mk rfl (by trivial))); (focus (first | (with_reducible exact natC _) | (with_reducible exact natLit _) | exact rfl | exact (Int.toNat_of_nonneg (by (first | omega | grind [Sat]))).symm)); (focus (first | omega | grind [Sat])); (focus (first | assumption | rfl)))) | (apply opG 17; (focus rfl); first | (apply od_slice; (focus exact (Ev.mk rfl (by trivial))); (focus (first | exact Bd.none | (apply Bd.some; (focus exact (Ev.mk rfl (by trivial))); (focus (first | (with_reducible exact natC _) | (with_reducible exact natLit _) | exact rfl | exact (Int.toNat_of_nonneg (by (first | omega | grind [Sat]))).symm))))); (focus (first | exact Bd.none | (apply Bd.some; (focus exact (Ev.mk rfl (by trivial))); (focus (first | (with_reducible exact natC _) | (with_reducible exact natLit _) | exact rfl | exact (Int.toNat_of_nonneg (by (first | omega | grind [Sat]))).symm))))); (focus (first | omega | grind [Sat])); (focus (first | omega | grind [Sat])))) | (apply opG 4; (focus rfl); first | (apply od_shr; (focus exact (Ev.mk rfl (by trivial))); (focus exact (Ev.mk rfl (by trivial))); (focus (first | (with_reducible exact natC _) | (with_reducible exact natLit _) | exact rfl | exact (Int.toNat_of_nonneg (by (first | omega | grind [Sat]))).symm)); (focus (simp [IntKind.bits] <;> omega))) | (apply od_shlR; (focus exact (Ev.mk rfl (by trivial))); (focus exact (Ev.mk rfl (by trivial))); (focus (first | (with_reducible exact natC _) | (with_reducible exact natLit _) | exact rfl | exact (Int.toNat_of_nonneg (by (first | omega | grind [Sat]))).symm)); (focus (simp [IntKind.bits] <;> omega)); (focus ((first | with_reducible apply inR_i64 | with_reducible apply inR_i32 | with_reducible apply inR_u8 | with_reducible apply inR_u16 | with_reducible apply inR_u32 | with_reducible apply inR_u64) <;> (first | omega | grind [Sat]))))) | (apply opG 5; (focus rfl); first | (apply od_rem; (focus exact (Ev.mk rfl (by trivial))); (focus exact (Ev.mk rfl (by trivial))); (focus (first | omega | grind [Sat])); (focus (first | omega | grind [Sat]))) | (apply od_quo; (focus exact (Ev.mk rfl (by trivial))); (focus exact (Ev.mk rfl (by trivial))); (focus (first | omega | grind [Sat])); (focus (first | omega | grind [Sat])); (focus ((first | with_reducible apply inR_i64 | with_reducible apply inR_i32 | with_reducible apply inR_u8 | with_reducible apply inR_u16 | with_reducible apply inR_u32 | with_reducible apply inR_u64) <;> (first | omega | grind [Sat])))) | (apply od_remT; (focus exact (Ev.mk rfl (by trivial))); (focus exact (Ev.mk rfl (by trivial))); (focus (first | omega | grind [Sat]))) | (apply od_quoT; (focus exact (Ev.mk rfl (by trivial))); (focus exact (Ev.mk rfl (by trivial))); (focus (first | omega | grind [Sat])); (focus ((first | with_reducible apply inR_i64 | with_reducible apply inR_i32 | with_reducible apply inR_u8 | with_reducible apply inR_u16 | with_reducible apply inR_u32 | with_reducible apply inR_u64) <;> (first | omega | grind [Sat]))))) | (apply opG 6; (focus rfl); first | (apply od_bin; (focus exact (Ev.mk rfl (by trivial))); (focus exact (Ev.mk rfl (by trivial))); rfl)) | (apply opG 19; (focus rfl); first | (apply od_nil; (focus exact (Ev.mk rfl (by trivial)))))) : OP P C o L H h v := hp
theorem hd_opTB {d : Nat} {v : Value} (next : Hd C N ((d, [], v) :: L) H h (wpList P ops Q rest)) (hg : o.guard = none := by rfl) (hp : OP P C o L H h v := by exact opB) (hd : o.dst = some d := by rfl) (hN : Nat.blt d N.n = true := by rfl) :
    Hd C N L H h (wpList P ops Q (o :: rest)) := hd_ok (.plain hg (.of hp)) hd hN next
theorem hd_opAB {d : Nat} {g : List (Bool × Bool)} {v : Value} (next : Hd C N ((d, g, v) :: L) H h (wpList P ops Q rest)) (hok : OK P C ops o L H h g v := by (first | (apply OK.plain; rfl) | (apply OK.guarded; rfl; rfl; (intro hg; (try have hk := hg.2); (try have hl := hg.2.2); (try have hm := hg.2.2.2)))); apply OD.of; exact opB) (hd : o.dst = some d := by rfl) (hN : Nat.blt d N.n = true := by rfl) :
    Hd C N L H h (wpList P ops Q (o :: rest)) := hd_ok hok hd hN next
theorem ch_opTB {K : En → Prop} {d : Nat} {v : Value} (next : Ch P C N ops H h K rest ((d, [], v) :: L)) (hg : o.guard = none := by rfl) (hp : OP P C o L H h v := by exact opB) (hd : o.dst = some d := by rfl) (hN : Nat.blt d N.n = true := by rfl) :
    Ch P C N ops H h K (o :: rest) L := ch_ok (.plain hg (.of hp)) hd hN next
theorem ch_opAB {K : En → Prop} {d : Nat} {g : List (Bool × Bool)} {v : Value} (next : Ch P C N ops H h K rest ((d, g, v) :: L)) (hok : OK P C ops o L H h g v := by (first | (apply OK.plain; rfl) | (apply OK.guarded; rfl; rfl; (intro hg; (try have hk := hg.2); (try have hl := hg.2.2); (try have hm := hg.2.2.2)))); apply OD.of; exact opB) (hd : o.dst = some d := by rfl) (hN : Nat.blt d N.n = true := by rfl) :
    Ch P C N ops H h K (o :: rest) L := ch_ok hok hd hN next
theorem hd_pnTB {r : List PI} {i d : Nat} {v : Value} (next : Hd C N ((d, [], v) :: L) H h (wpPn P ops R B r (SS C H0 h))) (ho : ops[i]? = some o := by rfl) (hg : o.guard = none := by rfl) (hmo : More H0 H := by ((repeat (first | exact More.same | apply More.one)); first | done | fail)) (hp : OP P C o L H0 h v := by exact opB) (hd : o.dst = some d := by rfl) (hN : Nat.blt d N.n = true := by rfl) :
    Hd C N L H h (wpPn P ops R B (.one i true :: r) (SS C H0 h)) := hd_pn_run ho hmo (.plain hg hp) hd hN next
theorem hd_pnAB {r : List PI} {i d : Nat} {g : List (Bool × Bool)} {v : Value} (next : Hd C N ((d, g, v) :: L) H h (wpPn P ops R B r (SS C H0 h))) (ho : ops[i]? = some o := by rfl) (hmo : More H0 H := by ((repeat (first | exact More.same | apply More.one)); first | done | fail)) (hok : OKp P C ops o L H0 h g v := by (first | (apply OKp.plain; rfl) | (apply OKp.guarded; rfl; rfl; (intro hg; (try have hk := hg.2); (try have hl := hg.2.2); (try have hm := hg.2.2.2)))); exact opB) (hd : o.dst = some d := by rfl) (hN : Nat.blt d N.n = true := by rfl) :
    Hd C N L H h (wpPn P ops R B (.one i true :: r) (SS C H0 h)) := hd_pn_run ho hmo hok hd hN next
theorem hd_condA {c : Operand} {x y : Code} {b : Bool} (hx : b = true → Hd C N L H h (cw ρ P x Q)) (hy : b = false → Hd C N L H h (cw ρ P y Q)) (hc : Ev L c (.bool b) := by exact aX) : Hd C N L H h (cw ρ P (Code.cond c x y) Q) := hd_cond hc hx hy
/-- Calls: what each asks but the contract is told by default. -/
theorem hd_cmA {x : Operand} {xs : List Operand} {at_ : Array TypeId} {f : FuncId} {cs vs as : List Value} {d : Nat} {Hi Hf : List HE} {Post : Value → PH → List HE → Prop} (hx : Ev L x (.func (.func f) #[] cs.toArray) := by exact aX) (hf : TFn P f := by infer_instance) (hxs : Evs L xs vs := by exact aE) (has : Nf (vs ++ cs) as := by exact aN) (hN : Nat.blt d N.n = true := by rfl) (hH : ∀ w, Inv C H h w → Inv C (Hi ++ Hf) h w := by exact fun w hw => Inv.split (by exact aS) hw) (s : SpecM P f as.toArray h Hi Post)
    (k : ∀ v h' Ho, h.le h' → Post v h' Ho → Hd C N ((d, [], v) :: L) (Ho ++ Hf) h' (wpList P ops Q rest)) : Hd C N L H h (wpList P ops Q (⟨some d, .call ⟨.value x, xs.toArray, at_⟩, ty, pos, after, none⟩ :: rest)) := hd_callM hx hf hxs has hN hH s k
theorem hd_cA {x : Operand} {xs : List Operand} {at_ : Array TypeId} {f : FuncId} {cs vs as : List Value} {d : Nat} {Post : Value → PH → Prop} (hx : Ev L x (.func (.func f) #[] cs.toArray) := by exact aX) (hf : TFn P f := by infer_instance) (hxs : Evs L xs vs := by exact aE) (has : Nf (vs ++ cs) as := by exact aN) (hN : Nat.blt d N.n = true := by rfl) (s : Spec P f as.toArray h Post)
    (k : ∀ v h', h.le h' → Post v h' → Hd C N ((d, [], v) :: L) H h' (wpList P ops Q rest)) : Hd C N L H h (wpList P ops Q (⟨some d, .call ⟨.value x, xs.toArray, at_⟩, ty, pos, after, none⟩ :: rest)) := hd_call hx hf hxs has hN s k
theorem hd_cnA {x : Operand} {xs : List Operand} {at_ : Array TypeId} {f : FuncId} {cs vs as : List Value} {d : Nat} {Post : Value → PH → List HE → Prop} (hx : Ev L x (.func (.func f) #[] cs.toArray) := by exact aX) (hf : TFn P f := by infer_instance) (hxs : Evs L xs vs := by exact aE) (has : Nf (vs ++ cs) as := by exact aN) (hN : Nat.blt d N.n = true := by rfl) (s : SpecM P f as.toArray h [] Post)
    (k : ∀ v h' Ho, h.le h' → Post v h' Ho → Hd C N ((d, [], v) :: L) (Ho ++ H) h' (wpList P ops Q rest)) : Hd C N L H h (wpList P ops Q (⟨some d, .call ⟨.value x, xs.toArray, at_⟩, ty, pos, after, none⟩ :: rest)) := hd_callM (Hi := []) hx hf hxs has hN (fun _ hw => hw) s k
end
/-- A goal that is left, so that 'assumption' does not take it. -/
structure Kx (B : Prop) : Prop where
  go : B
/-- Steps that give a new block, or a block that has moved. -/
theorem wkB {A B : Prop} (k : B) (h : Kx B → A := by intro k; refine is_co ?_; first | exact hd_boxA k.go | exact hd_alloc rfl k.go | exact hd_makeA k.go | exact hd_litA k.go) : A := h ⟨k⟩
theorem wkC {A B : Prop} (k : B) (h : Kx B → A := by intro k; refine is_co ?_; exact hd_appendA k.go) : A := h ⟨k⟩
end Go.GV

end
