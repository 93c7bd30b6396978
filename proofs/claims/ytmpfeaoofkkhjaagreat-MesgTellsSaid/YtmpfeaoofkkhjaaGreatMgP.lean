/- Messages, in plain lists: readers and writers that fit one another; which messages are right. -/
import Derived.Test.YtmpfeaoofkkhjaaGreatStP
namespace Go.Proofs.YtmpfeaoofkkhjaaGreat
open Go Go.GV
attribute [local irreducible] cw Go.GV.SpecM Go.GV.wpList Exit.then Exit.inBlock Go.GV.bodyPost wpPl wpPm wpPn TS rnd rPost YieldsB wpPT ptK
set_option linter.unusedVariables false
set_option linter.unusedSimpArgs false
/-! ### Readers -/
abbrev Pa (α : Type) := List Int → Option (α × List Int)
def pu {α : Type} (x : α) : Pa α := fun b => some (x, b)
def pbi {α β : Type} (f : Pa α) (g : α → Pa β) : Pa β := fun b => (f b).bind fun p => g p.1 p.2
theorem pbi_assoc {α β γ : Type} (f : Pa α) (g : α → Pa β) (h : β → Pa γ) : pbi (pbi f g) h = pbi f fun a => pbi (g a) h := by funext b; simp [pbi, Option.bind_assoc]
theorem pu_pbi {α β : Type} (x : α) (g : α → Pa β) : pbi (pu x) g = g x := by funext b; simp [pbi, pu]
def pif {α : Type} (t : Bool) (f : Pa α) (z : α) : Pa α := if t then f else pu z
def pli {α : Type} (f : Pa α) : Nat → Pa (List α)
  | 0 => pu []
  | k + 1 => pbi (pli f k) fun l => pbi f fun x => pu (l ++ [x])
def pal {α : Type} (f : Pa α) : Pa (List α) := pbi (rdN true 1) fun n => pli f n.toNat
/-- What a reader reads of what a writer wrote, and the other way round. -/
structure Fit {α : Type} (ok : α → Prop) (w : α → List Int) (f : Pa α) : Prop where
  fwd : ∀ x r, ok x → f (w x ++ r) = some (x, r)
  bwd : ∀ b x r, B8 b → f b = some (x, r) → b = w x ++ r ∧ ok x ∧ B8 r
  b8 : ∀ x, ok x → B8 (w x)
theorem Fit.num (n : Nat) : Fit (fun v : Int => 0 ≤ v ∧ v < 256 ^ n) (fun v => putB v n n) (rdN true n) :=
  ⟨fun x r h => rdN_putB r h, fun b x r hb h => by
    obtain ⟨e, i, _, hr⟩ := rdN_inv hb h
    exact ⟨by simpa [putIf] using e, i rfl, hr⟩, fun x h => putB_b8 _ _ _⟩
theorem Fit.text : Fit (fun d : List Int => d.length ≤ 65535 ∧ B8 d) (fun d => putT [] d) (rdText true) :=
  ⟨fun x r h => by have := rdText_wr (t := true) r h.1 (fun h => by cases h); simpa [wrText] using this, fun b x r hb h => by
    obtain ⟨e, _, hx, hr⟩ := rdText_inv hb h
    refine ⟨by simpa [wrText] using e, ⟨?_, hx⟩, hr⟩
    simp only [rdText, if_true] at h
    split at h
    · rename_i hk
      simp only [Option.some.injEq, Prod.mk.injEq] at h
      rw [← h.1]
      have h' := hk
      simp only [tkOk, Bool.and_eq_true, decide_eq_true_eq] at h'
      have hl : (tkT b 65535).length = (two b).toNat := by
        simp only [tkT, hk, if_true, List.length_take, List.length_drop]; omega
      omega
    · exact absurd h (by simp), fun x h => putT_b8 B8.nil h.2⟩
theorem Fit.map {α β : Type} {ok : α → Prop} {w : α → List Int} {f : Pa α} (hf : Fit ok w f) (to_ : α → β) (from_ : β → α) (h1 : ∀ b, to_ (from_ b) = b) (h2 : ∀ a, ok a → from_ (to_ a) = a) : Fit (fun b => ok (from_ b)) (fun b => w (from_ b)) (pbi f fun a => pu (to_ a)) :=
  ⟨fun x r h => by simp only [pbi, hf.fwd _ _ h, Option.bind_some, pu, h1], fun b x r hb h => by
    simp only [pbi, pu, Option.bind_eq_some_iff, Option.some.injEq, Prod.mk.injEq] at h
    obtain ⟨⟨a, r'⟩, h3, h4, h5⟩ := h
    simp only at h4 h5
    subst h4 h5
    obtain ⟨e, i, hr⟩ := hf.bwd _ _ _ hb h3
    rw [h2 a i]
    exact ⟨e, i, hr⟩, fun x h => hf.b8 _ h⟩
theorem Fit.pair {α β : Type} {ok : α → Prop} {w : α → List Int} {f : Pa α} {ok2 : β → Prop} {w2 : β → List Int} {g : Pa β} (hf : Fit ok w f) (hg : Fit ok2 w2 g) : Fit (fun x : α × β => ok x.1 ∧ ok2 x.2) (fun x => w x.1 ++ w2 x.2) (pbi f fun a => pbi g fun b => pu (a, b)) :=
  ⟨fun x r h => by simp only [pbi, List.append_assoc, hf.fwd _ _ h.1, Option.bind_some, hg.fwd _ _ h.2, pu], fun b x r hb h => by
    simp only [pbi, pu, Option.bind_eq_some_iff, Option.some.injEq, Prod.mk.injEq] at h
    obtain ⟨⟨a, r1⟩, h3, ⟨c, r2⟩, h4, h5, h6⟩ := h
    simp only at h4 h5 h6
    subst h5 h6
    obtain ⟨e1, i1, b1⟩ := hf.bwd _ _ _ hb h3
    obtain ⟨e2, i2, b2⟩ := hg.bwd _ _ _ b1 h4
    exact ⟨by rw [e1, e2, List.append_assoc], ⟨i1, i2⟩, b2⟩, fun x h => (hf.b8 _ h.1).append (hg.b8 _ h.2)⟩
def wli {α : Type} (w : α → List Int) (l : List α) : List Int := (l.map w).flatten
theorem wli_app {α : Type} (w : α → List Int) (a b : List α) : wli w (a ++ b) = wli w a ++ wli w b := by simp [wli]
theorem Fit.li {α : Type} {ok : α → Prop} {w : α → List Int} {f : Pa α} (hf : Fit ok w f) : ∀ k, Fit (fun l : List α => l.length = k ∧ ∀ x ∈ l, ok x) (wli w) (pli f k)
  | 0 => ⟨fun l r h => by
      have : l = [] := List.eq_nil_of_length_eq_zero h.1
      subst this; rfl, fun b l r hb h => by
      simp only [pli, pu, Option.some.injEq, Prod.mk.injEq] at h
      obtain ⟨rfl, rfl⟩ := h
      exact ⟨rfl, ⟨rfl, by simp⟩, hb⟩, fun l h => by
      have : l = [] := List.eq_nil_of_length_eq_zero h.1
      subst this; exact B8.nil⟩
  | k + 1 => by
    have ih := Fit.li hf k
    refine ⟨fun l r h => ?_, fun b l r hb h => ?_, fun l h => ?_⟩
    · obtain ⟨l0, x, rfl⟩ : ∃ l0 x, l = l0 ++ [x] := ⟨l.dropLast, l.getLast (by intro e; rw [e] at h; simp at h), (List.dropLast_concat_getLast _).symm⟩
      have h1 : l0.length = k ∧ ∀ y ∈ l0, ok y := ⟨by have := h.1; simp at this; omega, fun y hy => h.2 y (by simp [hy])⟩
      have e1 : wli w (l0 ++ [x]) ++ r = wli w l0 ++ (w x ++ r) := by rw [wli_app]; simp [wli]
      simp only [pli, pbi, e1, ih.fwd _ _ h1, Option.bind_some, hf.fwd _ _ (h.2 x (by simp)), pu]
    · simp only [pli, pbi, pu, Option.bind_eq_some_iff, Option.some.injEq, Prod.mk.injEq] at h
      obtain ⟨⟨l0, r1⟩, h3, ⟨x, r2⟩, h4, h5, h6⟩ := h
      simp only at h4 h5 h6
      subst h5 h6
      obtain ⟨e1, i1, b1⟩ := ih.bwd _ _ _ hb h3
      obtain ⟨e2, i2, b2⟩ := hf.bwd _ _ _ b1 h4
      refine ⟨by rw [wli_app, e1, e2]; simp [wli], ⟨by simp [i1.1], fun y hy => ?_⟩, b2⟩
      rcases List.mem_append.1 hy with hy | hy
      · exact i1.2 y hy
      · simp at hy; subst hy; exact i2
    · obtain ⟨l0, x, rfl⟩ : ∃ l0 x, l = l0 ++ [x] := ⟨l.dropLast, l.getLast (by intro e; rw [e] at h; simp at h), (List.dropLast_concat_getLast _).symm⟩
      have h1 : l0.length = k ∧ ∀ y ∈ l0, ok y := ⟨by have := h.1; simp at this; omega, fun y hy => h.2 y (by simp [hy])⟩
      rw [wli_app]
      refine (ih.b8 _ h1).append ?_
      simpa [wli] using hf.b8 x (h.2 x (by simp))
def wal {α : Type} (w : α → List Int) (l : List α) : List Int := putB l.length 1 1 ++ wli w l
theorem Fit.al {α : Type} {ok : α → Prop} {w : α → List Int} {f : Pa α} (hf : Fit ok w f) : Fit (fun l : List α => l.length ≤ 255 ∧ ∀ x ∈ l, ok x) (wal w) (pal f) :=
  ⟨fun l r h => by
    have h1 := (Fit.num 1).fwd (l.length : Int) (wli w l ++ r) ⟨by omega, by have := h.1; omega⟩
    simp only [pal, pbi, wal, List.append_assoc, h1, Option.bind_some, Int.toNat_natCast]
    exact (Fit.li hf l.length).fwd l r ⟨rfl, h.2⟩, fun b l r hb h => by
    simp only [pal, pbi, Option.bind_eq_some_iff] at h
    obtain ⟨⟨n, r1⟩, h3, h4⟩ := h
    obtain ⟨e1, i1, b1⟩ := (Fit.num 1).bwd _ _ _ hb h3
    obtain ⟨e2, i2, b2⟩ := (Fit.li hf n.toNat).bwd _ _ _ b1 h4
    have hn : ((l.length : Nat) : Int) = n := by rw [i2.1]; omega
    refine ⟨by rw [wal, hn, e1, e2, List.append_assoc], ⟨by omega, i2.2⟩, b2⟩, fun l h => ((Fit.num 1).b8 (l.length : Int) ⟨by omega, by have := h.1; omega⟩).append ((Fit.li hf l.length).b8 l ⟨rfl, h.2⟩)⟩
def wif {α : Type} (t : Bool) (w : α → List Int) (x : α) : List Int := if t then w x else []
theorem Fit.if_ {α : Type} {ok : α → Prop} {w : α → List Int} {f : Pa α} (hf : Fit ok w f) (t : Bool) (z : α) : Fit (fun x : α => if t then ok x else x = z) (wif t w) (pif t f z) := by
  cases t with
  | true => exact ⟨fun x r h => by simpa [wif, pif] using hf.fwd x r (by simpa using h), fun b x r hb h => by simpa [wif] using hf.bwd b x r hb (by simpa [pif] using h), fun x h => by simpa [wif] using hf.b8 x (by simpa using h)⟩
  | false => exact ⟨fun x r h => by simp at h; subst h; simp [wif, pif, pu], fun b x r hb h => by
      simp [pif, pu] at h
      obtain ⟨rfl, rfl⟩ := h
      exact ⟨by simp [wif], by simp, hb⟩, fun x h => by simp [wif]; exact B8.nil⟩
/-! ### Parts of messages -/
def pVal : Pa Int := pbi (rdN true 4) fun v => pu (v - 2147483648)
def wVal (v : Int) : List Int := putB (v + 2147483648) 4 4
theorem fit_val : Fit (inR .i32) wVal pVal := by
  have := (Fit.num 4).map (fun v => v - 2147483648) (fun v : Int => v + 2147483648) (fun b => by omega) (fun a _ => by omega)
  refine ⟨fun x r h => this.fwd x r ?_, fun b x r hb h => ?_, fun x h => this.b8 x ?_⟩
  · simp only [inR] at h; omega
  · obtain ⟨e, i, hr⟩ := this.bwd b x r hb h
    exact ⟨e, by simp only [inR]; omega, hr⟩
  · simp only [inR] at h; omega
def pSpan : Pa Sp := pbi pVal fun a => pbi pVal fun b => pu (a, b)
def wSpan (s : Sp) : List Int := wVal s.1 ++ wVal s.2
theorem fit_span : Fit (fun s : Sp => inR .i32 s.1 ∧ inR .i32 s.2) wSpan pSpan := fit_val.pair fit_val
/-- A node, an incarnation, a number. -/
abbrev Mk := Int × Int × Int
def pMark : Pa Mk := pbi (rdN true 1) fun a => pbi (rdN true 2) fun b => pbi (rdN true 4) fun c => pu (a, b, c)
def wMark (x : Mk) : List Int := putB x.1 1 1 ++ (putB x.2.1 2 2 ++ putB x.2.2 4 4)
def MkR (x : Mk) : Prop := inR .u8 x.1 ∧ inR .u16 x.2.1 ∧ inR .u32 x.2.2
theorem fit_mark : Fit MkR wMark pMark := by
  have h := (Fit.num 1).pair ((Fit.num 2).pair (Fit.num 4))
  have e : pMark = (pbi (rdN true 1) fun a => pbi (pbi (rdN true 2) fun b => pbi (rdN true 4) fun c => pu (b, c)) fun q => pu (a, q)) := by simp only [pMark, pbi_assoc, pu_pbi]
  rw [e]
  refine ⟨fun x r hx => h.fwd x r ?_, fun b x r hb hx => ?_, fun x hx => h.b8 x ?_⟩
  · simp only [MkR, inR] at hx; omega
  · obtain ⟨e, i, hr⟩ := h.bwd b x r hb hx
    exact ⟨e, by simp only [MkR, inR]; omega, hr⟩
  · simp only [MkR, inR] at hx; omega
/-- A member: incarnation, state, quiet. -/
def pMem : Pa Mk := pbi (rdN true 2) fun a => pbi (rdN true 1) fun b => pbi (rdN true 1) fun c => pu (a, b, c)
def wMem (x : Mk) : List Int := putB x.1 2 2 ++ (putB x.2.1 1 1 ++ putB x.2.2 1 1)
def MmR (x : Mk) : Prop := inR .u16 x.1 ∧ inR .u8 x.2.1 ∧ inR .u8 x.2.2
theorem fit_mem : Fit MmR wMem pMem := by
  have h := (Fit.num 2).pair ((Fit.num 1).pair (Fit.num 1))
  have e : pMem = (pbi (rdN true 2) fun a => pbi (pbi (rdN true 1) fun b => pbi (rdN true 1) fun c => pu (b, c)) fun q => pu (a, q)) := by simp only [pMem, pbi_assoc, pu_pbi]
  rw [e]
  refine ⟨fun x r hx => h.fwd x r ?_, fun b x r hb hx => ?_, fun x hx => h.b8 x ?_⟩
  · simp only [MmR, inR] at hx; omega
  · obtain ⟨e, i, hr⟩ := h.bwd b x r hb hx
    exact ⟨e, by simp only [MmR, inR]; omega, hr⟩
  · simp only [MmR, inR] at hx; omega
/-- A descriptor: node, incarnation, age, filter. -/
abbrev DsT := Int × Int × Int × List Sp
def pDesc : Pa DsT := pbi (rdN true 1) fun a => pbi (rdN true 2) fun b => pbi (rdN true 1) fun c => pbi (pal pSpan) fun f => pu (a, b, c, f)
def wDesc (x : DsT) : List Int := putB x.1 1 1 ++ (putB x.2.1 2 2 ++ (putB x.2.2.1 1 1 ++ wal wSpan x.2.2.2))
def DsR (x : DsT) : Prop := inR .u8 x.1 ∧ inR .u16 x.2.1 ∧ inR .u8 x.2.2.1 ∧ ∀ s ∈ x.2.2.2, inR .i32 s.1 ∧ inR .i32 s.2
theorem fit_desc : Fit (fun x => DsR x ∧ x.2.2.2.length ≤ 255) wDesc pDesc := by
  have h := (Fit.num 1).pair ((Fit.num 2).pair ((Fit.num 1).pair fit_span.al))
  have e : pDesc = (pbi (rdN true 1) fun a => pbi (pbi (rdN true 2) fun b => pbi (pbi (rdN true 1) fun c => pbi (pal pSpan) fun f => pu (c, f)) fun q => pu (b, q)) fun q => pu (a, q)) := by simp only [pDesc, pbi_assoc, pu_pbi]
  rw [e]
  refine ⟨fun x r hx => h.fwd x r ?_, fun b x r hb hx => ?_, fun x hx => h.b8 x ?_⟩
  · obtain ⟨⟨h1, h2, h3, h4⟩, h5⟩ := hx
    simp only [inR] at h1 h2 h3
    exact ⟨by omega, by omega, by omega, h5, h4⟩
  · obtain ⟨e, ⟨i1, i2, i3, i4, i5⟩, hr⟩ := h.bwd b x r hb hx
    exact ⟨e, ⟨⟨by simp only [inR]; omega, by simp only [inR]; omega, by simp only [inR]; omega, i5⟩, i4⟩, hr⟩
  · obtain ⟨⟨h1, h2, h3, h4⟩, h5⟩ := hx
    simp only [inR] at h1 h2 h3
    exact ⟨by omega, by omega, by omega, h5, h4⟩
def pEv : Pa EvD := pbi pMark fun a => pbi (pal pVal) fun v => pbi (rdText true) fun d => pu (a, v, d)
def wEv (x : EvD) : List Int := wMark x.1 ++ (wal wVal x.2.1 ++ putT [] x.2.2)
def EvR (x : EvD) : Prop := MkR x.1 ∧ (∀ v ∈ x.2.1, inR .i32 v) ∧ B8 x.2.2
theorem fit_ev : Fit (fun x => EvR x ∧ x.2.1.length ≤ 255 ∧ x.2.2.length ≤ 65535) wEv pEv := by
  have h := fit_mark.pair (fit_val.al.pair Fit.text)
  have e : pEv = (pbi pMark fun a => pbi (pbi (pal pVal) fun v => pbi (rdText true) fun d => pu (v, d)) fun q => pu (a, q)) := by simp only [pEv, pbi_assoc, pu_pbi]
  rw [e]
  refine ⟨fun x r hx => h.fwd x r ⟨hx.1.1, ⟨hx.2.1, hx.1.2.1⟩, hx.2.2, hx.1.2.2⟩, fun b x r hb hx => ?_, fun x hx => h.b8 x ⟨hx.1.1, ⟨hx.2.1, hx.1.2.1⟩, hx.2.2, hx.1.2.2⟩⟩
  obtain ⟨e, ⟨i1, ⟨i2, i3⟩, i4, i5⟩, hr⟩ := h.bwd b x r hb hx
  exact ⟨e, ⟨⟨i1, i3, i5⟩, i2, i4⟩, hr⟩
/-! ### Messages -/
structure MsD where
  kind : Int
  frm : Int
  inc : Int
  to_ : Int
  list : List DsT
  table : List Mk
  ev : EvD
  hops : Int
  origin : Mk
  marks : List Mk
  ids : List Mk
deriving DecidableEq
def mk0 : Mk := (0, 0, 0)
def ev0 : EvD := (mk0, [], [])
def MsD.zero : MsD := ⟨0, 0, 0, 0, [], [], ev0, 0, mk0, [], []⟩
def kdM (k : Int) : Bool := decide (1 ≤ k) && decide (k ≤ 12)
def mL (k : Int) : Bool := decide (1 ≤ k) && decide (k ≤ 7)
def mT (k : Int) : Bool := decide (k = 2) || decide (k = 8) || decide (k = 11)
def mE (k : Int) : Bool := decide (k = 10)
def mH (k : Int) : Bool := decide (k = 10) || decide (k = 11)
def mO (k : Int) : Bool := decide (k = 11)
def mJ (k : Int) : Bool := decide (k = 11) || decide (k = 12)
def okId (x : Mk) : Bool := decide (x.1 < 12) && decide (0 < x.2.1) && decide (0 < x.2.2)
def okMk (x : Mk) : Bool := decide (x.1 < 12)
def okDs (x : DsT) : Bool := decide (x.1 < 12) && decide (0 < x.2.1) && decide (x.2.2.2.length ≤ 4)
def okMm (x : Mk) : Bool := decide (x.2.1 ≤ 3)
def fLr (m : MsD) : Bool := decide (m.list.length ≤ 64) && m.list.all okDs
def fTr (m : MsD) : Bool := decide (m.table.length ≤ 12) && m.table.all okMm
def fEr (m : MsD) : Bool := okId m.ev.1 && decide (m.ev.2.1.length ≤ 4) && decide (m.ev.2.2.length ≤ 64)
def fOr (m : MsD) : Bool := okMk m.origin
def fMr (m : MsD) : Bool := decide (m.marks.length ≤ 12) && m.marks.all okMk
def fIr (m : MsD) : Bool := decide (m.ids.length ≤ 255) && m.ids.all okId
def fEn (m : MsD) : Bool := decide (m.ev.1 = mk0) && decide (m.ev.2.1.length = 0) && decide (m.ev.2.2.length = 0)
def rightM (m : MsD) : Bool := kdM m.kind && decide (m.frm < 12) && decide (m.to_ < 12) && decide (m.inc ≠ 0) &&
  (bif mL m.kind then fLr m else decide (m.list.length = 0)) && (bif mT m.kind then fTr m else decide (m.table.length = 0)) && (bif mE m.kind then fEr m else fEn m) && (mH m.kind || decide (m.hops = 0)) &&
  (bif mO m.kind then fOr m else decide (m.origin = mk0)) && (bif mO m.kind then fMr m else decide (m.marks.length = 0)) && (bif mJ m.kind then fIr m else decide (m.ids.length = 0))
/-- Its numbers are of their kinds. -/
structure MsR (m : MsD) : Prop where
  kind : inR .u8 m.kind
  frm : inR .u8 m.frm
  inc : inR .u16 m.inc
  to_ : inR .u8 m.to_
  list : ∀ x ∈ m.list, DsR x
  table : ∀ x ∈ m.table, MmR x
  ev : EvR m.ev
  hops : inR .u8 m.hops
  origin : MkR m.origin
  marks : ∀ x ∈ m.marks, MkR x
  ids : ∀ x ∈ m.ids, MkR x
abbrev FldT := List DsT × List Mk × EvD × Int × Mk × List Mk × List Mk
def pFld (k : Int) : Pa FldT := pbi (pif (mL k) (pal pDesc) []) fun l => pbi (pif (mT k) (pal pMem) []) fun t => pbi (pif (mE k) pEv ev0) fun e => pbi (pif (mH k) (rdN true 1) 0) fun h => pbi (pif (mO k) pMark mk0) fun o => pbi (pif (mO k) (pal pMark) []) fun ms => pbi (pif (mJ k) (pal pMark) []) fun is_ => pu (l, t, e, h, o, ms, is_)
def wFld (k : Int) (x : FldT) : List Int := wif (mL k) (wal wDesc) x.1 ++ (wif (mT k) (wal wMem) x.2.1 ++ (wif (mE k) wEv x.2.2.1 ++ (wif (mH k) (fun v => putB v 1 1) x.2.2.2.1 ++ (wif (mO k) wMark x.2.2.2.2.1 ++ (wif (mO k) (wal wMark) x.2.2.2.2.2.1 ++ wif (mJ k) (wal wMark) x.2.2.2.2.2.2)))))
def MsD.fld (m : MsD) : FldT := (m.list, m.table, m.ev, m.hops, m.origin, m.marks, m.ids)
theorem pFld_eq (k : Int) : pFld k = (pbi (pif (mL k) (pal pDesc) []) fun l => pbi (pbi (pif (mT k) (pal pMem) []) fun t => pbi (pbi (pif (mE k) pEv ev0) fun e => pbi (pbi (pif (mH k) (rdN true 1) 0) fun h => pbi (pbi (pif (mO k) pMark mk0) fun o => pbi (pbi (pif (mO k) (pal pMark) []) fun ms => pbi (pif (mJ k) (pal pMark) []) fun is_ => pu (ms, is_)) fun q => pu (o, q)) fun q => pu (h, q)) fun q => pu (e, q)) fun q => pu (t, q)) fun q => pu (l, q)) := by simp only [pFld, pbi_assoc, pu_pbi]
def okFld (k : Int) (x : FldT) : Prop := (if mL k then x.1.length ≤ 255 ∧ ∀ y ∈ x.1, DsR y ∧ y.2.2.2.length ≤ 255 else x.1 = []) ∧ (if mT k then x.2.1.length ≤ 255 ∧ ∀ y ∈ x.2.1, MmR y else x.2.1 = []) ∧
    (if mE k then EvR x.2.2.1 ∧ x.2.2.1.2.1.length ≤ 255 ∧ x.2.2.1.2.2.length ≤ 65535 else x.2.2.1 = ev0) ∧ (if mH k then 0 ≤ x.2.2.2.1 ∧ x.2.2.2.1 < 256 ^ 1 else x.2.2.2.1 = 0) ∧ (if mO k then MkR x.2.2.2.2.1 else x.2.2.2.2.1 = mk0) ∧
    (if mO k then x.2.2.2.2.2.1.length ≤ 255 ∧ ∀ y ∈ x.2.2.2.2.2.1, MkR y else x.2.2.2.2.2.1 = []) ∧ (if mJ k then x.2.2.2.2.2.2.length ≤ 255 ∧ ∀ y ∈ x.2.2.2.2.2.2, MkR y else x.2.2.2.2.2.2 = [])
theorem fit_fld (k : Int) : Fit (okFld k) (wFld k) (pFld k) := by
  rw [pFld_eq]
  exact (fit_desc.al.if_ (mL k) []).pair ((fit_mem.al.if_ (mT k) []).pair ((fit_ev.if_ (mE k) ev0).pair (((Fit.num 1).if_ (mH k) 0).pair ((fit_mark.if_ (mO k) mk0).pair ((fit_mark.al.if_ (mO k) []).pair (fit_mark.al.if_ (mJ k) []))))))
def pMsg : Pa MsD := pbi (rdN true 1) fun k => pbi (rdN true 1) fun fr => pbi (rdN true 2) fun ic => pbi (rdN true 1) fun t => if kdM k then pbi (pFld k) fun x => pu ⟨k, fr, ic, t, x.1, x.2.1, x.2.2.1, x.2.2.2.1, x.2.2.2.2.1, x.2.2.2.2.2.1, x.2.2.2.2.2.2⟩ else fun _ => none
def wMsg (m : MsD) : List Int := putB m.kind 1 1 ++ (putB m.frm 1 1 ++ (putB m.inc 2 2 ++ (putB m.to_ 1 1 ++ wFld m.kind m.fld)))
def parseM (b : List Int) : MsD × Int := match pMsg b with
  | none => (MsD.zero, 10)
  | some (m, r) => if r = [] then (if rightM m then (m, 0) else (MsD.zero, 200)) else (MsD.zero, 10)
theorem right_fld {m : MsD} (hr : MsR m) (h : rightM m = true) : kdM m.kind = true ∧ (if mL m.kind then m.list.length ≤ 255 ∧ ∀ x ∈ m.list, DsR x ∧ x.2.2.2.length ≤ 255 else m.list = []) ∧ (if mT m.kind then m.table.length ≤ 255 ∧ ∀ x ∈ m.table, MmR x else m.table = []) ∧
    (if mE m.kind then EvR m.ev ∧ m.ev.2.1.length ≤ 255 ∧ m.ev.2.2.length ≤ 65535 else m.ev = ev0) ∧ (if mH m.kind then 0 ≤ m.hops ∧ m.hops < 256 ^ 1 else m.hops = 0) ∧ (if mO m.kind then MkR m.origin else m.origin = mk0) ∧
    (if mO m.kind then m.marks.length ≤ 255 ∧ ∀ x ∈ m.marks, MkR x else m.marks = []) ∧ (if mJ m.kind then m.ids.length ≤ 255 ∧ ∀ x ∈ m.ids, MkR x else m.ids = []) := by
  simp only [rightM, Bool.and_eq_true] at h
  obtain ⟨⟨⟨⟨⟨⟨⟨⟨⟨⟨h1, h2⟩, h3⟩, h4⟩, h5⟩, h6⟩, h7⟩, h8⟩, h9⟩, h10⟩, h11⟩ := h
  have hh := hr.hops
  simp only [inR] at hh
  refine ⟨h1, ?_, ?_, ?_, ?_, ?_, ?_, ?_⟩
  · cases e : mL m.kind with
    | true =>
      simp only [e, cond_true, fLr, Bool.and_eq_true, decide_eq_true_eq, List.all_eq_true, okDs] at h5
      simp only [if_true]
      exact ⟨by omega, fun x hx => ⟨hr.list x hx, by have := (h5.2 x hx).2; omega⟩⟩
    | false => simp only [e, cond_false, decide_eq_true_eq] at h5; simpa using h5
  · cases e : mT m.kind with
    | true =>
      simp only [e, cond_true, fTr, Bool.and_eq_true, decide_eq_true_eq] at h6
      simp only [if_true]
      exact ⟨by omega, hr.table⟩
    | false => simp only [e, cond_false, decide_eq_true_eq] at h6; simpa using h6
  · cases e : mE m.kind with
    | true =>
      simp only [e, cond_true, fEr, Bool.and_eq_true, decide_eq_true_eq] at h7
      simp only [if_true]
      exact ⟨hr.ev, by omega, by omega⟩
    | false =>
      simp only [e, cond_false, fEn, Bool.and_eq_true, decide_eq_true_eq, List.length_eq_zero_iff] at h7
      simp only [Bool.false_eq_true, if_false]
      obtain ⟨⟨a, b⟩, c⟩ := h7
      exact Prod.ext a (Prod.ext b c)
  · cases e : mH m.kind with
    | true => simp only [if_true]; omega
    | false => simp only [e, Bool.false_or, decide_eq_true_eq] at h8; simpa using h8
  · cases e : mO m.kind with
    | true => simp only [if_true]; exact hr.origin
    | false => simp only [e, cond_false, decide_eq_true_eq] at h9; simpa using h9
  · cases e : mO m.kind with
    | true =>
      simp only [e, cond_true, fMr, Bool.and_eq_true, decide_eq_true_eq] at h10
      simp only [if_true]
      exact ⟨by omega, hr.marks⟩
    | false => simp only [e, cond_false, decide_eq_true_eq] at h10; simpa using h10
  · cases e : mJ m.kind with
    | true =>
      simp only [e, cond_true, fIr, Bool.and_eq_true, decide_eq_true_eq] at h11
      simp only [if_true]
      exact ⟨by omega, hr.ids⟩
    | false => simp only [e, cond_false, decide_eq_true_eq] at h11; simpa using h11
theorem MkR.zero : MkR mk0 := by simp [MkR, mk0, inR]
theorem EvR.zero : EvR ev0 := ⟨MkR.zero, by simp [ev0], B8.nil⟩
theorem wMsg_b8 {m : MsD} (hr : MsR m) (h : rightM m = true) : B8 (wMsg m) := by
  obtain ⟨hk, hf⟩ := right_fld hr h
  have := (fit_fld m.kind).b8 m.fld hf
  exact (putB_b8 _ _ _).append ((putB_b8 _ _ _).append ((putB_b8 _ _ _).append ((putB_b8 _ _ _).append this)))
end Go.Proofs.YtmpfeaoofkkhjaaGreat
