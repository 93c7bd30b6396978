/- What values stand for: numbers, pairs of parts, slices; over the small logic of GvA to GvR. -/
import Derived.Test.YtikkkfamflmgeaaGvR
namespace Go.GV
open Go Go.RowKit Go.ChangeShapes Go.WideShapes

def All2 {α β : Type} (R : α → β → Prop) : List α → List β → Prop
  | [], [] => True
  | a :: as, b :: bs => R a b ∧ All2 R as bs
  | [], _ :: _ => False
  | _ :: _, [] => False
theorem All2.length {α β : Type} {R : α → β → Prop} : ∀ {as : List α} {bs : List β}, All2 R as bs → as.length = bs.length
  | [], [], _ => rfl
  | _ :: _, _ :: _, h => by simp [All2.length h.2]
  | [], _ :: _, h => h.elim
  | _ :: _, [], h => h.elim
theorem All2.get {α β : Type} {R : α → β → Prop} : ∀ {as : List α} {bs : List β}, All2 R as bs → ∀ {i : Nat} {b : β}, bs[i]? = some b → ∃ a, as[i]? = some a ∧ R a b
  | [], [], _, i, b, hb => by simp at hb
  | a :: as, b' :: bs, h, 0, b, hb => by simp at hb; subst hb; exact ⟨a, rfl, h.1⟩
  | a :: as, b' :: bs, h, i + 1, b, hb => All2.get h.2 (i := i) (by simpa using hb)
  | [], _ :: _, h, _, _, _ => h.elim
  | _ :: _, [], h, _, _, _ => h.elim
theorem All2.mono {α β : Type} {R R' : α → β → Prop} (hr : ∀ a b, R a b → R' a b) : ∀ {as : List α} {bs : List β}, All2 R as bs → All2 R' as bs
  | [], [], _ => trivial
  | _ :: _, _ :: _, h => ⟨hr _ _ h.1, h.2.mono hr⟩
  | [], _ :: _, h => h.elim
  | _ :: _, [], h => h.elim
theorem All2.append {α β : Type} {R : α → β → Prop} : ∀ {as cs : List α} {bs ds : List β}, All2 R as bs → All2 R cs ds → All2 R (as ++ cs) (bs ++ ds)
  | [], _, [], _, _, h2 => h2
  | _ :: _, _, _ :: _, _, h, h2 => ⟨h.1, h.2.append h2⟩
  | [], _, _ :: _, _, h, _ => h.elim
  | _ :: _, _, [], _, h, _ => h.elim
theorem All2.snoc {α β : Type} {R : α → β → Prop} {as : List α} {bs : List β} {a : α} {b : β} (h : All2 R as bs) (hab : R a b) : All2 R (as ++ [a]) (bs ++ [b]) := h.append ⟨hab, trivial⟩
theorem All2.take {α β : Type} {R : α → β → Prop} : ∀ {as : List α} {bs : List β} (_ : All2 R as bs) (k : Nat), All2 R (as.take k) (bs.take k)
  | [], [], _, k => by simp [All2]
  | _ :: _, _ :: _, _, 0 => by simp [All2]
  | _ :: _, _ :: _, h, k + 1 => ⟨h.1, h.2.take k⟩
  | [], _ :: _, h, _ => h.elim
  | _ :: _, [], h, _ => h.elim
theorem All2.drop {α β : Type} {R : α → β → Prop} : ∀ {as : List α} {bs : List β} (_ : All2 R as bs) (k : Nat), All2 R (as.drop k) (bs.drop k)
  | [], [], _, k => by simp [All2]
  | _ :: _, _ :: _, h, 0 => h
  | _ :: _, _ :: _, h, k + 1 => h.2.drop k
  | [], _ :: _, h, _ => h.elim
  | _ :: _, [], h, _ => h.elim
theorem All2.set {α β : Type} {R : α → β → Prop} : ∀ {as : List α} {bs : List β} (_ : All2 R as bs) (i : Nat) {a : α} {b : β}, R a b → All2 R (as.set i a) (bs.set i b)
  | [], [], _, _, _, _, _ => trivial
  | _ :: _, _ :: _, h, 0, _, _, hab => ⟨hab, h.2⟩
  | _ :: _, _ :: _, h, i + 1, _, _, hab => ⟨h.1, h.2.set i hab⟩
  | [], _ :: _, h, _, _, _, _ => h.elim
  | _ :: _, [], h, _, _, _, _ => h.elim
theorem All2.of_map {α β : Type} {R : α → β → Prop} {f : β → α} : ∀ {bs : List β}, (∀ b ∈ bs, R (f b) b) → All2 R (bs.map f) bs
  | [], _ => trivial
  | b :: bs, h => ⟨h b (by simp), All2.of_map fun c hc => h c (by simp [hc])⟩
theorem All2.to_map {α β : Type} {R : α → β → Prop} {f : β → α} (hf : ∀ a b, R a b → a = f b) : ∀ {as : List α} {bs : List β}, All2 R as bs → as = bs.map f
  | [], [], _ => rfl
  | _ :: _, _ :: _, h => by rw [List.map_cons, ← hf _ _ h.1, ← All2.to_map hf h.2]
  | [], _ :: _, h => h.elim
  | _ :: _, [], h => h.elim
theorem All2.mem {α β : Type} {R : α → β → Prop} : ∀ {as : List α} {bs : List β}, All2 R as bs → ∀ b ∈ bs, ∃ a, R a b
  | [], [], _, b, hb => by cases hb
  | a :: as, b' :: bs, h, b, hb => by
    rcases List.mem_cons.1 hb with rfl | hb
    · exact ⟨a, h.1⟩
    · exact All2.mem h.2 b hb
  | [], _ :: _, h, _, _ => h.elim
  | _ :: _, [], h, _, _ => h.elim

/-- What a row of cells stands for. -/
structure Rp (α : Type) where
  sz : Nat
  ok : PH → List Value → α → Prop
  len : ∀ {h : PH} {cs : List Value} {a : α}, ok h cs a → cs.length = sz
  mono : ∀ {h h' : PH} {cs : List Value} {a : α}, h.le h' → ok h cs a → ok h' cs a
  one : ∀ {h : PH} {cs : List Value} {a : α}, ok h cs a → cs.all (·.oneCell') = true
def rInt (k : IntKind) : Rp Int where
  sz := 1
  ok _ cs a := cs = [.int k a] ∧ inR k a
  len h := by rw [h.1]; rfl
  mono _ h := h
  one h := by rw [h.1]; rfl
def rBool : Rp Bool where
  sz := 1
  ok _ cs a := cs = [.bool a]
  len h := by rw [h]; rfl
  mono _ h := h
  one h := by rw [h]; rfl
def rPair {α β : Type} (r : Rp α) (s : Rp β) : Rp (α × β) where
  sz := r.sz + s.sz
  ok h cs a := ∃ x y, cs = x ++ y ∧ r.ok h x a.1 ∧ s.ok h y a.2
  len := by rintro h cs a ⟨x, y, rfl, h1, h2⟩; simp [r.len h1, s.len h2]
  mono := by rintro h h' cs a hl ⟨x, y, rfl, h1, h2⟩; exact ⟨x, y, rfl, r.mono hl h1, s.mono hl h2⟩
  one := by
    rintro h cs a ⟨x, y, rfl, h1, h2⟩
    rw [List.all_append, r.one h1, s.one h2]; rfl
/-- A slice that nobody writes, and what it stands for. -/
def SlR {α : Type} (r : Rp α) (h : PH) (p : Option Addr) (n c : Nat) (xs : List α) : Prop := ∃ css, Sl h r.sz p n c css ∧ All2 (r.ok h) css xs
section
variable {α : Type} {r : Rp α} {h h' : PH} {p : Option Addr} {n c : Nat} {xs : List α}
theorem SlR.mono (hs : SlR r h p n c xs) (hl : h.le h') : SlR r h' p n c xs := let ⟨css, h1, h2⟩ := hs; ⟨css, h1.mono hl, h2.mono fun _ _ => r.mono hl⟩
theorem SlR.len (hs : SlR r h p n c xs) : xs.length = n := by obtain ⟨css, h1, h2⟩ := hs; rw [← h2.length, h1.len]
theorem SlR.cap (hs : SlR r h p n c xs) : n ≤ c := let ⟨_, h1, _⟩ := hs; h1.cap
theorem SlR.top (hs : SlR r h p n c xs) : n ≤ 9223372036854775807 := let ⟨_, h1, _⟩ := hs; h1.top
theorem SlR.nil (r : Rp α) (h : PH) : SlR r h none 0 0 [] := ⟨[], Sl.nil h _, trivial⟩
theorem SlR.ptr (hs : SlR r h p n c xs) (hn : 0 < n) : p = some ⟨pb p, po p, none⟩ := let ⟨_, h1, _⟩ := hs; h1.ptr hn
theorem SlR.at (hs : SlR r h p n c xs) {i : Nat} {x : α} (hx : xs[i]? = some x) : ∃ cs, Pub h (pb p) (po p + i * r.sz) cs ∧ r.ok h cs x ∧ p = some ⟨pb p, po p, none⟩ := by
  have hl := hs.len
  have hi : i < xs.length := (List.getElem?_eq_some_iff.1 hx).1
  have hp := hs.ptr (by omega)
  obtain ⟨css, h1, h2⟩ := hs
  obtain ⟨cs, hcs, hok⟩ := h2.get hx
  exact ⟨cs, h1.at hcs, hok, hp⟩
theorem SlR.sub (hs : SlR r h p n c xs) {lo hi : Nat} (h1 : lo ≤ hi) (h2 : hi ≤ n) : SlR r h (subp p c lo r.sz) (hi - lo) (c - lo) ((xs.take hi).drop lo) :=
  let ⟨css, k1, k2⟩ := hs; ⟨(css.take hi).drop lo, k1.sub h1 h2, (k2.take hi).drop lo⟩
theorem SlR.dropS (hs : SlR r h p n c xs) {lo : Nat} (h1 : lo ≤ n) : SlR r h (subp p c lo r.sz) (n - lo) (c - lo) (xs.drop lo) := by
  have := hs.sub h1 (Nat.le_refl n)
  rwa [List.take_of_length_le (by rw [hs.len]; omega)] at this
theorem SlR.src {H : List HE} (hs : SlR r h p n c xs) : ∃ css, Src H h p n r.sz css.flatten ∧ All2 (r.ok h) css xs := let ⟨css, h1, h2⟩ := hs; ⟨css, .sl h1, h2⟩
end
def rSl {α : Type} (r : Rp α) : Rp (List α) where
  sz := 1
  ok h cs xs := ∃ p n c, cs = [.slice p n c] ∧ SlR r h p n c xs
  len := by rintro h cs a ⟨p, n, c, rfl, _⟩; rfl
  mono := by rintro h h' cs a hl ⟨p, n, c, rfl, hs⟩; exact ⟨p, n, c, rfl, hs.mono hl⟩
  one := by rintro h cs a ⟨p, n, c, rfl, _⟩; rfl
/-- The same, of another type. -/
def rMap {α β : Type} (r : Rp α) (f : β → α) : Rp β where
  sz := r.sz
  ok h cs b := r.ok h cs (f b)
  len h := r.len h
  mono hl h := r.mono hl h
  one h := r.one h

/-! ### Numbers -/
def vI (k : IntKind) (xs : List Int) : List Value := xs.map (Value.int k)
def elI (k : IntKind) (xs : List Int) : List (List Value) := xs.map fun x => [.int k x]
theorem elI_flat (k : IntKind) (xs : List Int) : (elI k xs).flatten = vI k xs := by
  induction xs with
  | nil => rfl
  | cons x xs ih => simp only [elI, vI, List.map_cons, List.flatten_cons, List.singleton_append] at *; rw [ih]
theorem vI_append (k : IntKind) (a b : List Int) : vI k (a ++ b) = vI k a ++ vI k b := List.map_append
theorem vI_one (k : IntKind) (a : List Int) : (vI k a).all (·.oneCell') = true := by
  simp only [vI, List.all_map, List.all_eq_true]; intro x _; rfl
theorem vI_len (k : IntKind) (a : List Int) : (vI k a).length = a.length := List.length_map _
theorem vI_get {k : IntKind} {xs : List Int} {i : Nat} {y : Int} (h : xs[i]? = some y) : (vI k xs)[i * 1]? = some (.int k y) := by rw [Nat.mul_one]; simp [vI, h]
theorem vI_set {k : IntKind} {xs : List Int} {i : Nat} {y : Int} (h : i < xs.length) : spl (vI k xs) (i * 1) [.int k y] = vI k (xs.set i y) := by
  rw [Nat.mul_one]
  simp only [spl, vI, List.map_set, List.length_singleton]
  rw [List.set_eq_take_append_cons_drop, if_pos (by simpa using h)]
  simp
theorem vI_take (k : IntKind) (xs : List Int) (i : Nat) : (vI k xs).take i = vI k (xs.take i) := by simp [vI, List.map_take]
theorem vI_drop (k : IntKind) (xs : List Int) (i : Nat) : (vI k xs).drop i = vI k (xs.drop i) := by simp [vI, List.map_drop]
theorem zs_int (k : IntKind) (n : Nat) : zs [.int k 0] n = vI k (List.replicate n 0) := by
  induction n with
  | zero => rfl
  | succ n ih => rw [zs, List.replicate_succ, List.flatten_cons]; rw [zs] at ih; rw [ih]; rfl
theorem slI_iff {k : IntKind} {h : PH} {p : Option Addr} {n c : Nat} {xs : List Int} : SlR (rInt k) h p n c xs ↔ Sl h 1 p n c (elI k xs) ∧ ∀ x ∈ xs, inR k x := by
  constructor
  · rintro ⟨css, h1, h2⟩
    have e : css = elI k xs := h2.to_map (f := fun x => [Value.int k x]) (fun a b (hh : a = [Value.int k b] ∧ GV.inR k b) => hh.1)
    refine ⟨by rw [← e]; exact h1, fun x hx => ?_⟩
    obtain ⟨_, ha⟩ := h2.mem x hx
    exact ha.2
  · rintro ⟨h1, h2⟩
    exact ⟨elI k xs, h1, All2.of_map fun b hb => ⟨rfl, h2 b hb⟩⟩
theorem SlR.inR {k : IntKind} {h : PH} {p : Option Addr} {n c : Nat} {xs : List Int} (hs : SlR (rInt k) h p n c xs) : ∀ x ∈ xs, inR k x := (slI_iff.1 hs).2
theorem SlR.srcI {k : IntKind} {H : List HE} {h : PH} {p : Option Addr} {n c : Nat} {xs : List Int} (hs : SlR (rInt k) h p n c xs) : Src H h p n 1 (vI k xs) := by rw [← elI_flat]; exact .sl (slI_iff.1 hs).1
theorem SlR.atI {k : IntKind} {h : PH} {p : Option Addr} {n c : Nat} {xs : List Int} (hs : SlR (rInt k) h p n c xs) {i : Nat} {y : Int} (hy : xs[i]? = some y) : Pub h (pb p) (po p + i * 1) [.int k y] ∧ GV.inR k y ∧ p = some ⟨pb p, po p, none⟩ := by
  obtain ⟨cs, h1, ⟨rfl, h2⟩, h3⟩ := hs.at hy
  exact ⟨h1, h2, h3⟩

/-! ### Rows of the call's own are handed out -/
section
variable {ρ : Option Nat} {P : Program} {C : Ctx} {N : Fr} {L : En} {H H' : List HE} {h : PH} {R : Act → World → Prop} {α : Type} {r : Rp α}
theorem Inv.pubR {w : World} {p : Option Addr} {n c : Nat} {e : TypeId} {css : List (List Value)} {xs : List α} (hw : Inv C (row p n c e r.sz css.flatten :: H) h w) (hok : All2 (r.ok h) css xs) (hlen : xs.length = n) (htop : n ≤ 9223372036854775807) : ∃ h', h.le h' ∧ SlR r h' p n c xs ∧ Inv C H h' w := by
  obtain ⟨h', h1, h2, h3⟩ := hw.publish (by rw [hok.length, hlen]) (fun x hx => by
    obtain ⟨i, hi, rfl⟩ := List.getElem_of_mem hx
    obtain ⟨b, hb⟩ : ∃ b, xs[i]? = some b := ⟨_, List.getElem?_eq_getElem (by rw [← hok.length]; exact hi)⟩
    obtain ⟨a, ha, hr⟩ := hok.get hb
    rw [List.getElem?_eq_getElem hi] at ha
    simp at ha
    rw [ha]; exact r.len hr) htop
  exact ⟨h', h1, ⟨css, h2, hok.mono fun _ _ => r.mono h1⟩, h3⟩
theorem hd_pubR {p : Option Addr} {n c : Nat} {e : TypeId} {ys : List Value} (css : List (List Value)) (xs : List α) (hpk : Pick H (row p n c e r.sz ys) H') (hys : ys = css.flatten) (hok : All2 (r.ok h) css xs) (hlen : xs.length = n) (htop : n ≤ 9223372036854775807)
    (next : ∀ h', h.le h' → SlR r h' p n c xs → Hd C N L H' h' R) : Hd C N L H h R :=
  ⟨fun a w ha hw => by
    have hw' := hw.pick hpk
    rw [hys] at hw'
    obtain ⟨h', h1, h2, h3⟩ := hw'.pubR hok hlen htop
    exact (next h' h1 h2).all a w ha h3⟩
theorem hd_pubI {k : IntKind} {p : Option Addr} {n c : Nat} {e : TypeId} {ys : List Value} (xs : List Int) (hpk : Pick H (row p n c e 1 ys) H') (hys : ys = vI k xs) (hr : ∀ x ∈ xs, inR k x) (hlen : xs.length = n) (htop : n ≤ 9223372036854775807)
    (next : ∀ h', h.le h' → SlR (rInt k) h' p n c xs → Hd C N L H' h' R) : Hd C N L H h R :=
  hd_pubR (r := rInt k) (elI k xs) xs hpk (by rw [elI_flat]; exact hys) (All2.of_map fun b hb => ⟨rfl, hr b hb⟩) hlen htop next
end

/-! ### Readable values -/
section
variable {X : Type} {enc : TypeId × Value → X} {P : Program} {W : World}
def RdOK {α : Type} (enc : TypeId × Value → X) (P : Program) (W : World) (r : Rp α) (t : TypeId) : Prop := ∀ cs, Rd enc P W t cs → ∃ a, r.ok (whole W) cs a
theorem rdok_int {t : TypeId} {k : IntKind} [TInt P t k] : RdOK enc P W (rInt k) t := fun _ hh => let ⟨n, e, hr⟩ := rd_int hh; ⟨n, e, hr⟩
theorem rdok_bool {t : TypeId} [TBool P t] : RdOK enc P W rBool t := fun _ hh => let ⟨b, e⟩ := rd_bool hh; ⟨b, e⟩
theorem all2_ex {α β : Type} {R : α → β → Prop} : ∀ (as : List α), (∀ a ∈ as, ∃ b, R a b) → ∃ bs, All2 R as bs
  | [], _ => ⟨[], trivial⟩
  | a :: as, h => by
    obtain ⟨b, hb⟩ := h a (by simp)
    obtain ⟨bs, hbs⟩ := all2_ex as fun x hx => h x (by simp [hx])
    exact ⟨b :: bs, hb, hbs⟩
theorem rdok_slice {α : Type} {r : Rp α} {t e : TypeId} {sz : Nat} {g : Bool} [TSl P t e] [TI P e sz g] (hsz : 0 < sz) (he : r.sz = sz) (hr : RdOK enc P W r e) : RdOK enc P W (rSl r) t := fun cs hh => by
  obtain ⟨p, n, c, xss, rfl, hs, hx⟩ := rd_slice hsz hh
  obtain ⟨bs, hbs⟩ := all2_ex xss fun x hx' => hr x (hx x hx')
  exact ⟨bs, p, n, c, rfl, xss, by rw [he]; exact hs, hbs⟩
def seg (cs : List Value) (o n : Nat) : List Value := (cs.drop o).take n
theorem seg_pair {α β : Type} {r : Rp α} {s : Rp β} {h : PH} {cs : List Value} {o n1 n2 : Nat} {a : α} {b : β} (ha : r.ok h (seg cs o n1) a) (hb : s.ok h (seg cs (o + n1) n2) b) : (rPair r s).ok h (seg cs o (n1 + n2)) (a, b) :=
  ⟨_, _, by simp only [seg]; rw [List.take_add, List.drop_drop], ha, hb⟩
theorem seg_all {cs : List Value} {n : Nat} (h : cs.length = n) : seg cs 0 n = cs := by simp [seg, ← h]
theorem rdok_seg {α : Type} {r : Rp α} {s : TypeId} {f off n : Nat} {ft : TypeId} {g : Bool} [TFd P s f off ft] [TI P ft n g] (hr : RdOK enc P W r ft) {cs : List Value} (hh : Rd enc P W s cs) : ∃ a, r.ok (whole W) (seg cs off n) a := hr _ (rd_field (f := f) hh)
end
end Go.GV
