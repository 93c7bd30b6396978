/- Values that are messages. -/
import Derived.Test.YtmpfeaoofkkhjaaGreatMgP
import Derived.Test.YtmpfeaoofkkhjaaGreatF0
namespace Go.Proofs.YtmpfeaoofkkhjaaGreat
open Go Go.GV
attribute [local irreducible] cw Go.GV.SpecM Go.GV.wpList Exit.then Exit.inBlock Go.GV.bodyPost wpPl wpPm wpPn TS rnd rPost YieldsB wpPT ptK
set_option linter.unusedVariables false
set_option linter.unusedSimpArgs false
def rDs : Rp DsT := rPair (rInt .u8) (rPair (rInt .u16) (rPair (rInt .u8) (rSl rSpan)))
def rMm : Rp Mk := rPair (rInt .u16) (rPair (rInt .u8) (rInt .u8))
abbrev SlD := SlR rDs
abbrev SlM := SlR rMm
abbrev SlK := SlR rID
theorem rDs_ok {h : PH} {cs : List Value} {x : DsT} (hh : rDs.ok h cs x) : ∃ p n c, cs = [.int .u8 x.1, .int .u16 x.2.1, .int .u8 x.2.2.1, .slice p n c] ∧ SlS h p n c x.2.2.2 ∧ inR .u8 x.1 ∧ inR .u16 x.2.1 ∧ inR .u8 x.2.2.1 := by
  obtain ⟨_, _, rfl, ⟨rfl, h1⟩, _, _, rfl, ⟨rfl, h2⟩, _, _, rfl, ⟨rfl, h3⟩, ⟨p, n, c, rfl, h4⟩⟩ := hh
  exact ⟨p, n, c, rfl, h4, h1, h2, h3⟩
theorem rDs_mk {h : PH} {x : DsT} {p : Option Addr} {n c : Nat} (h1 : inR .u8 x.1) (h2 : inR .u16 x.2.1) (h3 : inR .u8 x.2.2.1) (h4 : SlS h p n c x.2.2.2) : rDs.ok h [.int .u8 x.1, .int .u16 x.2.1, .int .u8 x.2.2.1, .slice p n c] x :=
  ⟨[_], _, rfl, ⟨rfl, h1⟩, [_], _, rfl, ⟨rfl, h2⟩, [_], _, rfl, ⟨rfl, h3⟩, ⟨p, n, c, rfl, h4⟩⟩
theorem rMm_ok {h : PH} {cs : List Value} {x : Mk} (hh : rMm.ok h cs x) : cs = [.int .u16 x.1, .int .u8 x.2.1, .int .u8 x.2.2] ∧ MmR x := by
  obtain ⟨_, _, rfl, ⟨rfl, h1⟩, _, _, rfl, ⟨rfl, h2⟩, ⟨rfl, h3⟩⟩ := hh
  exact ⟨rfl, h1, h2, h3⟩
theorem rMm_mk {h : PH} {x : Mk} (hx : MmR x) : rMm.ok h [.int .u16 x.1, .int .u8 x.2.1, .int .u8 x.2.2] x := ⟨[_], _, rfl, ⟨rfl, hx.1⟩, [_], _, rfl, ⟨rfl, hx.2.1⟩, ⟨rfl, hx.2.2⟩⟩
theorem rID_ok {h : PH} {cs : List Value} {x : Mk} (hh : rID.ok h cs x) : cs = [.int .u8 x.1, .int .u16 x.2.1, .int .u32 x.2.2] ∧ MkR x := by
  obtain ⟨_, _, rfl, ⟨rfl, h1⟩, _, _, rfl, ⟨rfl, h2⟩, ⟨rfl, h3⟩⟩ := hh
  exact ⟨rfl, h1, h2, h3⟩
theorem rID_mk {h : PH} {x : Mk} (hx : MkR x) : rID.ok h [.int .u8 x.1, .int .u16 x.2.1, .int .u32 x.2.2] x := ⟨[_], _, rfl, ⟨rfl, hx.1⟩, [_], _, rfl, ⟨rfl, hx.2.1⟩, ⟨rfl, hx.2.2⟩⟩
/-- Where a message's lists lie. -/
structure MsP where
  pl : Option Addr
  nl : Nat
  cl : Nat
  pt : Option Addr
  nt : Nat
  ct : Nat
  pv : Option Addr
  nv : Nat
  cv : Nat
  pd : Option Addr
  nd : Nat
  cd : Nat
  pm : Option Addr
  nm : Nat
  cm : Nat
  pi : Option Addr
  ni : Nat
  ci : Nat
def MsP.cs (a : MsP) (m : MsD) : List Value := [.int .u8 m.kind, .int .u8 m.frm, .int .u16 m.inc, .int .u8 m.to_, .slice a.pl a.nl a.cl, .slice a.pt a.nt a.ct, .int .u8 m.ev.1.1, .int .u16 m.ev.1.2.1, .int .u32 m.ev.1.2.2, .slice a.pv a.nv a.cv, .slice a.pd a.nd a.cd, .int .u8 m.hops, .int .u8 m.origin.1, .int .u16 m.origin.2.1, .int .u32 m.origin.2.2, .slice a.pm a.nm a.cm, .slice a.pi a.ni a.ci]
structure VMsP (h : PH) (a : MsP) (m : MsD) : Prop where
  list : SlD h a.pl a.nl a.cl m.list
  table : SlM h a.pt a.nt a.ct m.table
  vals : SlV h a.pv a.nv a.cv m.ev.2.1
  data : SlB h a.pd a.nd a.cd m.ev.2.2
  marks : SlK h a.pm a.nm a.cm m.marks
  ids : SlK h a.pi a.ni a.ci m.ids
  r : MsR m
theorem VMsP.mono {h h' : PH} {a : MsP} {m : MsD} (hv : VMsP h a m) (hl : h.le h') : VMsP h' a m := ⟨hv.list.mono hl, hv.table.mono hl, hv.vals.mono hl, hv.data.mono hl, hv.marks.mono hl, hv.ids.mono hl, hv.r⟩
/-- A value that is a message. -/
def VMs (h : PH) (v : Value) (m : MsD) : Prop := ∃ a : MsP, v = .agg (a.cs m).toArray ∧ VMsP h a m
end Go.Proofs.YtmpfeaoofkkhjaaGreat
