/- The service: lives, events, what was given, deeds, in plain lists. -/
import Derived.Test.YtogepedlalfpjaaFArg
import Derived.Test.YtogepedlalfpjaaFiltP
namespace Go.Proofs.Ytogepedlalfpjaa
open Go Go.GV
attribute [local irreducible] cw Go.GV.SpecM Go.GV.wpList Exit.then Exit.inBlock Go.GV.bodyPost wpPl wpPm wpPn TS rnd rPost YieldsB wpPT ptK
set_option linter.unusedVariables false
set_option linter.unusedSimpArgs false
set_option maxRecDepth 10000
structure LD where
  inc : Int
  up : Bool
  filter : List Sp
  seq : Int
deriving DecidableEq
def LD.zero : LD := ⟨0, false, [], 0⟩
abbrev IDt := Int × Int × Int
structure GD where
  node : Int
  inc : Int
  id : IDt
deriving DecidableEq
structure SvD where
  lives : List LD
  schema : List Sp
  last : Int
  events : List EvD
  given : List GD
deriving DecidableEq
structure DeD where
  what : Int
  node : Int
  filter : List Sp
  ev : EvD
  id : IDt
structure LdR (x : LD) : Prop where
  inc : inR .u16 x.inc
  seq : inR .u32 x.seq
structure IdR (x : IDt) : Prop where
  node : inR .u8 x.1
  inc : inR .u16 x.2.1
  seq : inR .u32 x.2.2
structure GdR (x : GD) : Prop where
  node : inR .u8 x.node
  inc : inR .u16 x.inc
  id : IdR x.id
def rLife : Rp LD := rMap (rPair (rInt .u16) (rPair rBool (rPair (rSl rSpan) (rInt .u32)))) fun x => (x.inc, x.up, x.filter, x.seq)
theorem rLife_ok {h : PH} {cs : List Value} {x : LD} (hh : rLife.ok h cs x) : ∃ p n c, cs = [.int .u16 x.inc, .bool x.up, .slice p n c, .int .u32 x.seq] ∧ LdR x ∧ SlS h p n c x.filter := by
  obtain ⟨_, _, rfl, ⟨rfl, h0⟩, _, _, rfl, rfl, _, _, rfl, ⟨p, n, c, rfl, h3⟩, rfl, h4⟩ := hh
  exact ⟨p, n, c, rfl, ⟨h0, h4⟩, h3⟩
theorem rLife_mk {h : PH} {x : LD} {p : Option Addr} {n c : Nat} (hx : LdR x) (h3 : SlS h p n c x.filter) : rLife.ok h [.int .u16 x.inc, .bool x.up, .slice p n c, .int .u32 x.seq] x :=
  ⟨[_], _, rfl, ⟨rfl, hx.inc⟩, [_], _, rfl, rfl, [_], _, rfl, ⟨p, n, c, rfl, h3⟩, rfl, hx.seq⟩
def rGiven : Rp GD := rMap (rPair (rInt .u8) (rPair (rInt .u16) rID)) fun x => (x.node, x.inc, x.id)
def csG (x : GD) : List Value := [.int .u8 x.node, .int .u16 x.inc, .int .u8 x.id.1, .int .u16 x.id.2.1, .int .u32 x.id.2.2]
theorem rGiven_ok {h : PH} {cs : List Value} {x : GD} (hh : rGiven.ok h cs x) : cs = csG x ∧ GdR x := by
  obtain ⟨_, _, rfl, ⟨rfl, h0⟩, _, _, rfl, ⟨rfl, h1⟩, _, _, rfl, ⟨rfl, h2⟩, _, _, rfl, ⟨rfl, h3⟩, rfl, h4⟩ := hh
  exact ⟨rfl, h0, h1, h2, h3, h4⟩
theorem rGiven_mk {h : PH} {x : GD} (hx : GdR x) : rGiven.ok h (csG x) x :=
  ⟨[_], _, rfl, ⟨rfl, hx.node⟩, [_], _, rfl, ⟨rfl, hx.inc⟩, [_], _, rfl, ⟨rfl, hx.id.node⟩, [_], _, rfl, ⟨rfl, hx.id.inc⟩, rfl, hx.id.seq⟩
abbrev SlL := SlR rLife
abbrev SlE := SlR rEvent
abbrev SlG := SlR rGiven
/-- A value that is a service. -/
def VSv (h : PH) (v : Value) (s : SvD) : Prop := ∃ pl nl cl ps ns cs pe ne ce pg ng cg, v = .agg #[.slice pl nl cl, .slice ps ns cs, .int .u32 s.last, .slice pe ne ce, .slice pg ng cg] ∧ SlL h pl nl cl s.lives ∧ SlS h ps ns cs s.schema ∧ inR .u32 s.last ∧ SlE h pe ne ce s.events ∧ SlG h pg ng cg s.given
theorem VSv.mono {h h' : PH} {v : Value} {s : SvD} (hv : VSv h v s) (hl : h.le h') : VSv h' v s := by
  obtain ⟨pl, nl, cl, ps, ns, cs, pe, ne, ce, pg, ng, cg, rfl, a1, a2, a3, a4, a5⟩ := hv
  exact ⟨pl, nl, cl, ps, ns, cs, pe, ne, ce, pg, ng, cg, rfl, a1.mono hl, a2.mono hl, a3, a4.mono hl, a5.mono hl⟩
/-- A deed's numbers are of their kinds. -/
structure DeR (d : DeD) : Prop where
  what : inR .u8 d.what
  node : inR .u8 d.node
  ev : IdR d.ev.1
  id : IdR d.id
/-- A value that is a deed. -/
def VDe (h : PH) (v : Value) (d : DeD) : Prop := ∃ pf nf cf pv nv cv pd nd cd, v = .agg #[.int .u8 d.what, .int .u8 d.node, .slice pf nf cf, .int .u8 d.ev.1.1, .int .u16 d.ev.1.2.1, .int .u32 d.ev.1.2.2, .slice pv nv cv, .slice pd nd cd, .int .u8 d.id.1, .int .u16 d.id.2.1, .int .u32 d.id.2.2] ∧ DeR d ∧
  SlS h pf nf cf d.filter ∧ SlV h pv nv cv d.ev.2.1 ∧ SlB h pd nd cd d.ev.2.2
theorem VDe.mono {h h' : PH} {v : Value} {d : DeD} (hv : VDe h v d) (hl : h.le h') : VDe h' v d := by
  obtain ⟨pf, nf, cf, pv, nv, cv, pd, nd, cd, rfl, a1, a2, a3, a4⟩ := hv
  exact ⟨pf, nf, cf, pv, nv, cv, pd, nd, cd, rfl, a1, a2.mono hl, a3.mono hl, a4.mono hl⟩
/-! ### What becomes of a service -/
def findE (l : List EvD) (x : IDt) : Option EvD := l.find? fun e => decide (e.1 = x)
def dlvE (s : SvD) (x : LD) (d : DeD) : Int := match findE s.events d.id with
  | none => 261
  | some e => if matchF x.filter e.2.1 = false then 263 else if (s.given.any fun g => decide (g = ⟨d.node, x.inc, d.id⟩)) then 262 else 0
/-- The error of a deed of a life. -/
def refE (s : SvD) (x : LD) (d : DeD) : Int :=
  if d.what = 1 then (if x.up then 54 else if x.inc = 65535 then 55 else 0)
  else if x.up = false then 53
  else if d.what = 3 then normE s.schema d.filter
  else if d.what = 4 then (if fits s.schema d.ev.2.1 = false ∨ 64 < d.ev.2.2.length then 51 else if s.last ≤ x.seq then 55 else 0)
  else if d.what = 5 then dlvE s x d else 0
def kn (d : DeD) : Bool := decide (1 ≤ d.what) && decide (d.what ≤ 5)
def doE (s : SvD) (d : DeD) : Int := if kn d = false then 260 else match s.lives[d.node.toNat]? with
  | none => 2
  | some x => refE s x d
def nextL (s : SvD) (x : LD) (d : DeD) : LD :=
  if d.what = 1 then ⟨x.inc + 1, true, [], 0⟩ else if d.what = 2 then ⟨x.inc, false, [], x.seq⟩ else if d.what = 3 then ⟨x.inc, x.up, normF s.schema d.filter, x.seq⟩ else if d.what = 4 then ⟨x.inc, x.up, x.filter, x.seq + 1⟩ else x
def pubId (x : LD) (d : DeD) : IDt := (d.node, x.inc, x.seq + 1)
/-- What a deed that may be done makes of a service. -/
def effS (s : SvD) (x : LD) (d : DeD) : SvD :=
  ⟨s.lives.set d.node.toNat (nextL s x d), s.schema, s.last, if d.what = 4 then s.events ++ [(pubId x d, d.ev.2)] else s.events, if d.what = 5 then s.given ++ [⟨d.node, x.inc, d.id⟩] else s.given⟩
def effId (x : LD) (d : DeD) : IDt := if d.what = 4 then pubId x d else (0, 0, 0)
def doS (s : SvD) (d : DeD) : SvD := if doE s d ≠ 0 then s else match s.lives[d.node.toNat]? with
  | none => s
  | some x => effS s x d
def doI (s : SvD) (d : DeD) : IDt := if doE s d ≠ 0 then (0, 0, 0) else match s.lives[d.node.toNat]? with
  | none => (0, 0, 0)
  | some x => effId x d
def newS (nodes : Int) (schema : List Sp) (last : Int) : SvD := ⟨List.replicate (min (max nodes 0) 12).toNat LD.zero, schema, last, [], []⟩
/-- What is owed to a life. -/
def owedL (s : SvD) (k : Nat) (x : LD) : List GD := if x.up = false then [] else (s.events.filter fun e => matchF x.filter e.2.1 && !(s.given.any fun g => decide (g = ⟨k, x.inc, e.1⟩))).map fun e => ⟨k, x.inc, e.1⟩
def owedS (s : SvD) : List GD := (s.lives.zipIdx.map fun p => owedL s p.2 p.1).flatten
end Go.Proofs.Ytogepedlalfpjaa
