/- What the laws of layer 20 share: readable messages, starts, fails, the chapter's examples, Few. -/
import Derived.Test.YtmpfeaoofkkhjaaGreatMgZ
import Derived.Test.YtmpfeaoofkkhjaaGreatFArg
namespace Go.Proofs.YtmpfeaoofkkhjaaGreat
open Go Go.GV
attribute [local irreducible] cw Go.GV.SpecM Go.GV.wpList Exit.then Exit.inBlock Go.GV.bodyPost wpPl wpPm wpPn TS rnd rPost YieldsB wpPT ptK
set_option maxRecDepth 10000
set_option maxHeartbeats 8000000
set_option linter.unusedVariables false
set_option linter.unusedSimpArgs false
def rMsgP := rPair (rInt .u8) (rPair (rInt .u8) (rPair (rInt .u16) (rPair (rInt .u8) (rPair (rSl rDs) (rPair (rSl rMm) (rPair (rPair rID (rPair (rSl (rInt .i32)) (rSl (rInt .u8)))) (rPair (rInt .u8) (rPair rID (rPair (rSl rID) (rSl rID))))))))))
def rMsg : Rp MsD := rMap rMsgP fun x => (x.kind, x.frm, x.inc, x.to_, x.list, x.table, x.ev, x.hops, x.origin, x.marks, x.ids)
theorem rMsg_ok {h : PH} {cs : List Value} {x : MsD} (hh : rMsg.ok h cs x) : ∃ a : MsP, cs = a.cs x ∧ VMsP h a x := by
  obtain ⟨_, _, rfl, ⟨rfl, h0⟩, _, _, rfl, ⟨rfl, h1⟩, _, _, rfl, ⟨rfl, h2⟩, _, _, rfl, ⟨rfl, h3⟩, _, _, rfl, ⟨pl, nl, cl, rfl, h4⟩, _, _, rfl, ⟨pt, nt, ct, rfl, h5⟩, _, _, rfl, ⟨_, _, rfl, e1, _, _, rfl, ⟨pv, nv, cv, rfl, e2⟩, ⟨pd, nd, cd, rfl, e3⟩⟩, _, _, rfl, ⟨rfl, h7⟩, _, _, rfl, h8, _, _, rfl, ⟨pm, nm, cm, rfl, h9⟩, ⟨pi, ni, ci, rfl, h10⟩⟩ := hh
  obtain ⟨rfl, f1⟩ := rID_ok e1
  obtain ⟨rfl, f8⟩ := rID_ok h8
  exact ⟨⟨pl, nl, cl, pt, nt, ct, pv, nv, cv, pd, nd, cd, pm, nm, cm, pi, ni, ci⟩, rfl, ⟨h4, h5, e2, e3, h9, h10, ⟨h0, h1, h2, h3, SlD_in h4, SlM_in h5, ⟨f1, e2.inR, e3.inR⟩, h7, f8, SlK_in h9, SlK_in h10⟩⟩⟩
theorem rMsg_mk {h : PH} {a : MsP} {x : MsD} (hv : VMsP h a x) : rMsg.ok h (a.cs x) x :=
  ⟨[_], _, rfl, ⟨rfl, hv.r.kind⟩, [_], _, rfl, ⟨rfl, hv.r.frm⟩, [_], _, rfl, ⟨rfl, hv.r.inc⟩, [_], _, rfl, ⟨rfl, hv.r.to_⟩, [_], _, rfl, ⟨_, _, _, rfl, hv.list⟩, [_], _, rfl, ⟨_, _, _, rfl, hv.table⟩, [_, _, _, _, _], _, rfl, ⟨[_, _, _], _, rfl, rID_mk hv.r.ev.1, [_], _, rfl, ⟨_, _, _, rfl, hv.vals⟩, ⟨_, _, _, rfl, hv.data⟩⟩, [_], _, rfl, ⟨rfl, hv.r.hops⟩, [_, _, _], _, rfl, rID_mk hv.r.origin, [_], _, rfl, ⟨_, _, _, rfl, hv.marks⟩, ⟨_, _, _, rfl, hv.ids⟩⟩
theorem VMs.mono {h h' : PH} {v : Value} {m : MsD} (hv : VMs h v m) (hl : h.le h') : VMs h' v m := by
  obtain ⟨a, rfl, h1⟩ := hv
  exact ⟨a, rfl, h1.mono hl⟩
section
variable {X : Type} {enc : TypeId × Value → X} {W : World} {v : Value} {d : DataW X} {q : List MemPlace} {r : Reach} {b : Nat}
theorem rdok_id : RdOK enc Tryz.prog W rID 27 := fun cs hh => by
  obtain ⟨a, ha⟩ := rdok_seg (f := 0) (rdok_int (t := 5)) hh
  obtain ⟨e, he⟩ := rdok_seg (f := 1) (rdok_int (t := 22)) hh
  obtain ⟨g, hg⟩ := rdok_seg (f := 2) (rdok_int (t := 25)) hh
  have := seg_pair ha (seg_pair he hg)
  rw [seg_all (GV.rd_len hh)] at this
  exact ⟨_, this⟩
theorem rdok_mark : RdOK enc Tryz.prog W rID 32 := fun cs hh => by
  obtain ⟨a, ha⟩ := rdok_seg (f := 0) (rdok_int (t := 5)) hh
  obtain ⟨e, he⟩ := rdok_seg (f := 1) (rdok_int (t := 22)) hh
  obtain ⟨g, hg⟩ := rdok_seg (f := 2) (rdok_int (t := 25)) hh
  have := seg_pair ha (seg_pair he hg)
  rw [seg_all (GV.rd_len hh)] at this
  exact ⟨_, this⟩
theorem rdok_mem : RdOK enc Tryz.prog W rMm 46 := fun cs hh => by
  obtain ⟨a, ha⟩ := rdok_seg (f := 0) (rdok_int (t := 22)) hh
  obtain ⟨e, he⟩ := rdok_seg (f := 1) (rdok_int (t := 5)) hh
  obtain ⟨g, hg⟩ := rdok_seg (f := 2) (rdok_int (t := 5)) hh
  have := seg_pair ha (seg_pair he hg)
  rw [seg_all (GV.rd_len hh)] at this
  exact ⟨_, this⟩
theorem rdok_desc : RdOK enc Tryz.prog W rDs 44 := fun cs hh => by
  obtain ⟨a0, h0⟩ := rdok_seg (f := 0) (rdok_int (t := 5)) hh
  obtain ⟨a1, h1⟩ := rdok_seg (f := 1) (rdok_int (t := 22)) hh
  obtain ⟨a2, h2⟩ := rdok_seg (f := 2) (rdok_int (t := 5)) hh
  obtain ⟨a3, h3⟩ := rdok_seg (f := 3) (rdok_slice (t := 42) (by decide) rfl rdok_span) hh
  have := seg_pair h0 (seg_pair h1 (seg_pair h2 h3))
  rw [seg_all (GV.rd_len hh)] at this
  exact ⟨_, this⟩
theorem rdok_event : RdOK enc Tryz.prog W (rPair rID (rPair (rSl (rInt .i32)) (rSl (rInt .u8)))) 31 := fun cs hh => by
  obtain ⟨a, ha⟩ := rdok_seg (f := 0) rdok_id hh
  obtain ⟨e, he⟩ := rdok_seg (f := 1) (rdok_slice (t := 28) (by decide) rfl (rdok_int (k := .i32))) hh
  obtain ⟨g, hg⟩ := rdok_seg (f := 2) (rdok_slice (t := 29) (by decide) rfl (rdok_int (k := .u8))) hh
  have := seg_pair ha (seg_pair he hg)
  rw [seg_all (GV.rd_len hh)] at this
  exact ⟨_, this⟩
theorem rdok_msg : RdOK enc Tryz.prog W rMsg 36 := fun cs hh => by
  obtain ⟨a0, h0⟩ := rdok_seg (f := 0) (rdok_int (t := 5)) hh
  obtain ⟨a1, h1⟩ := rdok_seg (f := 1) (rdok_int (t := 5)) hh
  obtain ⟨a2, h2⟩ := rdok_seg (f := 2) (rdok_int (t := 22)) hh
  obtain ⟨a3, h3⟩ := rdok_seg (f := 3) (rdok_int (t := 5)) hh
  obtain ⟨a4, h4⟩ := rdok_seg (f := 4) (rdok_slice (t := 23) (by decide) rfl rdok_desc) hh
  obtain ⟨a5, h5⟩ := rdok_seg (f := 5) (rdok_slice (t := 24) (by decide) rfl rdok_mem) hh
  obtain ⟨a6, h6⟩ := rdok_seg (f := 6) rdok_event hh
  obtain ⟨a7, h7⟩ := rdok_seg (f := 7) (rdok_int (t := 5)) hh
  obtain ⟨a8, h8⟩ := rdok_seg (f := 8) rdok_mark hh
  obtain ⟨a9, h9⟩ := rdok_seg (f := 9) (rdok_slice (t := 33) (by decide) rfl rdok_mark) hh
  obtain ⟨a10, h10⟩ := rdok_seg (f := 10) (rdok_slice (t := 34) (by decide) rfl rdok_id) hh
  have := seg_pair h0 (seg_pair h1 (seg_pair h2 (seg_pair h3 (seg_pair h4 (seg_pair h5 (seg_pair h6 (seg_pair h7 (seg_pair h8 (seg_pair h9 h10)))))))))
  rw [seg_all (GV.rd_len hh)] at this
  exact ⟨⟨a0, a1, a2, a3, a4, a5, a6, a7, a8, a9, a10⟩, this⟩
theorem ok_message (hv : Value.okWide Tryz.prog W r b 36 v) (hh : DataW.Trod enc Tryz.prog W 0 (fun _ => true) true 36 v d q) : ∃ x, VMs (whole W) v x := by
  obtain ⟨cs, rfl⟩ := ok_struct hv
  obtain ⟨x, hx⟩ := rdok_msg cs (by simpa [Value.cells] using Rd.of hh)
  obtain ⟨a, rfl, h1⟩ := rMsg_ok hx
  exact ⟨x, a, rfl, h1⟩
end
end Go.Proofs.YtmpfeaoofkkhjaaGreat
