/- The chapter's examples on rings hold; what readable arguments are. -/
import Derived.Test.YtddhljoglhfhdaaRngA
namespace Go.Proofs.Ytddhljoglhfhdaa
open Go Go.GV
attribute [local irreducible] cw Go.GV.SpecM Go.GV.wpList Exit.then Exit.inBlock Go.GV.bodyPost wpPl wpPm wpPn TS rnd rPost YieldsB wpPT ptK
set_option maxRecDepth 10000
set_option maxHeartbeats 16000000
set_option linter.unusedVariables false
set_option linter.unusedSimpArgs false
/-- A part of a structure that is a value. -/
theorem od_field1 {P : Program} {C : Ctx} {L : En} {H : List HE} {h : PH} {dst : Option Tmp} {ty : TypeId} {pos : String} {after : Array Edge} {gd : Option (Nat × Bool)} {s : TypeId} {f off : Nat} {ft : TypeId} [TFd P s f off ft] [TI P ft 1 false] {x : Operand} {cs : List Value} {v : Value} (hx : Ev L x (.agg cs.toArray)) (hv : cs[off]? = some v) :
    OP P C ⟨dst, .field s x f, ty, pos, after, gd⟩ L H h v :=
  od_pure fun ρ w hρ _ => by
    have e1 := hρ x (by simp [Op.operands]) _ hx
    have hf := TFd.eq (P := P) (s := s) (f := f)
    cases hu : P.underlying s with
    | none => simp [hu] at hf
    | some d =>
      rw [hu] at hf
      cases d with
      | struct fs =>
        simp only [Option.map_eq_some_iff, Prod.mk.injEq] at hf
        obtain ⟨fd, hfd, rfl, rfl⟩ := hf
        have := run_part1 (P := P) (t := fd.type) TI.ag (cs := cs.toArray) (off := fd.offset) (v := v) (by simpa using hv) w
        simp [execOp, e1, Instr.field, run_underlying hu, hfd, asAgg, this]
      | _ => simp at hf

theorem awake_det (h : PH) : Det Try.prog 10 #[] h (.bool true) := by
  refine spec_enter (args := []) Try.func10 rfl Try.ntmps10 rfl (fun w l => ?_)
  repeat' (first | (refine is_pu ?_ (by rfl); first  | (apply hd_gon; rfl; rfl; (focus (constructor; (focus (first | rfl | (simp; done) | fail)); trivial))) | fail | refine hd_opTB ?_ | ((first | apply hd_ok | apply ch_ok | (apply hd_pn_run; rfl; exact aM)); (focus ((first | (apply OK.plain; rfl; apply OD.of) | (apply OKp.plain; rfl)); (first | (apply od_pickX; exact aX; (focus (first | rfl | (simp; done) | fail)); exact aX) | (apply od_pickY; exact aX; (focus (first | rfl | (simp; done) | fail)); exact aX)))); rfl; rfl)) | (refine is_pn ?_; first | refine hd_pn_nil ?_ | fail  | (apply hd_pn_runG; rfl; rfl; rfl; (focus (constructor; (focus (first | rfl | (simp; done) | fail)); trivial)); exact aM; (focus (apply od_field1; exact aX; rfl)); rfl; rfl) | (apply hd_pn_runG; rfl; rfl; rfl; (focus (constructor; (focus (first | rfl | (simp; done) | fail)); trivial)); exact aM; exact opB; rfl; rfl) | (apply hd_pn_offG; rfl; rfl; rfl; (focus exact fun hs => absurd hs.1 (by (first | decide | fail))); exact aM; rfl; rfl) | (apply hd_pn_undefG; rfl; rfl; rfl; exact aM; rfl; rfl) | fail | refine hd_pnTB ?_ | ((first | apply hd_ok | apply ch_ok | (apply hd_pn_run; rfl; exact aM)); (focus ((first | (apply OK.plain; rfl; apply OD.of) | (apply OKp.plain; rfl)); (first | (apply od_pickX; exact aX; (focus (first | rfl | (simp; done) | fail)); exact aX) | (apply od_pickY; exact aX; (focus (first | rfl | (simp; done) | fail)); exact aX)))); rfl; rfl) | (refine hd_pn_op rfl ?_)) | (refine is_co ?_; first | fail  | (apply hd_gon; rfl; rfl; (focus (constructor; (focus (first | rfl | (simp; done) | fail)); trivial))) | (refine is_vcall ?_; apply hd_pubR (r := rDesc) [[.int .u8 DA.node, .int .u16 DA.inc, .int .u8 DA.age, .slice pA nA cA], [.int .u8 DB.node, .int .u16 DB.inc, .int .u8 DB.age, .slice pB nB cB]] [DA, DB]; exact aP; rfl; (focus exact ⟨rDesc_mk DA_R (gA.mono (by exact aL)), rDesc_mk DB_R (gB.mono (by exact aL)), trivial⟩); rfl; (focus decide); (refine fun hAB hleAB hsAB => ?_)) | (refine is_vcall ?_; apply hd_pubR (r := rSl rDesc) [[.slice _ 2 2]] [[DA, DB]]; exact aP; rfl; (focus exact ⟨⟨_, _, _, rfl, hsAB.mono (by exact aL)⟩, trivial⟩); rfl; (focus decide); (refine fun hLL hleLL hsLL => ?_)) | (apply hd_call; exact aX; infer_instance; exact aE; exact aN; rfl; (focus exact law13_oneA _); (focus (rintro _ hh hlh ⟨pA, nA, cA, rfl, gA⟩; skip))) | (apply hd_call; exact aX; infer_instance; exact aE; exact aN; rfl; (focus exact law13_oneB _); (focus (rintro _ hh hlh ⟨pB, nB, cB, rfl, gB⟩; skip))) | (apply hd_call; exact aX; infer_instance; exact aE; exact aN; rfl; (focus exact law13_oneC _); (focus (rintro _ hh hlh ⟨pC, nC, cC, rfl, gC⟩; skip))) | (apply hd_call; exact aX; infer_instance; exact aE; exact aN; rfl; (focus exact law13_ten _); (focus (rintro _ hh hlh ⟨pT, nT, cT, rfl, gT⟩; skip))) | (apply hd_call; exact aX; infer_instance; exact aE; exact aN; rfl; (focus exact chooseA _ (gT.mono (by exact aL)) (VDs.of DC_R (gC.mono (by exact aL))) (hsLL.mono (by exact aL)) (by decide)); (focus (rintro _ hh hlh ⟨p6, n6, c6, q6, m6, d6, rfl, v1, v2, v3, v4⟩; obtain ⟨dA, uA, lA, ptA, rA⟩ := SlD_at hsAB (i := 0) rfl; obtain ⟨dB, uB, lB, ptB, rB⟩ := SlD_at hsAB (i := 1) rfl))) | (apply hd_call; exact aX; infer_instance; exact aE; exact aN; rfl; (focus exact choose0 _ (gT.mono (by exact aL)) (VDs.of DC_R (gC.mono (by exact aL)))); (focus (rintro _ hh hlh ⟨p7, n7, c7, q7, m7, d7, rfl, w1, w2, w3, w4⟩; skip))) | (apply hd_call; exact aX; infer_instance; exact aE; exact aN; rfl; (focus exact listA _ (VRg.of (r := RA) v1 (v2.mono (by exact aL)) v3 (v4.mono (by exact aL)))); (focus (rintro _ hh hlh ⟨p8, n8, c8, rfl, rfl⟩; skip))) | (apply hd_call; exact aX; infer_instance; exact aE; exact aN; rfl; (focus exact dropA _ (VRg.of (r := RA) v1 (v2.mono (by exact aL)) v3 (v4.mono (by exact aL)))); (focus (rintro _ hh hlh ⟨p9, n9, c9, q9, m9, d9, rfl, x1, x2, x3, x4⟩; skip))) | ((first | apply hd_ok | apply ch_ok); (focus ((first | (apply OK.plain; rfl)  ); (first | (apply od_call; exact aX; infer_instance; exact aE; exact aN; (focus (first | exact placeA _ (gT.mono (by exact aL)) (VDs.of DA_R (gA.mono (by exact aL))) | exact placeA _ (gT.mono (by exact aL)) (VDs.of DA_R (rA.2.1.mono (by exact aL))) | exact placeB _ (gT.mono (by exact aL)) (VDs.of DB_R (rB.2.1.mono (by exact aL))) | exact farA _ | exact law13_Same (r := RD.zero) (t := RD.zero) _ (VRg.of (r := RD.zero) w1 (w2.mono (by exact aL)) w3 (w4.mono (by exact aL))) (VRg.of (r := RD.zero) zero_R (SlR.nil _ _) zero_R (SlR.nil _ _))))) ))); rfl; rfl) | refine hd_storeA ?_ | refine hd_boxA (fun _ => ?_) | refine hd_alloc rfl (fun _ => ?_) | refine hd_makeA (fun _ => ?_) | refine hd_copyA ?_ | refine hd_litA (fun _ => ?_) | refine hd_appendA (fun _ _ => ?_)) | (refine is_ni ?_; first | (refine is_on ?_; first | refine pn_barA ?_ | refine pn_goA ?_ | refine pt_goA ?_  | refine ts_onA ?_) | refine hd_nil ?_) | (refine is_cw ?_; first | (refine is_rg ?_; first | fail | (refine hd_planT (id := 3) _ [] [.one 1 true, .one 2 true, .one 3 true, .one 0 false, .one 4 false, .one 5 true, .one 6 true, .one 8 true, .one 9 true, .one 10 true, .one 7 false, .one 11 false, .one 12 true, .one 13 true, .one 14 true, .one 15 false, .one 16 true, .one 17 true, .one 18 true, .one 19 true, .one 20 true, .one 21 true, .one 22 true, .one 23 true, .one 24 true, .one 25 true, .one 26 true, .one 27 true, .one 28 true, .one 29 true, .one 30 true, .one 31 true, .one 32 true, .one 33 true, .one 34 true, .one 35 true, .one 36 true, .one 37 true, .one 38 true, .one 42 true, .one 39 false, .one 40 false, .one 41 false, .one 43 false, .one 44 true, .one 45 true, .one 46 true, .one 47 false, .one 48 true, .one 49 true, .one 50 true, .one 51 true, .one 52 true, .one 53 false, .one 54 true, .one 55 true, .one 56 true, .one 57 true] follows_any (by kernel_rfl) rfl (by kernel_rfl) rfl ?_) | refine hd_draw follows_any (by decide +kernel) ?_) | (refine is_cd ?_; first | (refine hd_condT (by exact aX) (by (first | rfl | (simp; done) | fail)) ?_) | (refine hd_condF (by exact aX) (by (first | rfl | (simp; done) | fail)) ?_) | (refine hd_cond (by exact aX) (fun _ => ?_) (fun _ => ?_))) | fail | refine wkA ?_) | refine wkA ?_ | (refine is_ch ?_; refine ch_opTB ?_) | ((first | apply hd_ok | apply ch_ok); (focus ((first | (apply OK.plain; rfl)  ); (first | (apply od_call; exact aX; infer_instance; exact aE; exact aN; (focus (first | exact placeA _ (gT.mono (by exact aL)) (VDs.of DA_R (gA.mono (by exact aL))) | exact placeA _ (gT.mono (by exact aL)) (VDs.of DA_R (rA.2.1.mono (by exact aL))) | exact placeB _ (gT.mono (by exact aL)) (VDs.of DB_R (rB.2.1.mono (by exact aL))) | exact farA _ | exact law13_Same (r := RD.zero) (t := RD.zero) _ (VRg.of (r := RD.zero) w1 (w2.mono (by exact aL)) w3 (w4.mono (by exact aL))) (VRg.of (r := RD.zero) zero_R (SlR.nil _ _) zero_R (SlR.nil _ _))))) ))); rfl; rfl) | ((first | apply hd_ok | apply ch_ok | (apply hd_pn_run; rfl; exact aM)); (focus ((first | (apply OK.plain; rfl; apply OD.of) | (apply OKp.plain; rfl)); (first | (apply od_pickX; exact aX; (focus (first | rfl | (simp; done) | fail)); exact aX) | (apply od_pickY; exact aX; (focus (first | rfl | (simp; done) | fail)); exact aX)))); rfl; rfl) | fail | exact tsA | fail | (refine ts_step rfl (fun HF h1 hle => ?_)) | fail | fail)
  all_goals ((repeat (refine hd_undefer (by first | exact .inl rfl | exact .inr rfl) (by exact aP) ?_)); apply hd_res0; (focus (first | exact .inl rfl | exact .inr rfl)); rfl; exact aR)
  all_goals exact ret_bool (by (first | rfl | (simp; done) | fail))
section
variable {X : Type} {enc : TypeId × Value → X} {W : World} {v : Value} {d : DataW X} {q : List MemPlace} {r : Reach} {b : Nat}
theorem rdok_desc : RdOK enc Try.prog W rDesc 32 := fun cs hh => by
  obtain ⟨a0, h0⟩ := rdok_seg (f := 0) (rdok_int (t := 5)) hh
  obtain ⟨a1, h1⟩ := rdok_seg (f := 1) (rdok_int (t := 29)) hh
  obtain ⟨a2, h2⟩ := rdok_seg (f := 2) (rdok_int (t := 5)) hh
  obtain ⟨a3, h3⟩ := rdok_seg (f := 3) (rdok_slice (t := 30) (by decide) rfl rdok_span) hh
  have := seg_pair h0 (seg_pair h1 (seg_pair h2 h3))
  rw [seg_all (GV.rd_len hh)] at this
  exact ⟨⟨a0, a1, a2, a3⟩, this⟩
theorem ok_desc (hv : Value.okWide Try.prog W r b 32 v) (hh : DataW.Trod enc Try.prog W 0 (fun _ => true) true 32 v d q) : ∃ x, VDs (whole W) v x := by
  obtain ⟨cs, rfl⟩ := ok_struct hv
  obtain ⟨x, hx⟩ := rdok_desc cs (by simpa [Value.cells] using Rd.of hh)
  exact ⟨x, VDs.ofR hx⟩
theorem ok_descs (hv : Value.okWide Try.prog W r b 24 v) (hh : DataW.Trod enc Try.prog W 0 (fun _ => true) true 24 v d q) : ∃ xs, VDl (whole W) v xs := by
  obtain ⟨p, n, c, rfl⟩ := ok_slice hv
  obtain ⟨xs, p', n', c', e, hs⟩ := rdok_slice (t := 24) (by decide) rfl rdok_desc [.slice p n c] (by simpa [Value.cells] using Rd.of hh)
  simp at e; obtain ⟨rfl, rfl, rfl⟩ := e
  exact ⟨xs, _, _, _, rfl, hs⟩
end
end Go.Proofs.Ytddhljoglhfhdaa
