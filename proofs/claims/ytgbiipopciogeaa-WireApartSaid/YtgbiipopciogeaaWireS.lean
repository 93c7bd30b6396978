/- The rest of package grapevineref01, contracts whose results are handed out, and the chapter's examples. -/
import Derived.Test.YtgbiipopciogeaaWireR
namespace Go.Proofs.Ytgbiipopciogeaa
open Go Go.GV
set_option maxRecDepth 10000
set_option maxHeartbeats 4000000
set_option linter.unusedSimpArgs false
set_option linter.unusedVariables false
theorem B8.append {a b : List Int} (ha : B8 a) (hb : B8 b) : B8 (a ++ b) := fun x hx => by
  rcases List.mem_append.1 hx with h | h
  · exact ha x h
  · exact hb x h
theorem B8.nil : B8 [] := fun x hx => by cases hx
theorem putA_b8 {bs : List Int} (hb : B8 bs) (x k : Int) : B8 (putA bs x k) := by
  unfold putA
  split
  · exact hb.append (putB_b8 _ _ _)
  · exact hb
theorem takR_b8 {bs : List Int} (hb : B8 bs) (k : Int) : B8 (takR bs k) := by
  unfold takR
  split
  · exact hb.drop _
  · exact B8.nil
theorem tkT_b8 {bs : List Int} (hb : B8 bs) (k : Int) : B8 (tkT bs k) := by
  unfold tkT
  split
  · exact (hb.drop _).take _
  · exact B8.nil
theorem tkR_b8 {bs : List Int} (hb : B8 bs) (k : Int) : B8 (tkR bs k) := by
  unfold tkR
  split
  · exact (hb.drop _).drop _
  · exact B8.nil
theorem putT_b8 {bs ts : List Int} (hb : B8 bs) (ht : B8 ts) : B8 (putT bs ts) := by
  unfold putT
  split
  · exact (hb.append (putB_b8 _ _ _)).append ht
  · exact hb
theorem Inv.pub8 {C : Ctx} {H : List HE} {h : PH} {w : World} {p : Option Addr} {n c : Nat} {bs : List Int} (hw : GV.Inv C (row8 p n c bs :: H) h w) (hn : n = bs.length) (hb : B8 bs) (htop : n ≤ 9223372036854775807) : ∃ h', h.le h' ∧ Bs h' p n c bs ∧ GV.Inv C H h' w := by
  obtain ⟨h', h1, h2, h3⟩ := Inv.publish (xss := el8 bs) (by rw [el8_flat]; exact hw) (by simpa [el8] using hn.symm) (el8_each bs) htop
  exact ⟨h', h1, ⟨h2, hb⟩, h3⟩
theorem wire_PutP {p : Option Addr} {n c : Nat} {bs : List Int} (x k : Int) (h : PH) (hs : Bs h p n c bs) (hn : n ≤ 1000000) (hx : inR .u64 x) : GV.Spec Try.prog 14 #[.slice p n c, .int .u64 x, .int .i64 k] h fun v h' => ∃ p' c', v = .slice p' (putA bs x k).length c' ∧ Bs h' p' (putA bs x k).length c' (putA bs x k) := by
  refine SpecM.turn (wire_Put x k h hs hn hx) ?_
  rintro C v h' Ho w ⟨p', m, c', rfl, rfl, rfl⟩ hi
  have hl := hs.len
  obtain ⟨h2, _, hb, hi2⟩ := Inv.pub8 hi rfl (putA_b8 hs.b8 x k) (by unfold putA; split <;> (try simp [putB_len]) <;> omega)
  exact ⟨h2, [], ⟨⟨p', c', rfl, hb⟩, rfl⟩, hi2⟩
theorem ref_PutP {p : Option Addr} {n c : Nat} {bs : List Int} (x k : Int) (h : PH) (hs : Bs h p n c bs) (hn : n ≤ 1000000) (hx : inR .u64 x) : GV.Spec Try.prog 15 #[.slice p n c, .int .u64 x, .int .i64 k] h fun v h' => ∃ p' c', v = .slice p' (putA bs x k).length c' ∧ Bs h' p' (putA bs x k).length c' (putA bs x k) := by
  refine SpecM.turn (ref_Put x k h hs hn hx) ?_
  rintro C v h' Ho w ⟨p', m, c', rfl, rfl, rfl⟩ hi
  have hl := hs.len
  obtain ⟨h2, _, hb, hi2⟩ := Inv.pub8 hi rfl (putA_b8 hs.b8 x k) (by unfold putA; split <;> (try simp [putB_len]) <;> omega)
  exact ⟨h2, [], ⟨⟨p', c', rfl, hb⟩, rfl⟩, hi2⟩
theorem takR_len (bs : List Int) (k : Int) : (takR bs k).length ≤ bs.length := by unfold takR; split <;> simp
theorem wire_TakeP {p : Option Addr} {n c : Nat} {bs : List Int} (k : Int) (h : PH) (hs : Bs h p n c bs) (hn : n ≤ 1000000) : GV.Spec Try.prog 9 #[.slice p n c, .int .i64 k] h fun v h' => ∃ p' c', v = .tuple #[.int .u64 (takN bs k), .slice p' (takR bs k).length c', .bool (takOk bs k)] ∧ Bs h' p' (takR bs k).length c' (takR bs k) := by
  refine SpecM.turn (wire_Take k h hs hn) ?_
  rintro C v h' Ho w ⟨p', m, c', rfl, rfl, rfl⟩ hi
  have hl := hs.len
  have hl2 := takR_len bs k
  obtain ⟨h2, _, hb, hi2⟩ := Inv.pub8 hi rfl (takR_b8 hs.b8 k) (by omega)
  exact ⟨h2, [], ⟨⟨p', c', rfl, hb⟩, rfl⟩, hi2⟩
theorem ref_TakeP {p : Option Addr} {n c : Nat} {bs : List Int} (k : Int) (h : PH) (hs : Bs h p n c bs) (hn : n ≤ 1000000) : GV.Spec Try.prog 10 #[.slice p n c, .int .i64 k] h fun v h' => ∃ p' c', v = .tuple #[.int .u64 (takN bs k), .slice p' (takR bs k).length c', .bool (takOk bs k)] ∧ Bs h' p' (takR bs k).length c' (takR bs k) := by
  refine SpecM.turn (ref_Take k h hs hn) ?_
  rintro C v h' Ho w ⟨p', m, c', rfl, rfl, rfl⟩ hi
  have hl := hs.len
  have hl2 := takR_len bs k
  obtain ⟨h2, _, hb, hi2⟩ := Inv.pub8 hi rfl (takR_b8 hs.b8 k) (by omega)
  exact ⟨h2, [], ⟨⟨p', c', rfl, hb⟩, rfl⟩, hi2⟩
theorem putT_len (bs ts : List Int) : (putT bs ts).length ≤ bs.length + ts.length + 2 := by unfold putT; split <;> (try simp [putB_len]) <;> omega
theorem wire_PutTextP {p q : Option Addr} {n c m d : Nat} {bs ts : List Int} (h : PH) (hs : Bs h p n c bs) (ht : Bs h q m d ts) (hn : n ≤ 1000000) (hm : m ≤ 1000000) : GV.Spec Try.prog 16 #[.slice p n c, .slice q m d] h fun v h' => ∃ p' c', v = .slice p' (putT bs ts).length c' ∧ Bs h' p' (putT bs ts).length c' (putT bs ts) := by
  refine SpecM.turn (wire_PutText h hs ht hn hm) ?_
  rintro C v h' Ho w ⟨p', m, c', rfl, rfl, rfl⟩ hi
  have hl := hs.len
  have hl2 := ht.len
  have hl3 := putT_len bs ts
  obtain ⟨h2, _, hb, hi2⟩ := Inv.pub8 hi rfl (putT_b8 hs.b8 ht.b8) (by omega)
  exact ⟨h2, [], ⟨⟨p', c', rfl, hb⟩, rfl⟩, hi2⟩
theorem tkT_len (bs : List Int) (k : Int) : (tkT bs k).length ≤ bs.length := by unfold tkT; split <;> simp <;> omega
theorem tkR_len (bs : List Int) (k : Int) : (tkR bs k).length ≤ bs.length := by unfold tkR; split <;> simp <;> omega
theorem wire_TakeTextP {p : Option Addr} {n c : Nat} {bs : List Int} (k : Int) (h : PH) (hs : Bs h p n c bs) (hn : n ≤ 1000000) : GV.Spec Try.prog 11 #[.slice p n c, .int .i64 k] h fun v h' => ∃ p' c' q' d', v = .tuple #[.slice p' (tkT bs k).length c', .slice q' (tkR bs k).length d', .bool (tkOk bs k)] ∧ Bs h' p' (tkT bs k).length c' (tkT bs k) ∧ Bs h' q' (tkR bs k).length d' (tkR bs k) := by
  refine SpecM.turn (wire_TakeText k h hs hn) ?_
  rintro C v h' Ho w ⟨p', m, c', q', j, d', rfl, rfl, rfl, rfl⟩ hi
  have hl := hs.len
  have hl1 := tkT_len bs k
  have hl2 := tkR_len bs k
  obtain ⟨h2, hle2, hb, hi2⟩ := Inv.pub8 hi rfl (tkR_b8 hs.b8 k) (by omega)
  obtain ⟨h3, hle3, hb3, hi3⟩ := Inv.pub8 hi2 rfl (tkT_b8 hs.b8 k) (by omega)
  exact ⟨h3, [], ⟨⟨p', c', q', d', rfl, hb3, hb.mono hle3⟩, rfl⟩, hi3⟩
end Go.Proofs.Ytgbiipopciogeaa
