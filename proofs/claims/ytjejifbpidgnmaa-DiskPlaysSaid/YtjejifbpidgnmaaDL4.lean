/-
  The law: step at a rename, a removal.
-/
import Derived.Test.YtjejifbpidgnmaaDL3
namespace Go.Proofs.Ytjejifbpidgnmaa
open Go.RowKit Go.Maps

set_option maxRecDepth 100000 in
set_option maxHeartbeats 1600000 in
theorem step_rn (d ms mv : Nat) (uv sv ov bv kv : Value) (room left at_ kind : Int) (down : Bool) (sure : List AFile) (way : List AOp) (K M : Nat) (name other : ByteArray) (w : World) (hkd : bits BinOp.and IntKind.i64 kind 7 = 2) (h : Inv w d ms mv uv sv ov room left down sure way K M)
    (hK : K ≤ 1000000) (hM : M ≤ 1000000) (hnm : name.size ≤ 100) (hno : other.size ≤ 100) :
    Calls Try.prog 7 #[.pointer (some ⟨d, 0, none⟩), .agg (rcells room sv ov left down), .agg (acells kind at_ name other bv kv)] w (StepPost d ms mv uv sv ov room K M w) := by
  obtain ⟨_, asv, caps, rfl, _, _, _⟩ := id h.fs
  obtain ⟨_, ao, capo, rfl, _, _, _⟩ := id h.os
  have hwl := h.pd.hK
  obtain ⟨hb0, hs0, hn0, g1, g2, g3⟩ := w3b_ok w room left kind at_ (.slice asv sure.length caps) (.slice ao way.length capo) bv kv down name other
  have hi0 := h.below hb0
  obtain ⟨⟨way', left', down', er⟩, hr⟩ : ∃ r, r = aask (afits room down (aseen sure way) 1 name other 0 []) way ⟨1, name, other, 0, []⟩ left down := ⟨_, rfl⟩
  have hcw := Rename_any d ms mv uv room left down sure way K name other (w3b w room left kind at_ (.slice asv sure.length caps) (.slice ao way.length capo) bv kv down name other) hi0.pd hK h.l1 h.l2 (by unfold maxLen; omega) (by unfold maxLen; omega)
  have hcr := fun W h1 h2 => RAsk_rn (.slice asv sure.length caps) (.slice ao way.length capo) room left down sure way name other W h1 h2 (by omega) h.l1 h.l2 h.pd.ok (fun o ho => (h.pd.oo o ho).1)
  have hend := fun (w1 w2 : World) (uv' ov' : Value) => ask_end (w := w) (w0 := w3b w room left kind at_ (.slice asv sure.length caps) (.slice ao way.length capo) bv kv down name other) (w1 := w1) (w2 := w2) (uv' := uv') (ov' := ov') h hb0 hs0 hn0 hr (fun hE => ⟨by simp, by simp⟩)
  unfold AskPost at hcw
  unfold RAskPost at hcr
  rw [← hr] at hcw hcr
  dsimp only at hcw hcr
  have HI0 := Lib.hid hi0; have HCW := Lib.hid hcw; have HCR := Lib.hid hcr; have HEND := Lib.hid hend; have HG1 := Lib.hid g1; have HG2 := Lib.hid g2; have HG3 := Lib.hid g3
  have hlt := hs0
  have HF : Hid (∀ b, w.heap.size ≤ b → ¬ Foot d ms mv uv b) := Lib.hid fun b hb hf => by have := (h.pd.foot hf).2; omega
  clear hi0 hcw hcr hend hb0 hs0 hn0 g1 g2 g3 h hwl
  go_enter Try.func7, Try.ntmps7
  go_wp2_with fail
  refine HCW.out.mono ?_
  rintro e w1 ⟨uv', rfl, hpd1, hk1, hf1⟩
  have g1 := (hk1.block w.heap.size (by omega) (HF.out _ (by omega))).trans HG1.out
  have g2 := (hk1.block (w.heap.size + 1) (by omega) (HF.out _ (by omega))).trans HG2.out
  have g3 := (hk1.block (w.heap.size + 2) (by omega) (HF.out _ (by omega))).trans HG3.out
  obtain ⟨a1, z1⟩ := block_cells g1
  obtain ⟨a2, z2⟩ := block_cells g2
  have p0 := a1 0; have p1 := a1 1; have p2 := a1 2; have p3 := a1 3; have p4 := a1 4
  have q0 := a2 0; have q1 := a2 1; have q2 := a2 2; have q3 := a2 3; have q4 := a2 4; have q5 := a2 5
  simp only [List.getElem?_toArray, List.getElem?_cons_zero, List.getElem?_cons_succ] at p0 p1 p2 p3 p4 q0 q1 q2 q3 q4 q5
  have hsz1 := hk1.size
  have hfs1 := Sl.keep HI0.out.fs hk1 (fun b hb => HI0.out.dis b (.inl hb))
  have hos1 := Sl.keep HI0.out.os hk1 (fun b hb => HI0.out.dis b (.inr hb))
  have HP1 := Lib.hid hpd1; have HK1 := Lib.hid hk1; have HF1 := Lib.hid hf1; have HFS1 := Lib.hid hfs1; have HOS1 := Lib.hid hos1; have HH3 := Lib.hid g3
  clear hpd1 hk1 hf1 hfs1 hos1 a1 a2 z1 z2 g1 g2 g3
  go_wp2_with fail
  refine (HCR.out w1 HFS1.out HOS1.out).mono ?_
  rintro e w2 ⟨ov', rfl, hos2, hfr2, hb2⟩
  obtain ⟨_, ao', capo', rfl, _, _, _⟩ := id hos2
  have hT2 := (hb2.block (w.heap.size + 1 + 1) (by omega)).trans HH3.out
  obtain ⟨_, z3⟩ := block_cells hT2
  have hlt2 : w.heap.size + 1 + 1 < w2.heap.size := by have := hb2.size; omega
  have hfin := HEND.out w1 w2 uv' (.slice ao' way'.length capo') HP1.out HK1.out HF1.out hos2 hfr2 hb2 (.cells (rcells room (.slice asv sure.length caps) (.slice ao' way'.length capo') left' down') 31) hT2 [.int .i64 room, .slice asv sure.length caps, .slice ao' way'.length capo', .int .i64 left', .bool down'] rfl
  simp only [World.setCells, Nat.reduceAdd] at hfin
  have HFIN := Lib.hid hfin
  clear hos2 hfr2 hb2 hfin hT2 p0 p1 p2 p3 p4 q0 q1 q2 q3 q4 q5
  go_wp2_with fail
  exact bodyPost_ret (step_res HFIN.out.2 rfl rfl) rfl HFIN.out.1

set_option maxRecDepth 100000 in
set_option maxHeartbeats 1600000 in
theorem step_rm (d ms mv : Nat) (uv sv ov bv kv : Value) (room left at_ kind : Int) (down : Bool) (sure : List AFile) (way : List AOp) (K M : Nat) (name other : ByteArray) (w : World) (hkd : bits BinOp.and IntKind.i64 kind 7 = 3) (h : Inv w d ms mv uv sv ov room left down sure way K M)
    (hK : K ≤ 1000000) (hM : M ≤ 1000000) (hnm : name.size ≤ 100) :
    Calls Try.prog 7 #[.pointer (some ⟨d, 0, none⟩), .agg (rcells room sv ov left down), .agg (acells kind at_ name other bv kv)] w (StepPost d ms mv uv sv ov room K M w) := by
  obtain ⟨_, asv, caps, rfl, _, _, _⟩ := id h.fs
  obtain ⟨_, ao, capo, rfl, _, _, _⟩ := id h.os
  have hwl := h.pd.hK
  obtain ⟨hb0, hs0, hn0, g1, g2, g3⟩ := w3b_ok w room left kind at_ (.slice asv sure.length caps) (.slice ao way.length capo) bv kv down name other
  have hi0 := h.below hb0
  obtain ⟨⟨way', left', down', er⟩, hr⟩ : ∃ r, r = aask (afits room down (aseen sure way) 2 name ⟨#[]⟩ 0 []) way ⟨2, name, ⟨#[]⟩, 0, []⟩ left down := ⟨_, rfl⟩
  have hcw := Remove_any d ms mv uv room left down sure way K name (w3b w room left kind at_ (.slice asv sure.length caps) (.slice ao way.length capo) bv kv down name other) hi0.pd hK h.l1 h.l2 (by unfold maxLen; omega)
  have hcr := fun W h1 h2 => RAsk_rm (.slice asv sure.length caps) (.slice ao way.length capo) room left down sure way name W h1 h2 (by omega) h.l1 h.l2 h.pd.ok (fun o ho => (h.pd.oo o ho).1)
  have hend := fun (w1 w2 : World) (uv' ov' : Value) => ask_end (w := w) (w0 := w3b w room left kind at_ (.slice asv sure.length caps) (.slice ao way.length capo) bv kv down name other) (w1 := w1) (w2 := w2) (uv' := uv') (ov' := ov') h hb0 hs0 hn0 hr (fun hE => ⟨by simp, by simp⟩)
  unfold AskPost at hcw
  unfold RAskPost at hcr
  rw [← hr] at hcw hcr
  dsimp only at hcw hcr
  have HI0 := Lib.hid hi0; have HCW := Lib.hid hcw; have HCR := Lib.hid hcr; have HEND := Lib.hid hend; have HG1 := Lib.hid g1; have HG2 := Lib.hid g2; have HG3 := Lib.hid g3
  have hlt := hs0
  have HF : Hid (∀ b, w.heap.size ≤ b → ¬ Foot d ms mv uv b) := Lib.hid fun b hb hf => by have := (h.pd.foot hf).2; omega
  clear hi0 hcw hcr hend hb0 hs0 hn0 g1 g2 g3 h hwl
  go_enter Try.func7, Try.ntmps7
  go_wp2_with fail
  refine HCW.out.mono ?_
  rintro e w1 ⟨uv', rfl, hpd1, hk1, hf1⟩
  have g1 := (hk1.block w.heap.size (by omega) (HF.out _ (by omega))).trans HG1.out
  have g2 := (hk1.block (w.heap.size + 1) (by omega) (HF.out _ (by omega))).trans HG2.out
  have g3 := (hk1.block (w.heap.size + 2) (by omega) (HF.out _ (by omega))).trans HG3.out
  obtain ⟨a1, z1⟩ := block_cells g1
  obtain ⟨a2, z2⟩ := block_cells g2
  have p0 := a1 0; have p1 := a1 1; have p2 := a1 2; have p3 := a1 3; have p4 := a1 4
  have q0 := a2 0; have q1 := a2 1; have q2 := a2 2; have q3 := a2 3; have q4 := a2 4; have q5 := a2 5
  simp only [List.getElem?_toArray, List.getElem?_cons_zero, List.getElem?_cons_succ] at p0 p1 p2 p3 p4 q0 q1 q2 q3 q4 q5
  have hsz1 := hk1.size
  have hfs1 := Sl.keep HI0.out.fs hk1 (fun b hb => HI0.out.dis b (.inl hb))
  have hos1 := Sl.keep HI0.out.os hk1 (fun b hb => HI0.out.dis b (.inr hb))
  have HP1 := Lib.hid hpd1; have HK1 := Lib.hid hk1; have HF1 := Lib.hid hf1; have HFS1 := Lib.hid hfs1; have HOS1 := Lib.hid hos1; have HH3 := Lib.hid g3
  clear hpd1 hk1 hf1 hfs1 hos1 a1 a2 z1 z2 g1 g2 g3
  go_wp2_with fail
  refine (HCR.out w1 HFS1.out HOS1.out).mono ?_
  rintro e w2 ⟨ov', rfl, hos2, hfr2, hb2⟩
  obtain ⟨_, ao', capo', rfl, _, _, _⟩ := id hos2
  have hT2 := (hb2.block (w.heap.size + 1 + 1) (by omega)).trans HH3.out
  obtain ⟨_, z3⟩ := block_cells hT2
  have hlt2 : w.heap.size + 1 + 1 < w2.heap.size := by have := hb2.size; omega
  have hfin := HEND.out w1 w2 uv' (.slice ao' way'.length capo') HP1.out HK1.out HF1.out hos2 hfr2 hb2 (.cells (rcells room (.slice asv sure.length caps) (.slice ao' way'.length capo') left' down') 31) hT2 [.int .i64 room, .slice asv sure.length caps, .slice ao' way'.length capo', .int .i64 left', .bool down'] rfl
  simp only [World.setCells, Nat.reduceAdd] at hfin
  have HFIN := Lib.hid hfin
  clear hos2 hfr2 hb2 hfin hT2 p0 p1 p2 p3 p4 q0 q1 q2 q3 q4 q5
  go_wp2_with fail
  exact bodyPost_ret (step_res HFIN.out.2 rfl rfl) rfl HFIN.out.1

end Go.Proofs.Ytjejifbpidgnmaa
