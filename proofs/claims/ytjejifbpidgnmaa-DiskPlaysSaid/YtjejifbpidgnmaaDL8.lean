/-
  The law: step at a read.
-/
import Derived.Test.YtjejifbpidgnmaaDL5
namespace Go.Proofs.Ytjejifbpidgnmaa
open Go.RowKit Go.Maps

set_option maxRecDepth 100000 in
set_option maxHeartbeats 1600000 in
theorem step_rd (d ms mv : Nat) (uv sv ov bv kv : Value) (room left at_ kind : Int) (down : Bool) (sure : List AFile) (way : List AOp) (K M : Nat) (name other : ByteArray) (w : World) (k0 : ¬ bits BinOp.and IntKind.i64 kind 7 = 0) (k1 : ¬ bits BinOp.and IntKind.i64 kind 7 = 1) (k2 : ¬ bits BinOp.and IntKind.i64 kind 7 = 2) (k3 : ¬ bits BinOp.and IntKind.i64 kind 7 = 3) (k4 : ¬ bits BinOp.and IntKind.i64 kind 7 = 4) (k5 : ¬ bits BinOp.and IntKind.i64 kind 7 = 5) (k6 : ¬ bits BinOp.and IntKind.i64 kind 7 = 6) (h : Inv w d ms mv uv sv ov room left down sure way K M)
    (hK : K ≤ 1000000) (hnm : name.size ≤ 100) :
    Calls Try.prog 7 #[.pointer (some ⟨d, 0, none⟩), .agg (rcells room sv ov left down), .agg (acells kind at_ name other bv kv)] w (StepPost d ms mv uv sv ov room K M w) := by
  obtain ⟨_, asv, caps, rfl, _, _, _⟩ := id h.fs
  obtain ⟨_, ao, capo, rfl, _, _, _⟩ := id h.os
  have hwl := h.pd.hK
  obtain ⟨hb0, hs0, hn0, g1, g2, g3⟩ := w3b_ok w room left kind at_ (.slice asv sure.length caps) (.slice ao way.length capo) bv kv down name other
  have hi0 := h.below hb0
  obtain ⟨⟨bs, er⟩, hr⟩ : ∃ r, r = aread down (aseen sure way) name := ⟨_, rfl⟩
  have hcw := Read_prog d ms mv uv room left down sure way K name (w3b w room left kind at_ (.slice asv sure.length caps) (.slice ao way.length capo) bv kv down name other) hi0.pd (by unfold maxLen; omega)
  have hcr := fun W h1 h2 => Read_any (.slice asv sure.length caps) (.slice ao way.length capo) room left down sure way name W h1 h2 (by omega) h.pd.ok (fun o ho => (h.pd.oo o ho).1)
  rw [← hr] at hcw hcr
  unfold ReadPost at hcw
  dsimp only at hcw hcr
  have hend := fun (w1 w2 : World) => any_end (w := w) (w0 := (w3b w room left kind at_ (.slice asv sure.length caps) (.slice ao way.length capo) bv kv down name other)) (w1 := w1) (w2 := w2) (ms' := ms) (mv' := mv) (uv' := uv) (ov' := .slice ao way.length capo) (sv' := .slice asv sure.length caps) (left' := left) (down' := down) (sure' := sure) (way' := way) h hb0 hs0 hn0
  have HB := Lib.hid (And.intro h.l1 (And.intro h.l2 (And.intro (h.ok.mono (M' := M + 200) (by omega)) (fun o ho => (h.oo o ho).mono (M' := M + 200) (by omega)))))
  have HI0 := Lib.hid hi0; have HCW := Lib.hid hcw; have HCR := Lib.hid hcr; have HEND := Lib.hid hend; have HG1 := Lib.hid g1; have HG2 := Lib.hid g2; have HG3 := Lib.hid g3
  have hlt := hs0
  have HF : Hid (∀ b, w.heap.size ≤ b → ¬ Foot d ms mv uv b) := Lib.hid fun b hb hf => by have := (h.pd.foot hf).2; omega
  clear hi0 hcw hcr hend hb0 hs0 hn0 g1 g2 g3 h hwl
  have e0 : (bits BinOp.and IntKind.i64 kind 7 == 0) = false := by simpa using k0
  have e1 : (bits BinOp.and IntKind.i64 kind 7 == 1) = false := by simpa using k1
  have e2 : (bits BinOp.and IntKind.i64 kind 7 == 2) = false := by simpa using k2
  have e3 : (bits BinOp.and IntKind.i64 kind 7 == 3) = false := by simpa using k3
  have e4 : (bits BinOp.and IntKind.i64 kind 7 == 4) = false := by simpa using k4
  have e5 : (bits BinOp.and IntKind.i64 kind 7 == 5) = false := by simpa using k5
  have e6 : (bits BinOp.and IntKind.i64 kind 7 == 6) = false := by simpa using k6
  clear k0 k1 k2 k3 k4 k5 k6
  go_enter Try.func7, Try.ntmps7
  go_wp2_with fail
  refine HCW.out.mono ?_
  rintro e w1 ⟨v', rfl, hbs1, hbel1⟩
  have hpd1 := HI0.out.pd.below hbel1
  have hk1 : Keeps (Foot d ms mv uv) (w3b w room left kind at_ (.slice asv sure.length caps) (.slice ao way.length capo) bv kv down name other) w1 := keeps_of_below hbel1 (Nat.le_refl _) _
  have HBS1 := Lib.hid hbs1
  have g1 := (hk1.block w.heap.size (by omega) (HF.out _ (by omega))).trans HG1.out
  have g2 := (hk1.block (w.heap.size + 1) (by omega) (HF.out _ (by omega))).trans HG2.out
  have g3 := (hk1.block (w.heap.size + 2) (by omega) (HF.out _ (by omega))).trans HG3.out
  obtain ⟨a1, z1⟩ := block_cells g1
  obtain ⟨a2, z2⟩ := block_cells g2
  have p0 := a1 0; have p1 := a1 1; have p2 := a1 2; have p3 := a1 3; have p4 := a1 4
  have q0 := a2 0; have q1 := a2 1; have q2 := a2 2; have q3 := a2 3; have q4 := a2 4; have q5 := a2 5
  simp only [List.getElem?_toArray, List.getElem?_cons_zero, List.getElem?_cons_succ] at p0 p1 p2 p3 p4 q0 q1 q2 q3 q4 q5
  have hsz1 := hk1.size
  have hfs1 := Sl.keep HI0.out.fs hk1 (fun b hb => HI0.out.dis b (.inl hb))
  have hos1 := Sl.keep HI0.out.os hk1 (fun b hb => HI0.out.dis b (.inr hb))
  have HP1 := Lib.hid (hpd1.mono (Nat.le_succ _)); have HK1 := Lib.hid hk1; have HFS1 := Lib.hid hfs1; have HOS1 := Lib.hid hos1; have HH3 := Lib.hid g3; have HHG1 := Lib.hid g1
  clear hpd1 hk1 hbs1 hbel1 hfs1 hos1 a1 a2 z1 z2 g1 g2 g3
  go_wp2_with fail
  refine (HCR.out w1 HFS1.out HOS1.out).mono ?_
  rintro e w2 ⟨rfl, hb2⟩
  have hT2 := (hb2.block (w.heap.size + 1 + 1) (by omega)).trans HH3.out
  obtain ⟨_, z3⟩ := block_cells hT2
  obtain ⟨a1, z1⟩ := block_cells ((hb2.block w.heap.size (by omega)).trans HHG1.out)
  clear p0 p1 p2 p3 p4 q0 q1 q2 q3 q4 q5
  have p0 := a1 0; have p1 := a1 1; have p2 := a1 2; have p3 := a1 3; have p4 := a1 4
  simp only [List.getElem?_toArray, List.getElem?_cons_zero, List.getElem?_cons_succ] at p0 p1 p2 p3 p4
  have hlt2 : w.heap.size + 1 + 1 < w2.heap.size := by have := hb2.size; omega
  have hfin := HEND.out w1 w2 HP1.out HK1.out (fun b hb => .inl hb) hb2 (HFS1.out.below hb2) (HOS1.out.below hb2) (.inl rfl) (.inl rfl) HB.out.1 HB.out.2.1 HB.out.2.2.1 HB.out.2.2.2 hT2 [.int .i64 room, .slice asv sure.length caps, .slice ao way.length capo, .int .i64 left, .bool down] rfl (.cells #[] 0)
  simp only [World.setCells, Nat.reduceAdd] at hfin
  have HFIN := Lib.hid hfin.2
  have HBS2 := Lib.hid (HBS1.out.below hb2)
  clear hb2 hfin hT2 a1 z1
  go_wp2_with (with_reducible refine halt_convert rfl ?_)
  refine on1 (wpList_convert_bs rfl rfl Try.underlying34 Try.underlying9 Try.underlying5 rfl HBS2.out.1 ?_)
  go_wp2_with fail
  exact bodyPost_ret (step_res HFIN.out.2 rfl rfl) rfl HFIN.out.1

end Go.Proofs.Ytjejifbpidgnmaa
