/-
  The law: step at a stop.
-/
import Derived.Test.YtjejifbpidgnmaaDL5
namespace Go.Proofs.Ytjejifbpidgnmaa
open Go.RowKit Go.Maps

set_option maxRecDepth 100000 in
set_option maxHeartbeats 1600000 in
theorem step_st (d ms mv : Nat) (uv sv ov bv kv : Value) (room left at_ kind : Int) (down : Bool) (sure : List AFile) (way : List AOp) (K M : Nat) (name other : ByteArray) (w : World) (hkd : bits BinOp.and IntKind.i64 kind 7 = 5) (h : Inv w d ms mv uv sv ov room left down sure way K M)
    (hK : K ≤ 1000000) (hat : at_ ≤ 1099511627776) :
    Calls Try.prog 7 #[.pointer (some ⟨d, 0, none⟩), .agg (rcells room sv ov left down), .agg (acells kind at_ name other bv kv)] w (StepPost d ms mv uv sv ov room K M w) := by
  obtain ⟨_, asv, caps, rfl, _, _, _⟩ := id h.fs
  obtain ⟨_, ao, capo, rfl, _, _, _⟩ := id h.os
  have hwl := h.pd.hK
  obtain ⟨hb0, hs0, hn0, g1, g2, g3⟩ := w3b_ok w room left kind at_ (.slice asv sure.length caps) (.slice ao way.length capo) bv kv down name other
  have hi0 := h.below hb0
  obtain ⟨left', hleft⟩ : ∃ l, l = (if at_ < 0 then -1 else at_) := ⟨_, rfl⟩
  have hl1 : -1 ≤ left' := by rw [hleft]; split <;> omega
  have hl2 : left' ≤ 9223372036854775807 := by rw [hleft]; split <;> omega
  have hcw := Stop_any d ms mv uv room left down sure way K at_ (w3b w room left kind at_ (.slice asv sure.length caps) (.slice ao way.length capo) bv kv down name other) hi0.pd
  rw [← hleft] at hcw
  have hend := fun (w1 w3 : World) => h.step (w0 := (w3b w room left kind at_ (.slice asv sure.length caps) (.slice ao way.length capo) bv kv down name other)) (w1 := w1) (w2 := w1) (w3 := w3) (ms' := ms) (mv' := mv) (uv' := uv) (ov' := .slice ao way.length capo) (sv' := .slice asv sure.length caps) (left' := left') (down' := down) (sure' := sure) (way' := way) hb0 hs0
  have HLEFT := Lib.hid hleft
  have HN0 := Lib.hid hn0
  have HOK := Lib.hid (And.intro (h.ok.mono (M' := M + 200) (by omega)) (fun o ho => (h.oo o ho).mono (M' := M + 200) (by omega)))
  have HI0 := Lib.hid hi0; have HCW := Lib.hid hcw; have HEND := Lib.hid hend; have HG1 := Lib.hid g1; have HG2 := Lib.hid g2; have HG3 := Lib.hid g3
  have hlt := hs0
  have HF : Hid (∀ b, w.heap.size ≤ b → ¬ Foot d ms mv uv b) := Lib.hid fun b hb hf => by have := (h.pd.foot hf).2; omega
  clear hi0 hcw hend hb0 hs0 hn0 g1 g2 g3 h hwl hleft
  go_enter Try.func7, Try.ntmps7
  go_wp2_with fail
  refine HCW.out.mono ?_
  rintro e w1 ⟨rfl, hpd1, hk1⟩
  have g1 := (hk1.block w.heap.size (by omega) (HF.out _ (by omega))).trans HG1.out
  have g2 := (hk1.block (w.heap.size + 1) (by omega) (HF.out _ (by omega))).trans HG2.out
  have g3 := (hk1.block (w.heap.size + 2) (by omega) (HF.out _ (by omega))).trans HG3.out
  obtain ⟨a1, z1⟩ := block_cells g1
  obtain ⟨a2, z2⟩ := block_cells g2
  have p0 := a1 0; have p1 := a1 1; have p2 := a1 2; have p3 := a1 3; have p4 := a1 4
  have q0 := a2 0; have q1 := a2 1; have q2 := a2 2; have q3 := a2 3; have q4 := a2 4; have q5 := a2 5
  simp only [List.getElem?_toArray, List.getElem?_cons_zero, List.getElem?_cons_succ] at p0 p1 p2 p3 p4 q0 q1 q2 q3 q4 q5
  have hsz1 := hk1.size
  have hfs1 := Sl.keep HI0.out.fs hk1 (fun b hb => HI0.out.dis b (.inl hb))
  have hos1 := Sl.keep HI0.out.os hk1 (fun b hb => HI0.out.dis b (.inr hb))
  have HP1 := Lib.hid (hpd1.mono (Nat.le_succ _)); have HK1 := Lib.hid hk1; have HFS1 := Lib.hid hfs1; have HOS1 := Lib.hid hos1; have HH3 := Lib.hid g3
  clear hpd1 hk1 hfs1 hos1 a1 a2 z2 g1 g2
  obtain ⟨_, z3⟩ := block_cells (b := w.heap.size + 1 + 1) g3
  have hlt2 : w.heap.size + 1 + 1 < w1.heap.size := by omega
  have hfin : ∀ W1, Keeps (· = w.heap.size) w1 W1 → StepPost d ms mv uv (.slice asv sure.length caps) (.slice ao way.length capo) room K M w (.returned (.tuple #[.agg #[.int .i64 room, .slice asv sure.length caps, .slice ao way.length capo, .int .i64 left', .bool down], .bool true])) (W1.setCells (w.heap.size + 1 + 1) 0 [.int .i64 room, .slice asv sure.length caps, .slice ao way.length capo, .int .i64 left', .bool down]) ∧
      (W1.setCells (w.heap.size + 1 + 1) 0 [.int .i64 room, .slice asv sure.length caps, .slice ao way.length capo, .int .i64 left', .bool down]).heap[w.heap.size + 1 + 1]? = some (.cells [.int .i64 room, .slice asv sure.length caps, .slice ao way.length capo, .int .i64 left', .bool down].toArray 31) := by
    intro W1 kW
    obtain ⟨s1, _⟩ := setCells_whole ((kW.block (w.heap.size + 1 + 1) hlt2 (by omega)).trans g3) [.int .i64 room, .slice asv sure.length caps, .slice ao way.length capo, .int .i64 left', .bool down] rfl
    refine ⟨HEND.out w1 _ HP1.out HK1.out (fun b hb => .inl hb) (Below.refl _ _) HFS1.out HOS1.out (.inl rfl) (.inl rfl) hl1 hl2 HOK.out.1 HOK.out.2 ?_ HN0.out, s1⟩
    exact keeps_setCells (kW.mono (fun i _ hi => by subst hi; omega)) (fun _ => by omega) _ _
  have HFIN := Lib.hid hfin
  clear g3 hfin
  by_cases hneg : at_ < 0
  · obtain rfl : left' = -1 := by rw [HLEFT.out, if_pos hneg]
    have hf := HFIN.out _ ((keeps_cell w1 w.heap.size 3 (.int .i64 at_)).trans (keeps_cell _ w.heap.size 3 (.int .i64 (-1))))
    simp only [World.setCells, Nat.reduceAdd] at hf
    have HF2 := Lib.hid hf; clear hf
    go_wp2_with fail
    exact bodyPost_ret (step_res HF2.out.2 rfl rfl) rfl HF2.out.1
  · obtain rfl : left' = at_ := by rw [HLEFT.out, if_neg hneg]
    have hf := HFIN.out _ (keeps_cell w1 w.heap.size 3 (.int .i64 left'))
    simp only [World.setCells, Nat.reduceAdd] at hf
    have HF2 := Lib.hid hf; clear hf
    go_wp2_with fail
    exact bodyPost_ret (step_res HF2.out.2 rfl rfl) rfl HF2.out.1

end Go.Proofs.Ytjejifbpidgnmaa
