/-
  The law: step at a crash.
-/
import Derived.Test.YtjejifbpidgnmaaDL5
namespace Go.Proofs.Ytjejifbpidgnmaa
open Go.RowKit Go.Maps

set_option maxRecDepth 100000 in
set_option maxHeartbeats 1600000 in
theorem step_cr (d ms mv : Nat) (uv sv ov bv kv : Value) (room left at_ kind : Int) (down : Bool) (sure : List AFile) (way : List AOp) (K M : Nat) (name other : ByteArray) (keep : List Bool) (w : World) (hkd : bits BinOp.and IntKind.i64 kind 7 = 6) (h : Inv w d ms mv uv sv ov room left down sure way K M)
    (hK : K ≤ 1000000) (hkv : KeepAt w kv keep) (hkf : 0 < keep.length → ∀ b, kv.ownBlock = some b → ¬ Foot d ms mv uv b) :
    Calls Try.prog 7 #[.pointer (some ⟨d, 0, none⟩), .agg (rcells room sv ov left down), .agg (acells kind at_ name other bv kv)] w (StepPost d ms mv uv sv ov room K M w) := by
  obtain ⟨_, asv, caps, rfl, _, _, _⟩ := id h.fs
  obtain ⟨_, ao, capo, rfl, _, _, _⟩ := id h.os
  have hwl := h.pd.hK
  obtain ⟨hb0, hs0, hn0, g1, g2, g3⟩ := w3b_ok w room left kind at_ (.slice asv sure.length caps) (.slice ao way.length capo) bv kv down name other
  have hi0 := h.below hb0
  obtain ⟨ak, capk, rfl, _, _⟩ := Sr.shape hkv
  have hcw := Crash_any d ms mv uv (.slice ak keep.length capk) room left down sure way keep K (w3b w room left kind at_ (.slice asv sure.length caps) (.slice ao way.length capo) bv (.slice ak keep.length capk) down name other) hi0.pd (Sr.below hkv hb0) hkf hK
  have hcr := fun W h1 h2 h3 => RCrash_any (.slice asv sure.length caps) (.slice ao way.length capo) (.slice ak keep.length capk) room left down sure way keep W h1 h2 h3 (by omega) h.pd.ok (fun o ho => (h.pd.oo o ho).1)
  have hend := fun (w1 w2 : World) (mv' : Nat) (sv' : Value) => any_end (w := w) (w0 := (w3b w room left kind at_ (.slice asv sure.length caps) (.slice ao way.length capo) bv (.slice ak keep.length capk) down name other)) (w1 := w1) (w2 := w2) (ms' := ms) (mv' := mv') (uv' := .slice none 0 0) (ov' := .slice none 0 0) (sv' := sv') (left' := -1) (down' := false) (sure' := acrash sure way keep) (way' := []) h hb0 hs0 hn0
  have HB := Lib.hid (show OkF (M + 200) (acrash sure way keep) from OkF.crash (h.ok.mono (by omega)) (fun o ho => (h.oo o ho).mono (by omega)))
  have HKV := Lib.hid (Sr.below hkv hb0); have HKF := Lib.hid hkf
  have hbd1 : sure.length + way.length ≤ 1000000 := by omega
  unfold CrashPost at hcw
  have HI0 := Lib.hid hi0; have HCW := Lib.hid hcw; have HCR := Lib.hid hcr; have HEND := Lib.hid hend; have HG1 := Lib.hid g1; have HG2 := Lib.hid g2; have HG3 := Lib.hid g3
  have hlt := hs0
  have HF : Hid (∀ b, w.heap.size ≤ b → ¬ Foot d ms mv uv b) := Lib.hid fun b hb hf => by have := (h.pd.foot hf).2; omega
  clear hi0 hcw hcr hend hb0 hs0 hn0 g1 g2 g3 h hwl hkv hkf
  go_enter Try.func7, Try.ntmps7
  go_wp2_with fail
  refine HCW.out.mono ?_
  rintro e w1 ⟨mv', rfl, hpd1, hk1, hmv⟩
  have hf1 : ∀ b, Foot d ms mv' (.slice none 0 0) b → Foot d ms mv uv b ∨ (w3b w room left kind at_ (.slice asv sure.length caps) (.slice ao way.length capo) bv (.slice ak keep.length capk) down name other).heap.size ≤ b := by
    intro b hb
    rcases hb with h | h | h | h
    · exact .inl (.inl h)
    · exact .inl (.inr (.inl h))
    · exact .inr (by omega)
    · simp [Value.ownBlock] at h
  have g1 := (hk1.block w.heap.size (by omega) (HF.out _ (by omega))).trans HG1.out
  have g2 := (hk1.block (w.heap.size + 1) (by omega) (HF.out _ (by omega))).trans HG2.out
  have g3 := (hk1.block (w.heap.size + 2) (by omega) (HF.out _ (by omega))).trans HG3.out
  obtain ⟨a1, z1⟩ := block_cells g1
  obtain ⟨a2, z2⟩ := block_cells g2
  have p0 := a1 0; have p1 := a1 1; have p2 := a1 2; have p3 := a1 3; have p4 := a1 4
  have q0 := a2 0; have q1 := a2 1; have q2 := a2 2; have q3 := a2 3; have q4 := a2 4; have q5 := a2 5
  simp only [List.getElem?_toArray, List.getElem?_cons_zero, List.getElem?_cons_succ] at p0 p1 p2 p3 p4 q0 q1 q2 q3 q4 q5
  have hsz1 := hk1.size
  have hfs1 := Sl.keep HI0.out.fs hk1 (fun b hb => HI0.out.dis b (.inl hb))
  have hos1 := Sl.keep HI0.out.os hk1 (fun b hb => HI0.out.dis b (.inr hb))
  have HP1 := Lib.hid (hpd1.mono (Nat.le_succ _)); have HK1 := Lib.hid hk1; have HF1 := Lib.hid hf1; have HFS1 := Lib.hid hfs1; have HOS1 := Lib.hid hos1; have HH3 := Lib.hid g3; have HKV1 := Lib.hid (Sr.keep HKV.out hk1 HKF.out)
  clear hpd1 hk1 hmv hf1 hfs1 hos1 a1 a2 z1 z2 g1 g2 g3
  go_wp2_with fail
  refine (HCR.out w1 HFS1.out HOS1.out HKV1.out).mono ?_
  rintro e w2 ⟨sv', rfl, hfs2, hfr1, hb2⟩
  obtain ⟨_, as', caps', rfl, _, _, _⟩ := id hfs2
  have hT2 := (hb2.block (w.heap.size + 1 + 1) (by omega)).trans HH3.out
  obtain ⟨_, z3⟩ := block_cells hT2
  have hlt2 : w.heap.size + 1 + 1 < w2.heap.size := by have := hb2.size; omega
  have hfin := HEND.out w1 w2 mv' (.slice as' (acrash sure way keep).length caps') HP1.out HK1.out HF1.out hb2 hfs2 (OpsAt.nil _) hfr1 (.inr (fun b hb => by simp [Value.ownBlock] at hb)) (by omega) (by omega) HB.out (fun o ho => by simp at ho) hT2 [.int .i64 room, .slice as' (acrash sure way keep).length caps', .slice none 0 0, .int .i64 (-1), .bool false] rfl (.cells #[] 0)
  simp only [World.setCells, Nat.reduceAdd] at hfin
  have HFIN := Lib.hid hfin.2
  clear hfs2 hfr1 hb2 hfin hT2 p0 p1 p2 p3 p4 q0 q1 q2 q3 q4 q5
  go_wp2_with fail
  exact bodyPost_ret (step_res HFIN.out.2 rfl rfl) rfl HFIN.out.1


end Go.Proofs.Ytjejifbpidgnmaa
