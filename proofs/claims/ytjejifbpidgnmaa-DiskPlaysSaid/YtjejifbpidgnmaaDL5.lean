/-
  The law: step at a sync.
-/
import Derived.Test.YtjejifbpidgnmaaDL3
namespace Go.Proofs.Ytjejifbpidgnmaa
open Go.RowKit Go.Maps

theorem async_inv {sure : List AFile} {way : List AOp} {left : Int} {down : Bool} {M : Nat} (l1 : -1 ≤ left) (l2 : left ≤ 9223372036854775807) (ok : OkF M sure) (oo : ∀ o ∈ way, OkO M o) :
    -1 ≤ (async sure way left down).2.2.1 ∧ (async sure way left down).2.2.1 ≤ 9223372036854775807 ∧ OkF M (async sure way left down).1 ∧ ∀ o ∈ (async sure way left down).2.1, OkO M o := by
  unfold async
  cases down
  · rw [if_neg (by simp)]
    by_cases hl : left = 0
    · rw [if_pos hl]; exact ⟨l1, l2, ok, oo⟩
    · rw [if_neg hl]
      refine ⟨?_, ?_, ok.seen oo, fun o ho => by simp at ho⟩
      · dsimp only; split <;> omega
      · dsimp only; split <;> omega
  · rw [if_pos rfl]; exact ⟨l1, l2, ok, oo⟩

theorem any_end {w w0 w1 w2 : World} {d ms mv ms' mv' : Nat} {uv sv ov uv' sv' ov' : Value} {room left left' : Int} {down down' : Bool} {sure sure' : List AFile} {way way' : List AOp} {K M : Nat} (h : Inv w d ms mv uv sv ov room left down sure way K M)
    (hb0 : Below w.heap.size w w0) (hs0 : w.heap.size + 3 ≤ w0.heap.size) (hn0 : ∀ b, w.heap.size ≤ b ∧ b < w.heap.size + 3 → NoBytes w0 b) (hpd : PD w1 d ms' mv' uv' room left' down' sure' way' (K + 1)) (hk : Keeps (Foot d ms mv uv) w0 w1) (hft : ∀ b, Foot d ms' mv' uv' b → Foot d ms mv uv b ∨ w0.heap.size ≤ b)
    (hb : Below w1.heap.size w1 w2) (hfs : FsAt w2 sv' sure') (hos : OpsAt w2 ov' way') (f1 : Fresh w1.heap.size sv sv') (f2 : Fresh w1.heap.size ov ov') (l1 : -1 ≤ left') (l2 : left' ≤ 9223372036854775807) (ok : OkF (M + 200) sure') (oo : ∀ o ∈ way', OkO (M + 200) o)
    {cur : Array Value} (hT : w2.heap[w.heap.size + 1 + 1]? = some (.cells cur 31)) (vs : List Value) (hvs : cur.size = vs.length) (obj : Obj) :
    (StepPost d ms mv uv sv ov room K M w (.returned (.tuple #[.agg #[.int .i64 room, sv', ov', .int .i64 left', .bool down'], .bool true])) ((w2.setCells (w.heap.size + 1 + 1) 0 vs).alloc obj) ∧
      ((w2.setCells (w.heap.size + 1 + 1) 0 vs).alloc obj).heap[w.heap.size + 1 + 1]? = some (.cells vs.toArray 31)) ∧
    (StepPost d ms mv uv sv ov room K M w (.returned (.tuple #[.agg #[.int .i64 room, sv', ov', .int .i64 left', .bool down'], .bool true])) (w2.setCells (w.heap.size + 1 + 1) 0 vs) ∧
      (w2.setCells (w.heap.size + 1 + 1) 0 vs).heap[w.heap.size + 1 + 1]? = some (.cells vs.toArray 31)) := by
  obtain ⟨s1, _⟩ := setCells_whole hT vs hvs
  refine ⟨⟨?_, (Below.heap_alloc _ _ _ (Array.getElem?_eq_some_iff.1 s1).1).trans s1⟩, ?_, s1⟩
  · exact h.step (w2 := w2) hb0 hs0 hpd hk hft hb hfs hos f1 f2 l1 l2 ok oo ((keeps_setCells (Keeps.refl _ _) (fun _ => by omega) _ _).alloc _) hn0
  · exact h.step (w2 := w2) hb0 hs0 hpd hk hft hb hfs hos f1 f2 l1 l2 ok oo (keeps_setCells (Keeps.refl _ _) (fun _ => by omega) _ _) hn0

set_option maxRecDepth 100000 in
set_option maxHeartbeats 1600000 in
theorem step_sy (d ms mv : Nat) (uv sv ov bv kv : Value) (room left at_ kind : Int) (down : Bool) (sure : List AFile) (way : List AOp) (K M : Nat) (name other : ByteArray) (w : World) (hkd : bits BinOp.and IntKind.i64 kind 7 = 4) (h : Inv w d ms mv uv sv ov room left down sure way K M)
    (hK : K ≤ 1000000) (hM : M ≤ 1000000) :
    Calls Try.prog 7 #[.pointer (some ⟨d, 0, none⟩), .agg (rcells room sv ov left down), .agg (acells kind at_ name other bv kv)] w (StepPost d ms mv uv sv ov room K M w) := by
  obtain ⟨_, asv, caps, rfl, _, _, _⟩ := id h.fs
  obtain ⟨_, ao, capo, rfl, _, _, _⟩ := id h.os
  have hwl := h.pd.hK
  obtain ⟨hb0, hs0, hn0, g1, g2, g3⟩ := w3b_ok w room left kind at_ (.slice asv sure.length caps) (.slice ao way.length capo) bv kv down name other
  have hi0 := h.below hb0
  obtain ⟨b1, b2, b3, b4⟩ := async_inv (down := down) h.l1 h.l2 (h.ok.mono (M' := M + 200) (by omega)) (fun o ho => (h.oo o ho).mono (M' := M + 200) (by omega))
  obtain ⟨⟨sure', way', left', down', er⟩, hr⟩ : ∃ r, r = async sure way left down := ⟨_, rfl⟩
  have hcw := Sync_any d ms mv uv room left down sure way K (w3b w room left kind at_ (.slice asv sure.length caps) (.slice ao way.length capo) bv kv down name other) hi0.pd h.l1 h.l2
  have hcr := fun W h1 h2 => RSync_any (.slice asv sure.length caps) (.slice ao way.length capo) room left down sure way W h1 h2 (by omega) h.l1 h.l2 h.pd.ok (fun o ho => (h.pd.oo o ho).1)
  unfold SyncPost at hcw
  rw [← hr] at hcw hcr b1 b2 b3 b4
  dsimp only at hcw hcr b1 b2 b3 b4
  have hend := fun (w1 w2 : World) (ms' : Nat) (uv' sv' ov' : Value) => any_end (w := w) (w0 := w3b w room left kind at_ (.slice asv sure.length caps) (.slice ao way.length capo) bv kv down name other) (w1 := w1) (w2 := w2) (ms' := ms') (mv' := mv) (uv' := uv') (ov' := ov') (sv' := sv') (left' := left') (down' := down') (sure' := sure') (way' := way') h hb0 hs0 hn0
  have HB := Lib.hid (And.intro b1 (And.intro b2 (And.intro b3 b4)))
  have HI0 := Lib.hid hi0; have HCW := Lib.hid hcw; have HCR := Lib.hid hcr; have HEND := Lib.hid hend; have HG1 := Lib.hid g1; have HG2 := Lib.hid g2; have HG3 := Lib.hid g3
  have hlt := hs0
  have HF : Hid (∀ b, w.heap.size ≤ b → ¬ Foot d ms mv uv b) := Lib.hid fun b hb hf => by have := (h.pd.foot hf).2; omega
  clear hi0 hcw hcr hend hb0 hs0 hn0 g1 g2 g3 h hwl b1 b2 b3 b4
  go_enter Try.func7, Try.ntmps7
  go_wp2_with fail
  refine HCW.out.mono ?_
  rintro e w1 ⟨ms', uv', rfl, hpd1, hk1, hms, huv⟩
  have hf1 : ∀ b, Foot d ms' mv uv' b → Foot d ms mv uv b ∨ (w3b w room left kind at_ (.slice asv sure.length caps) (.slice ao way.length capo) bv kv down name other).heap.size ≤ b := by
    intro b hb
    rcases hb with h | h | h | h
    · exact .inl (.inl h)
    · rcases hms with h' | h'
      · exact .inl (.inr (.inl (h.trans h')))
      · exact .inr (by omega)
    · exact .inl (.inr (.inr (.inl h)))
    · exact .inl (.inr (.inr (.inr (huv b h))))
  have g1 := (hk1.block w.heap.size (by omega) (HF.out _ (by omega))).trans HG1.out
  have g2 := (hk1.block (w.heap.size + 1) (by omega) (HF.out _ (by omega))).trans HG2.out
  have g3 := (hk1.block (w.heap.size + 2) (by omega) (HF.out _ (by omega))).trans HG3.out
  obtain ⟨a1, z1⟩ := block_cells g1
  obtain ⟨a2, z2⟩ := block_cells g2
  have p0 := a1 0; have p1 := a1 1; have p2 := a1 2; have p3 := a1 3; have p4 := a1 4
  have q0 := a2 0; have q1 := a2 1; have q2 := a2 2; have q3 := a2 3; have q4 := a2 4; have q5 := a2 5
  simp only [List.getElem?_toArray, List.getElem?_cons_zero, List.getElem?_cons_succ] at p0 p1 p2 p3 p4 q0 q1 q2 q3 q4 q5
  have hsz1 := hk1.size
  have hfs1 := Sl.keep HI0.out.fs hk1 (fun b hb => HI0.out.dis b (.inl hb))
  have hos1 := Sl.keep HI0.out.os hk1 (fun b hb => HI0.out.dis b (.inr hb))
  have HP1 := Lib.hid (hpd1.mono (Nat.le_succ _)); have HK1 := Lib.hid hk1; have HF1 := Lib.hid hf1; have HFS1 := Lib.hid hfs1; have HOS1 := Lib.hid hos1; have HH3 := Lib.hid g3
  clear hpd1 hk1 hms huv hf1 hfs1 hos1 a1 a2 z1 z2 g1 g2 g3
  go_wp2_with fail
  refine (HCR.out w1 HFS1.out HOS1.out).mono ?_
  rintro e w2 ⟨sv', ov', rfl, hfs2, hos2, hfr1, hfr2, hb2⟩
  obtain ⟨_, ao', capo', rfl, _, _, _⟩ := id hos2
  obtain ⟨_, as', caps', rfl, _, _, _⟩ := id hfs2
  have hT2 := (hb2.block (w.heap.size + 1 + 1) (by omega)).trans HH3.out
  obtain ⟨_, z3⟩ := block_cells hT2
  have hlt2 : w.heap.size + 1 + 1 < w2.heap.size := by have := hb2.size; omega
  have hfin := HEND.out w1 w2 ms' uv' (.slice as' sure'.length caps') (.slice ao' way'.length capo') HP1.out HK1.out HF1.out hb2 hfs2 hos2 hfr1 hfr2 HB.out.1 HB.out.2.1 HB.out.2.2.1 HB.out.2.2.2 hT2 [.int .i64 room, .slice as' sure'.length caps', .slice ao' way'.length capo', .int .i64 left', .bool down'] rfl (.cells (rcells room (.slice as' sure'.length caps') (.slice ao' way'.length capo') left' down') 31)
  simp only [World.setCells, Nat.reduceAdd] at hfin
  have HFIN := Lib.hid hfin.1
  clear hos2 hfs2 hfr1 hfr2 hb2 hfin hT2 p0 p1 p2 p3 p4 q0 q1 q2 q3 q4 q5
  go_wp2_with fail
  exact bodyPost_ret (step_res HFIN.out.2 rfl rfl) rfl HFIN.out.1


end Go.Proofs.Ytjejifbpidgnmaa
