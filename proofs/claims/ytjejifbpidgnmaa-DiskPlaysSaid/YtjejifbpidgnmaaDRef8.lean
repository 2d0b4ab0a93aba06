/-
  The walks of the document's disk, eighth part: Sync, Crash, New.
-/
import Derived.Test.YtjejifbpidgnmaaDRef7
namespace Go.Proofs.Ytjejifbpidgnmaa
open Go.RowKit

/-- Sync: sure files, ways, stop, down; the answer -/
def async (sure : List AFile) (way : List AOp) (left : Int) (down : Bool) : List AFile × List AOp × Int × Bool × Int :=
  if down then (sure, way, left, down, 20) else if left = 0 then (sure, way, left, true, 20) else (aseen sure way, [], (if 0 < left then left - 1 else left), false, 0)

theorem OpsAt.nil (w : World) : OpsAt w (.slice none 0 0) [] := Sl.nil w 5

set_option maxRecDepth 100000 in
set_option maxHeartbeats 600000 in
theorem RSync_any (sv ov : Value) (room left : Int) (down : Bool) (sure : List AFile) (way : List AOp) (w : World) (hs : FsAt w sv sure) (ho : OpsAt w ov way) (hb : sure.length + way.length ≤ 1000000) (hl : -1 ≤ left) (hl2 : left ≤ 9223372036854775807)
    (hok : OkF 1000000000000 sure) (hoo : ∀ o ∈ way, OkO 1000000000000 o) :
    Calls Try.prog 17 #[.agg #[.int .i64 room, sv, ov, .int .i64 left, .bool down]] w fun e w' =>
      ∃ sv' ov', e = .returned (.tuple #[.agg #[.int .i64 room, sv', ov', .int .i64 (async sure way left down).2.2.1, .bool (async sure way left down).2.2.2.1], .int .i64 (async sure way left down).2.2.2.2]) ∧ FsAt w' sv' (async sure way left down).1 ∧
        OpsAt w' ov' (async sure way left down).2.1 ∧ Fresh w.heap.size sv sv' ∧ Fresh w.heap.size ov ov' ∧ Below w.heap.size w w' := by
  have HBD := Lib.hid hb; have HS := Lib.hid hs; have HO := Lib.hid ho; have HOK := Lib.hid hok; have HOO := Lib.hid hoo
  clear hb hs ho hok hoo
  obtain ⟨_, asv, caps, rfl, _, _, _⟩ := HS.out
  obtain ⟨_, ao, capo, rfl, _, _, _⟩ := HO.out
  have HB2 : Hid (∀ o1 o2, Below w.heap.size w ((w.alloc o1).alloc o2)) := Lib.hid fun o1 o2 => ((Below.refl _ _).alloc (Nat.le_refl _) o1).alloc (by simp) o2
  cases down
  case true =>
    go_enter Try.func17, Try.ntmps17
    go_wp2_with fail
    refine bodyPost_ret (v := .tuple #[.agg #[.int .i64 room, .slice asv sure.length caps, .slice ao way.length capo, .int .i64 left, .bool true], .int .i64 20]) (by simp [results, Try.results17, go_sem]) rfl ?_
    refine ⟨.slice asv sure.length caps, .slice ao way.length capo, ?_, ?_, ?_, .inl rfl, .inl rfl, HB2.out _ _⟩
    · simp only [async, if_true]
    · simp only [async, if_true]; exact HS.out.below (HB2.out _ _)
    · simp only [async, if_true]; exact HO.out.below (HB2.out _ _)
  case false =>
    by_cases hl0 : left = 0
    · subst hl0
      have hst := fun W => Rstops_any asv ao sure.length caps way.length capo room 0 false W (by omega) (by omega)
      simp only [Int.lt_irrefl, if_false, if_true, decide_true] at hst
      go_enter Try.func17, Try.ntmps17
      go_wp2_with fail
      refine (hst _).mono ?_
      rintro e w1 ⟨rfl, hb1⟩
      simp only [World.size_alloc] at hb1
      obtain ⟨a1, z1⟩ := block_cells ((hb1.block w.heap.size (by omega)).trans (heap_new2 w _ _).1)
      obtain ⟨a2, z2⟩ := block_cells ((hb1.block (w.heap.size + 1) (by omega)).trans (heap_new2 w _ _).2)
      have p0 := a1 0; have p1 := a1 1; have p2 := a1 2; have p3 := a1 3; have p4 := a1 4
      have r0 := a2 0; have r1 := a2 1; have r2 := a2 2; have r3 := a2 3; have r4 := a2 4
      simp only [List.getElem?_toArray, List.getElem?_cons_zero, List.getElem?_cons_succ] at p0 p1 p2 p3 p4 r0 r1 r2 r3 r4
      have HB1 := Lib.hid hb1
      clear hb1 a1 a2 hst
      go_wp2_with fail
      have hbel : Below w.heap.size w ((w1.setCells w.heap.size 0 [.int .i64 room, .slice asv sure.length caps, .slice ao way.length capo, .int .i64 0, .bool true]).setCells (w.heap.size + 1) 0 [.int .i64 room, .slice asv sure.length caps, .slice ao way.length capo, .int .i64 0, .bool true]) := by
        have h0 := (HB2.out _ _).trans (HB1.out.mono (B' := w.heap.size) (by omega))
        exact below_setCells (below_setCells h0 (Nat.le_refl _) _ _) (by omega) _ _
      refine bodyPost_ret (v := .tuple #[.agg #[.int .i64 room, .slice asv sure.length caps, .slice ao way.length capo, .int .i64 0, .bool true], .int .i64 20]) (by simp [results, Try.results17, go_sem, r0, r1, r2, r3, r4]) rfl ?_
      simp only [World.setCells, Nat.reduceAdd] at hbel
      refine ⟨.slice asv sure.length caps, .slice ao way.length capo, ?_, ?_, ?_, .inl rfl, .inl rfl, hbel⟩
      · simp only [async, Bool.false_eq_true, if_false, if_true]
      · simp only [async, Bool.false_eq_true, if_false, if_true]; exact HS.out.below hbel
      · simp only [async, Bool.false_eq_true, if_false, if_true]; exact HO.out.below hbel
    · have hld : decide (left = 0) = false := by simpa using hl0
      have hst := fun W => Rstops_any asv ao sure.length caps way.length capo room left false W hl hl2
      simp only [if_neg hl0, hld] at hst
      obtain ⟨left', hleft⟩ : ∃ l, l = (if 0 < left then left - 1 else left) := ⟨_, rfl⟩
      rw [← hleft] at hst
      have HL := Lib.hid hleft; clear hleft hld
      go_enter Try.func17, Try.ntmps17
      go_wp2_with fail
      refine (hst _).mono ?_
      rintro e w1 ⟨rfl, hb1⟩
      simp only [World.size_alloc] at hb1
      have t1 := (hb1.block w.heap.size (by omega)).trans (heap_new2 w _ _).1
      have t2 := (hb1.block (w.heap.size + 1) (by omega)).trans (heap_new2 w _ _).2
      obtain ⟨a1, z1⟩ := block_cells t1
      have p0 := a1 0; have p1 := a1 1; have p2 := a1 2; have p3 := a1 3; have p4 := a1 4
      simp only [List.getElem?_toArray, List.getElem?_cons_zero, List.getElem?_cons_succ] at p0 p1 p2 p3 p4
      have HB1 := Lib.hid hb1; have T1 := Lib.hid t1; have T2 := Lib.hid t2
      clear hb1 a1 hst t1 t2
      go_wp2_with fail
      obtain ⟨s1, k1⟩ := setCells_whole T1.out [.int .i64 room, .slice asv sure.length caps, .slice ao way.length capo, .int .i64 left', .bool false] rfl
      have s2 := (k1.block (w.heap.size + 1) (by have := HB1.out.size; simp at this; omega) (by omega)).trans T2.out
      have hsz : w.heap.size + 2 ≤ (w1.setCells w.heap.size 0 [.int .i64 room, .slice asv sure.length caps, .slice ao way.length capo, .int .i64 left', .bool false]).heap.size := by
        have h1 := HB1.out.size; have h2 := k1.size; simp only [World.size_alloc] at h1; omega
      have hbw : Below w.heap.size w (w1.setCells w.heap.size 0 [.int .i64 room, .slice asv sure.length caps, .slice ao way.length capo, .int .i64 left', .bool false]) :=
        below_setCells ((HB2.out _ _).trans (HB1.out.mono (B' := w.heap.size) (by omega))) (Nat.le_refl _) _ _
      clear k1 p0 p1 p2 p3 p4 z1
      have hcall := Seen_any (.slice asv sure.length caps) (.slice ao way.length capo) room left' false sure way (w1.setCells w.heap.size 0 [.int .i64 room, .slice asv sure.length caps, .slice ao way.length capo, .int .i64 left', .bool false]) (HS.out.below hbw) (HO.out.below hbw) (Nat.le_trans HBD.out (by omega)) HOK.out HOO.out
      simp only [World.setCells, Nat.reduceAdd] at hcall
      refine hcall.mono ?_
      rintro e w3 ⟨v3, rfl, hf3, hfr, hb3⟩
      clear hcall
      have hb3' : Below (w1.setCells w.heap.size 0 [.int .i64 room, .slice asv sure.length caps, .slice ao way.length capo, .int .i64 left', .bool false]).heap.size (w1.setCells w.heap.size 0 [.int .i64 room, .slice asv sure.length caps, .slice ao way.length capo, .int .i64 left', .bool false]) w3 := hb3
      have hfr' : Fresh (w1.setCells w.heap.size 0 [.int .i64 room, .slice asv sure.length caps, .slice ao way.length capo, .int .i64 left', .bool false]).heap.size (.slice asv sure.length caps) v3 := hfr
      clear hb3 hfr
      generalize w1.setCells w.heap.size 0 [.int .i64 room, .slice asv sure.length caps, .slice ao way.length capo, .int .i64 left', .bool false] = w2 at *
      have t1 := (hb3'.block w.heap.size (by omega)).trans s1
      have t2 := (hb3'.block (w.heap.size + 1) (by omega)).trans s2
      obtain ⟨a1, z1⟩ := block_cells t1
      obtain ⟨a2, z2⟩ := block_cells t2
      have p0 := a1 0; have p1 := a1 1; have p2 := a1 2; have p3 := a1 3; have p4 := a1 4
      have r0 := a2 0; have r1 := a2 1; have r2 := a2 2; have r3 := a2 3; have r4 := a2 4
      simp only [List.getElem?_toArray, List.getElem?_cons_zero, List.getElem?_cons_succ] at p0 p1 p2 p3 p4 r0 r1 r2 r3 r4
      obtain ⟨_, a3, cap3, rfl, _, _, _⟩ := id hf3
      have HF3 := Lib.hid hf3; have HBW := Lib.hid hbw; have HB3 := Lib.hid hb3'; have HFR := Lib.hid hfr'
      clear t1 t2 a1 a2 s1 s2 hf3 hbw hb3' hfr'
      go_wp2_with fail
      refine bodyPost_ret (v := .tuple #[.agg #[.int .i64 room, .slice a3 (aseen sure way).length cap3, .slice none 0 0, .int .i64 left', .bool false], .int .i64 0]) (by simp [results, Try.results17, go_sem, r0, r1, r2, r3, r4]) rfl ?_
      have hbel : Below w.heap.size w (((w3.setCell ⟨w.heap.size, 1, none⟩ (.slice a3 (aseen sure way).length cap3)).setCell ⟨w.heap.size, 2, none⟩ (.slice none 0 0)).setCells (w.heap.size + 1) 0 [.int .i64 room, .slice a3 (aseen sure way).length cap3, .slice none 0 0, .int .i64 left', .bool false]) :=
        below_setCells (((HBW.out.trans (HB3.out.mono (by omega))).setCell (Nat.le_refl _) _).setCell (Nat.le_refl _) _) (by omega) _ _
      have hk : Keeps (fun b => b = w.heap.size ∨ b = w.heap.size + 1) w3 (((w3.setCell ⟨w.heap.size, 1, none⟩ (.slice a3 (aseen sure way).length cap3)).setCell ⟨w.heap.size, 2, none⟩ (.slice none 0 0)).setCells (w.heap.size + 1) 0 [.int .i64 room, .slice a3 (aseen sure way).length cap3, .slice none 0 0, .int .i64 left', .bool false]) :=
        keeps_setCells (((Keeps.refl _ _).setCell (fun _ => .inl rfl) _).setCell (fun _ => .inl rfl) _) (fun _ => .inr rfl) _ _
      simp only [World.setCells, Nat.reduceAdd] at hbel hk
      refine ⟨.slice a3 (aseen sure way).length cap3, .slice none 0 0, ?_, ?_, ?_, ?_, .inr (fun b hb => by simp [Value.ownBlock] at hb), hbel⟩
      · simp only [async, Bool.false_eq_true, if_false, if_neg hl0, ← HL.out]
      · simp only [async, Bool.false_eq_true, if_false, if_neg hl0]
        refine Sl.keep HF3.out hk (fun b hb => ?_)
        rcases HFR.out with h | h
        · rw [h] at hb; have := Sl.lt HS.out hb; omega
        · have := h b hb; omega
      · simp only [async, Bool.false_eq_true, if_false, if_neg hl0]; exact OpsAt.nil _
      · exact (Fresh.trans (.inl rfl) HFR.out (by omega))

/-- Crash: the sure files behind what is kept -/
def acrash (sure : List AFile) (way : List AOp) (keep : List Bool) : List AFile :=
  (way.zip keep).foldl (fun l p => if p.2 then ado l p.1 else l) sure

end Go.Proofs.Ytjejifbpidgnmaa
