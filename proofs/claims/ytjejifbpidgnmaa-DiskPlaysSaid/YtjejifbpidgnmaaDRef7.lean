/-
  The walks of the document's disk, seventh part: Ask.
-/
import Derived.Test.YtjejifbpidgnmaaDRef6
namespace Go.Proofs.Ytjejifbpidgnmaa
open Go.RowKit

theorem infoO : (Try.prog.info? 55).map (fun i => (i.zero, i.size, i.bytes)) = some (some (.agg #[.int .i64 0, .string ⟨#[]⟩, .string ⟨#[]⟩, .int .i64 0, .string ⟨#[]⟩]), 5, 64) := by kernel_rfl

theorem ocells_one (way : List AOp) : ∀ u ∈ way.flatMap ocells, u.oneCell' = true := by
  intro u hu
  obtain ⟨o, _, ho⟩ := List.mem_flatMap.1 hu
  simp only [ocells, List.mem_cons, List.not_mem_nil, or_false] at ho
  rcases ho with rfl | rfl | rfl | rfl | rfl <;> rfl

/-- what becomes of the ways, of the stop, of being down; the answer -/
def aask (E : Int) (way : List AOp) (o : AOp) (left : Int) (down : Bool) : List AOp × Int × Bool × Int :=
  if E ≠ 0 then (way, left, down, E) else if left = 0 then (way, left, true, 20) else (way ++ [o], (if 0 < left then left - 1 else left), down, 0)

set_option maxRecDepth 100000 in
set_option maxHeartbeats 1000000 in
theorem Ask_core (sv ov : Value) (room left : Int) (down : Bool) (sure : List AFile) (way : List AOp) (E : Int) (o : AOp) (w : World) (hs : FsAt w sv sure) (ho : OpsAt w ov way) (hb : way.length ≤ 1000000) (hl : -1 ≤ left) (hl2 : left ≤ 9223372036854775807)
    (hf : ∀ w1, FsAt w1 sv sure → OpsAt w1 ov way → Calls Try.prog 31 #[.agg #[.int .i64 room, sv, ov, .int .i64 left, .bool down], .agg (ocells o).toArray] w1 fun e w' => e = .returned (.int .i64 E) ∧ Below w1.heap.size w1 w') :
    Calls Try.prog 14 #[.agg #[.int .i64 room, sv, ov, .int .i64 left, .bool down], .agg (ocells o).toArray] w fun e w' =>
      ∃ ov', e = .returned (.tuple #[.agg #[.int .i64 room, sv, ov', .int .i64 (aask E way o left down).2.1, .bool (aask E way o left down).2.2.1], .int .i64 (aask E way o left down).2.2.2]) ∧ OpsAt w' ov' (aask E way o left down).1 ∧
        Fresh w.heap.size ov ov' ∧ Below w.heap.size w w' := by
  have HBD := Lib.hid hb; have HS := Lib.hid hs; have HO := Lib.hid ho; have HF := Lib.hid hf
  clear hb hs ho hf
  obtain ⟨_, asv, caps, rfl, _, _, _⟩ := HS.out
  obtain ⟨_, ao, capo, rfl, _, _, _⟩ := HO.out
  obtain ⟨kind, name, other, pos, bytes⟩ := o
  have HB3 : Hid (∀ o1 o2 o3, Below w.heap.size w (((w.alloc o1).alloc o2).alloc o3)) := Lib.hid fun o1 o2 o3 => (((Below.refl _ _).alloc (Nat.le_refl _) o1).alloc (by simp) o2).alloc (by simp; omega) o3
  obtain ⟨i0, hi, hz0, hz1, hz2⟩ := info_parts infoO
  have hI := Lib.hid hi; have hZ0 := Lib.hid hz0; have hZ1 := Lib.hid hz1; have hZ2 := Lib.hid hz2; clear hi hz0 hz1 hz2
  simp only [ocells] at HF ⊢
  by_cases hE : E = 0
  · subst hE
    by_cases hl0 : left = 0
    · subst hl0
      have hst := fun W => Rstops_any asv ao sure.length caps way.length capo room 0 down W (by omega) (by omega)
      simp only [Int.lt_irrefl, if_false, if_true, decide_true] at hst
      go_enter Try.func14, Try.ntmps14
      go_wp2_with fail
      refine (HF.out _ (HS.out.below (HB3.out _ _ _)) (HO.out.below (HB3.out _ _ _))).mono ?_
      rintro e w1 ⟨rfl, hb1⟩
      simp only [World.size_alloc] at hb1
      obtain ⟨a1, z1⟩ := block_cells ((hb1.block w.heap.size (by omega)).trans (heap_new3 w _ _ _).1)
      obtain ⟨a2, z2⟩ := block_cells ((hb1.block (w.heap.size + 1) (by omega)).trans (heap_new3 w _ _ _).2.1)
      obtain ⟨a3, z3⟩ := block_cells ((hb1.block (w.heap.size + 2) (by omega)).trans (heap_new3 w _ _ _).2.2)
      have p0 := a1 0; have p1 := a1 1; have p2 := a1 2; have p3 := a1 3; have p4 := a1 4
      have q0 := a2 0; have q1 := a2 1; have q2 := a2 2; have q3 := a2 3; have q4 := a2 4
      have r0 := a3 0; have r1 := a3 1; have r2 := a3 2; have r3 := a3 3; have r4 := a3 4
      simp only [List.getElem?_toArray, List.getElem?_cons_zero, List.getElem?_cons_succ] at p0 p1 p2 p3 p4 q0 q1 q2 q3 q4 r0 r1 r2 r3 r4
      have HB1 := Lib.hid hb1
      clear hb1 a1 a2 a3
      go_wp2_with fail
      refine (hst _).mono ?_
      rintro e w2 ⟨rfl, hb2⟩
      clear p0 p1 p2 p3 p4 q0 q1 q2 q3 q4 r0 r1 r2 r3 r4 z1 z2 z3
      have hb2 := HB1.out.trans (hb2.mono (by have := HB1.out.size; simpa using this))
      obtain ⟨a1, z1⟩ := block_cells ((hb2.block w.heap.size (by omega)).trans (heap_new3 w _ _ _).1)
      obtain ⟨a2, z2⟩ := block_cells ((hb2.block (w.heap.size + 1) (by omega)).trans (heap_new3 w _ _ _).2.1)
      obtain ⟨a3, z3⟩ := block_cells ((hb2.block (w.heap.size + 2) (by omega)).trans (heap_new3 w _ _ _).2.2)
      have p0 := a1 0; have p1 := a1 1; have p2 := a1 2; have p3 := a1 3; have p4 := a1 4
      have q0 := a2 0; have q1 := a2 1; have q2 := a2 2; have q3 := a2 3; have q4 := a2 4
      have r0 := a3 0; have r1 := a3 1; have r2 := a3 2; have r3 := a3 3; have r4 := a3 4
      simp only [List.getElem?_toArray, List.getElem?_cons_zero, List.getElem?_cons_succ] at p0 p1 p2 p3 p4 q0 q1 q2 q3 q4 r0 r1 r2 r3 r4
      have HB2 := Lib.hid hb2
      clear hb2 a1 a2 a3
      clear hst
      go_wp2_with fail
      have hbel : Below w.heap.size w ((w2.setCells w.heap.size 0 [.int .i64 room, .slice asv sure.length caps, .slice ao way.length capo, .int .i64 0, .bool true]).setCells (w.heap.size + 1 + 1) 0 [.int .i64 room, .slice asv sure.length caps, .slice ao way.length capo, .int .i64 0, .bool true]) := by
        have h0 := (HB3.out _ _ _).trans (HB2.out.mono (B' := w.heap.size) (by omega))
        exact below_setCells (below_setCells h0 (Nat.le_refl _) _ _) (by omega) _ _
      refine bodyPost_ret (v := .tuple #[.agg #[.int .i64 room, .slice asv sure.length caps, .slice ao way.length capo, .int .i64 0, .bool true], .int .i64 20]) (by simp [results, Try.results14, go_sem, r0, r1, r2, r3, r4]) rfl ?_
      simp only [World.setCells, Nat.reduceAdd] at hbel
      refine ⟨.slice ao way.length capo, ?_, ?_, .inl rfl, hbel⟩
      · simp only [aask, ne_eq, not_true, if_false, if_true]
      · simp only [aask, ne_eq, not_true, if_false, if_true]; exact HO.out.below hbel
    · have hld : decide (left = 0) = false := by simpa using hl0
      have hst := fun W => Rstops_any asv ao sure.length caps way.length capo room left down W hl hl2
      simp only [if_neg hl0, hld] at hst
      obtain ⟨left', hleft⟩ : ∃ l, l = (if 0 < left then left - 1 else left) := ⟨_, rfl⟩
      rw [← hleft] at hst
      have HL := Lib.hid hleft; clear hleft hld
      go_enter Try.func14, Try.ntmps14
      go_wp2_with fail
      refine (HF.out _ (HS.out.below (HB3.out _ _ _)) (HO.out.below (HB3.out _ _ _))).mono ?_
      rintro e w1 ⟨rfl, hb1⟩
      simp only [World.size_alloc] at hb1
      obtain ⟨a1, z1⟩ := block_cells ((hb1.block w.heap.size (by omega)).trans (heap_new3 w _ _ _).1)
      obtain ⟨a2, z2⟩ := block_cells ((hb1.block (w.heap.size + 1) (by omega)).trans (heap_new3 w _ _ _).2.1)
      obtain ⟨a3, z3⟩ := block_cells ((hb1.block (w.heap.size + 2) (by omega)).trans (heap_new3 w _ _ _).2.2)
      have p0 := a1 0; have p1 := a1 1; have p2 := a1 2; have p3 := a1 3; have p4 := a1 4
      have q0 := a2 0; have q1 := a2 1; have q2 := a2 2; have q3 := a2 3; have q4 := a2 4
      have r0 := a3 0; have r1 := a3 1; have r2 := a3 2; have r3 := a3 3; have r4 := a3 4
      simp only [List.getElem?_toArray, List.getElem?_cons_zero, List.getElem?_cons_succ] at p0 p1 p2 p3 p4 q0 q1 q2 q3 q4 r0 r1 r2 r3 r4
      have HB1 := Lib.hid hb1
      clear hb1 a1 a2 a3
      go_wp2_with fail
      refine (hst _).mono ?_
      rintro e w2 ⟨rfl, hb2⟩
      clear p0 p1 p2 p3 p4 q0 q1 q2 q3 q4 r0 r1 r2 r3 r4 z1 z2 z3
      have hb2 := HB1.out.trans (hb2.mono (by have := HB1.out.size; simpa using this))
      obtain ⟨a1, z1⟩ := block_cells ((hb2.block w.heap.size (by omega)).trans (heap_new3 w _ _ _).1)
      obtain ⟨a2, z2⟩ := block_cells ((hb2.block (w.heap.size + 1) (by omega)).trans (heap_new3 w _ _ _).2.1)
      obtain ⟨a3, z3⟩ := block_cells ((hb2.block (w.heap.size + 2) (by omega)).trans (heap_new3 w _ _ _).2.2)
      have p0 := a1 0; have p1 := a1 1; have p2 := a1 2; have p3 := a1 3; have p4 := a1 4
      have q0 := a2 0; have q1 := a2 1; have q2 := a2 2; have q3 := a2 3; have q4 := a2 4
      have r0 := a3 0; have r1 := a3 1; have r2 := a3 2; have r3 := a3 3; have r4 := a3 4
      simp only [List.getElem?_toArray, List.getElem?_cons_zero, List.getElem?_cons_succ] at p0 p1 p2 p3 p4 q0 q1 q2 q3 q4 r0 r1 r2 r3 r4
      have HB2 := Lib.hid hb2
      clear hb2 a1 a2 a3
      clear hst
      go_wp2_with (at_builtin; refine halt1 ?_)
      have g1 := (HB2.out.block w.heap.size (by omega)).trans (heap_new3 w _ _ _).1
      have g2 := (HB2.out.block (w.heap.size + 1) (by omega)).trans (heap_new3 w _ _ _).2.1
      have g3 := (HB2.out.block (w.heap.size + 2) (by omega)).trans (heap_new3 w _ _ _).2.2
      obtain ⟨s1, k1⟩ := setCells_whole g1 [.int .i64 room, .slice asv sure.length caps, .slice ao way.length capo, .int .i64 left', .bool down] rfl
      have s2 := (k1.block (w.heap.size + 1) (by have := HB2.out.size; simp at this; omega) (by omega)).trans g2
      have s3 := (k1.block (w.heap.size + 2) (by have := HB2.out.size; simp at this; omega) (by omega)).trans g3
      change Halt1 (wpList _ _ _ _ _ (w2.setCells w.heap.size 0 [.int .i64 room, .slice asv sure.length caps, .slice ao way.length capo, .int .i64 left', .bool down]))
      have hsz : w.heap.size + 3 ≤ (w2.setCells w.heap.size 0 [.int .i64 room, .slice asv sure.length caps, .slice ao way.length capo, .int .i64 left', .bool down]).heap.size := by
        have h1 := HB2.out.size; have h2 := k1.size; simp only [World.size_alloc] at h1; omega
      have hbw : Below w.heap.size w (w2.setCells w.heap.size 0 [.int .i64 room, .slice asv sure.length caps, .slice ao way.length capo, .int .i64 left', .bool down]) :=
        ((HB3.out _ _ _).trans (HB2.out.mono (B' := w.heap.size) (by omega))).trans (k1.below (by have := HB2.out.size; simp only [World.size_alloc] at this; omega) (fun i hi => by omega))
      clear g1 g2 g3 k1 p0 p1 p2 p3 p4 q0 q1 q2 q3 q4 r0 r1 r2 r3 r4 z1 z2 z3
      generalize w2.setCells w.heap.size 0 [.int .i64 room, .slice asv sure.length caps, .slice ao way.length capo, .int .i64 left', .bool down] = w3 at *
      have HBW := Lib.hid hbw; clear hbw
      have HO3 := Lib.hid (HO.out.below HBW.out)
      refine on1 (wpList_append_o (w3.heap.size ≤ ·) rfl _ _ 29 29 rfl Try.underlying29 hI.out hZ0.out hZ1.out hZ2.out rfl (v := .slice none 0 0) rfl rfl ?_ (Own.nil _ _ _) (HO3.out.src Try.underlying29 (ocells_one way)) ?_ ?_ ?_)
      · intro b hb; exact hb
      · have := HBD.out; unfold maxLen; omega
      · have := HBD.out; omega
      intro v4 w4 hown4 hgr4 _
      rw [Nat.zero_add, List.nil_append] at hown4
      have hb4 : Below w3.heap.size w3 w4 := (Below.refl _ _).grown hgr4 (Nat.le_refl _) (fun k hk => by cases hk)
      have t1 := (hb4.block w.heap.size (by omega)).trans s1
      have t2 := (hb4.block (w.heap.size + 1) (by omega)).trans s2
      have t3 := (hb4.block (w.heap.size + 2) (by omega)).trans s3
      obtain ⟨a1, z1⟩ := block_cells t1
      obtain ⟨a2, z2⟩ := block_cells t2
      obtain ⟨a3, z3⟩ := block_cells t3
      have p0 := a1 0; have p1 := a1 1; have p2 := a1 2; have p3 := a1 3; have p4 := a1 4
      have q0 := a2 0; have q1 := a2 1; have q2 := a2 2; have q3 := a2 3; have q4 := a2 4
      simp only [List.getElem?_toArray, List.getElem?_cons_zero, List.getElem?_cons_succ] at p0 p1 p2 p3 p4 q0 q1 q2 q3 q4
      have HO4 := Lib.hid hown4; have HB4 := Lib.hid hb4; have T1 := Lib.hid t1; have T2 := Lib.hid t2; have T3 := Lib.hid t3
      clear hown4 hgr4 hb4 s1 s2 s3 t1 t2 t3 a1 a2 a3
      go_wp2_with (at_builtin; refine halt1 ?_)
      refine on1 (wpList_append_o (w3.heap.size ≤ ·) rfl _ _ 29 29 rfl Try.underlying29 hI.out hZ0.out hZ1.out hZ2.out rfl (v := v4) rfl rfl ?_ (HO4.out.alloc _) (src_new w4 5 Try.underlying29 1 1 (ocells ⟨kind, name, other, pos, bytes⟩) _ _ rfl ?_) ?_ ?_ ?_)
      · intro b hb; have := HB4.out.size; simp at hb; omega
      · intro u hu; exact ocells_one [⟨kind, name, other, pos, bytes⟩] u (by simpa using hu)
      · have := HBD.out; unfold maxLen; omega
      · have := HBD.out; omega
      intro v5 w5 hown5 hgr5 _
      have hb5 : Below w3.heap.size w4 w5 := ((Below.refl _ _).alloc HB4.out.size _).grown hgr5 (by have := HB4.out.size; simp; omega) (fun k hk => HO4.out.sure hk)
      obtain ⟨av5, cv5, rfl, _, _⟩ := hown5.shape
      clear p0 p1 p2 p3 p4 q0 q1 q2 q3 q4 z1 z2 z3
      have t1 := (hb5.block w.heap.size (by omega)).trans T1.out
      have t3 := (hb5.block (w.heap.size + 2) (by omega)).trans T3.out
      obtain ⟨a1, z1⟩ := block_cells t1
      obtain ⟨a3, z3⟩ := block_cells t3
      have p0 := a1 0; have p1 := a1 1; have p2 := a1 2; have p3 := a1 3; have p4 := a1 4
      have r0 := a3 0; have r1 := a3 1; have r2 := a3 2; have r3 := a3 3; have r4 := a3 4
      simp only [List.getElem?_toArray, List.getElem?_cons_zero, List.getElem?_cons_succ] at p0 p1 p2 p3 p4 r0 r1 r2 r3 r4
      have HO5 := Lib.hid hown5; have HB5 := Lib.hid hb5
      clear hown5 hgr5 hb5 t1 t3 a1 a3
      go_wp2_with fail
      refine bodyPost_ret (v := .tuple #[.agg #[.int .i64 room, .slice asv sure.length caps, .slice av5 (way.length + 1) cv5, .int .i64 left', .bool down], .int .i64 0]) (by simp [results, Try.results14, go_sem, r0, r1, r2, r3, r4]) rfl ?_
      have hk : Keeps (fun b => b = w.heap.size ∨ b = w.heap.size + 2) w5 ((w5.setCell ⟨w.heap.size, 2, none⟩ (.slice av5 (way.length + 1) cv5)).setCells (w.heap.size + 1 + 1) 0 [.int .i64 room, .slice asv sure.length caps, .slice av5 (way.length + 1) cv5, .int .i64 left', .bool down]) := by
        exact keeps_setCells ((Keeps.refl _ _).setCell (fun _ => .inl rfl) _) (fun _ => .inr rfl) _ _
      have hs5 := HB5.out.size
      have hs4 := HB4.out.size
      have hbel := HBW.out.trans (((HB4.out.trans HB5.out).mono (B' := w.heap.size) (by omega)).trans (hk.below (B := w.heap.size) (by omega) (fun i hi => by omega)))
      have hfin := HO5.out.keep hk (fun b hb => by have := HO5.out.sure hb; omega)
      have hopsl : (way ++ [(⟨kind, name, other, pos, bytes⟩ : AOp)]).length = way.length + 1 := by simp
      have hopsc : (way ++ [(⟨kind, name, other, pos, bytes⟩ : AOp)]).flatMap ocells = way.flatMap ocells ++ ocells ⟨kind, name, other, pos, bytes⟩ := by simp
      simp only [World.setCells, Nat.reduceAdd] at hbel hfin
      refine ⟨.slice av5 (way.length + 1) cv5, ?_, ?_, .inr (fun b hb => ?_), hbel⟩
      · simp only [aask, ne_eq, not_true, if_false, if_neg hl0, ← HL.out]
      · simp only [aask, ne_eq, not_true, if_false, if_neg hl0]
        unfold OpsAt
        rw [hopsl, hopsc]
        exact hfin.sl
      · have := HO5.out.sure hb; omega
  · have hne : (E != 0) = true := by simpa using hE
    go_enter Try.func14, Try.ntmps14
    go_wp2_with fail
    refine (HF.out _ (HS.out.below (HB3.out _ _ _)) (HO.out.below (HB3.out _ _ _))).mono ?_
    rintro e w1 ⟨rfl, hb1⟩
    simp only [World.size_alloc] at hb1
    obtain ⟨a1, z1⟩ := block_cells ((hb1.block w.heap.size (by omega)).trans (heap_new3 w _ _ _).1)
    obtain ⟨a3, z3⟩ := block_cells ((hb1.block (w.heap.size + 2) (by omega)).trans (heap_new3 w _ _ _).2.2)
    have p0 := a1 0; have p1 := a1 1; have p2 := a1 2; have p3 := a1 3; have p4 := a1 4
    have r0 := a3 0; have r1 := a3 1; have r2 := a3 2; have r3 := a3 3; have r4 := a3 4
    simp only [List.getElem?_toArray, List.getElem?_cons_zero, List.getElem?_cons_succ] at p0 p1 p2 p3 p4 r0 r1 r2 r3 r4
    have HB1 := Lib.hid hb1
    clear hb1 a1 a3
    go_wp2_with fail
    refine bodyPost_ret (v := .tuple #[.agg #[.int .i64 room, .slice asv sure.length caps, .slice ao way.length capo, .int .i64 left, .bool down], .int .i64 E]) (by simp [results, Try.results14, go_sem, r0, r1, r2, r3, r4]) rfl ?_
    have hbel : Below w.heap.size w ((((((w1.setCell ⟨w.heap.size + 1 + 1, 0, none⟩ (.int .i64 room)).setCell ⟨w.heap.size + 1 + 1, 1, none⟩ (.slice asv sure.length caps)).setCell ⟨w.heap.size + 1 + 1, 2, none⟩ (.slice ao way.length capo)).setCell ⟨w.heap.size + 1 + 1, 3, none⟩ (.int .i64 left)).setCell ⟨w.heap.size + 1 + 1, 4, none⟩ (.bool down))) := by
      have h0 := (HB3.out _ _ _).trans (HB1.out.mono (B' := w.heap.size) (by omega))
      repeat (first | exact h0 | refine Below.setCell ?_ (by simp; omega) _)
    exact ⟨_, by simp only [aask, if_pos hE], by simp only [aask, if_pos hE]; exact HO.out.below hbel, .inl rfl, hbel⟩

end Go.Proofs.Ytjejifbpidgnmaa
