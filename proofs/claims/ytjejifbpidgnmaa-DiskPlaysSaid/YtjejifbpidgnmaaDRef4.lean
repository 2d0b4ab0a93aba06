/-
  The walks of the document's disk, fourth part: Seen, Read, stops.
-/
import Derived.Test.YtjejifbpidgnmaaDRef3
namespace Go.Proofs.Ytjejifbpidgnmaa
open Go.RowKit

theorem FsAt.ado_any {v : Value} {fs : List AFile} {o : AOp} {w : World} (h : FsAt w v fs) (hb : fs.length ≤ 1000000000) (ho : OkO 1000000000000 o) (hc : OkF 1000000000000 fs) :
    Calls Try.prog 33 #[v, .agg (ocells o).toArray] w fun e w' => ∃ v', e = .returned v' ∧ FsAt w' v' (ado fs o) ∧ Fresh w.heap.size v v' ∧ Below w.heap.size w w' := by
  obtain ⟨kind, name, other, pos, bytes⟩ := o
  have h1 : kind ≤ 2 := ho.1
  by_cases hk : kind = 0
  · subst hk; exact Do_wr v fs name other pos bytes w h hb ho.2 hc
  · exact Do_rm v fs kind name other pos bytes w h hb (by omega)

def OpsAt (w : World) (v : Value) (way : List AOp) : Prop := Sl w v way.length 5 (way.flatMap ocells)

theorem ops_cell {w : World} {b off : Nat} {way : List AOp} (h : At w b off (way.flatMap ocells)) {k : Nat} {o : AOp} (hk : way[k]? = some o) :
    w.cell? ⟨b, off + k * 5, none⟩ = some (.int .i64 o.kind) ∧ w.cell? ⟨b, off + k * 5 + 1, none⟩ = some (.string o.name) ∧ w.cell? ⟨b, off + k * 5 + 2, none⟩ = some (.string o.other) ∧
    w.cell? ⟨b, off + k * 5 + 3, none⟩ = some (.int .i64 o.pos) ∧ w.cell? ⟨b, off + k * 5 + 4, none⟩ = some (.string ⟨o.bytes.toArray⟩) := by
  have h0 := flat_get ocells 5 (fun _ => rfl) way k 0 (by omega)
  have h1 := flat_get ocells 5 (fun _ => rfl) way k 1 (by omega)
  have h2 := flat_get ocells 5 (fun _ => rfl) way k 2 (by omega)
  have h3 := flat_get ocells 5 (fun _ => rfl) way k 3 (by omega)
  have h4 := flat_get ocells 5 (fun _ => rfl) way k 4 (by omega)
  rw [hk] at h0 h1 h2 h3 h4
  exact ⟨h _ _ h0, h _ _ h1, h _ _ h2, h _ _ h3, h _ _ h4⟩

theorem Fresh.trans {B C : Nat} {u v x : Value} (h : Fresh B u v) (k : Fresh C v x) (hBC : B ≤ C) : Fresh B u x := by
  rcases k with rfl | k
  · exact h
  · exact .inr fun b hb => Nat.le_trans hBC (k b hb)

theorem aseen_take (sure : List AFile) (way : List AOp) (k : Nat) (o : AOp) (hk : way[k]? = some o) : aseen sure (way.take (k + 1)) = ado (aseen sure (way.take k)) o := by
  rw [List.take_add_one, hk]; simp [aseen, List.foldl_append]

set_option maxRecDepth 100000 in
set_option maxHeartbeats 1000000 in
theorem Seen_any (sv ov : Value) (room left : Int) (down : Bool) (sure : List AFile) (way : List AOp) (w : World) (hs : FsAt w sv sure) (ho : OpsAt w ov way) (hb : sure.length + way.length ≤ 1000000000)
    (hok : OkF 1000000000000 sure) (hoo : ∀ o ∈ way, OkO 1000000000000 o) :
    Calls Try.prog 22 #[.agg #[.int .i64 room, sv, ov, .int .i64 left, .bool down]] w fun e w' => ∃ v', e = .returned v' ∧ FsAt w' v' (aseen sure way) ∧ Fresh w.heap.size sv v' ∧ Below w.heap.size w w' := by
  have HBD := Lib.hid hb; have HS := Lib.hid hs; have HO := Lib.hid ho; have HOK := Lib.hid hok; have HOO := Lib.hid hoo
  have hm : way.length ≤ 9223372036854775807 := by omega
  clear hb hs ho hok hoo
  obtain ⟨_, a, cap, rfl, _, _, ha⟩ := HO.out
  have HA := Lib.hid ha; clear ha
  have hcap : way.length ≤ cap := by assumption
  go_enter Try.func22, Try.ntmps22
  go_wp2_with fail
  go_loopw [3, 4] (fun l i wr => ∃ k : Nat, k ≤ way.length ∧ i = .int .i64 k ∧ FsAt wr l (aseen sure (way.take k)) ∧ Fresh w.heap.size sv l ∧
    Below (w.heap.size + 1) (w.alloc (.cells #[.int .i64 room, sv, .slice a way.length cap, .int .i64 left, .bool down] 31)) wr) (fun _ i _ => way.length - (intOf i).toNat)
  case atStart => exact ⟨0, Nat.zero_le _, rfl, HS.out.alloc _, .inl rfl, Below.refl _ _⟩
  case round =>
    obtain ⟨k, hk, rfl, hfs, hfr, hbr⟩ := hrel
    have hp2 := cell_new_below hbr 2
    simp only [List.getElem?_toArray, List.getElem?_cons_zero, List.getElem?_cons_succ] at hp2
    have HF := Lib.hid hfs; have HR := Lib.hid hfr; have HB := Lib.hid hbr; clear hfs hfr hbr
    by_cases hlt : k < way.length
    · obtain ⟨o, hko⟩ : ∃ o, way[k]? = some o := ⟨_, List.getElem?_eq_getElem hlt⟩
      rcases HA.out with ⟨_, h0, _⟩ | ⟨b, off, rfl, hbl, hat⟩
      · omega
      have hat2 : At wr b off (way.flatMap ocells) := hat.keep ((HB.out.block b (by omega)).trans (Below.heap_alloc _ _ _ hbl))
      have HK := Lib.hid hko
      obtain ⟨c0, c1, c2, c3, c4⟩ := ops_cell hat2 hko
      clear hko hat hat2
      go_wp2_with fail
      refine (FsAt.ado_any (o := o) HF.out ?_ ?_ ?_).mono ?_
      · have h1 := length_aseen (way.take k) sure; have h2 := HBD.out; rw [List.length_take] at h1; omega
      · exact HOO.out o (List.mem_of_getElem? HK.out)
      · exact HOK.out.seen (fun o ho => HOO.out o (List.mem_of_mem_take ho))
      rintro e w2 ⟨v2, rfl, hf2, hr2, hb2⟩
      have HF2 := Lib.hid hf2; have HR2 := Lib.hid hr2; have HB2 := Lib.hid hb2; clear hf2 hr2 hb2
      go_wp2
      go_roundw
      case rel =>
        have hs := HB.out.size
        simp only [World.size_alloc] at hs
        exact ⟨k + 1, by omega, by go_num, by rw [aseen_take _ _ _ _ HK.out]; exact HF2.out, HR.out.trans HR2.out (by omega), HB.out.trans (HB2.out.mono (by omega))⟩
      case measure => simp [intOf]; omega
    · go_wp2
      go_ret
      have := HF.out
      rw [List.take_of_length_le (by omega)] at this
      exact ⟨_, rfl, this, HR.out, ((Below.refl _ _).alloc (Nat.le_refl _) _).trans (HB.out.mono (Nat.le_succ _))⟩

/-- what may be asked of the bytes: the first error -/
def aread (down : Bool) (l : List AFile) (n : ByteArray) : List UInt8 × Int :=
  if down then ([], 20) else match afind l n with | none => ([], 21) | some f => (f.2, 0)

set_option maxRecDepth 100000 in
set_option maxHeartbeats 1000000 in
theorem Read_any (sv ov : Value) (room left : Int) (down : Bool) (sure : List AFile) (way : List AOp) (nm : ByteArray) (w : World) (hs : FsAt w sv sure) (ho : OpsAt w ov way) (hb : sure.length + way.length ≤ 1000000000)
    (hok : OkF 1000000000000 sure) (hoo : ∀ o ∈ way, OkO 1000000000000 o) :
    Calls Try.prog 20 #[.agg #[.int .i64 room, sv, ov, .int .i64 left, .bool down], .string nm] w fun e w' =>
      e = .returned (.tuple #[.string ⟨(aread down (aseen sure way) nm).1.toArray⟩, .int .i64 (aread down (aseen sure way) nm).2]) ∧ Below w.heap.size w w' := by
  have HBD := Lib.hid hb; have HS := Lib.hid hs; have HO := Lib.hid ho; have HOK := Lib.hid hok; have HOO := Lib.hid hoo
  clear hb hs ho hok hoo
  cases down
  · go_enter Try.func20, Try.ntmps20
    go_wp2_with fail
    refine (Seen_any sv ov room left false sure way _ (HS.out.alloc _) (HO.out.alloc _) HBD.out HOK.out HOO.out).mono ?_
    rintro e w1 ⟨v1, rfl, hf1, _, hb1⟩
    have HF := Lib.hid hf1; have HB := Lib.hid hb1; clear hf1 hb1
    go_wp2_with fail
    refine (Find_any _ _ _ _ HF.out).mono ?_
    rintro e w2 ⟨rfl, rfl⟩
    rcases aidx_find (aseen sure way) nm with ⟨k, hlt, hi, hf⟩ | ⟨hi, hf⟩
    · rw [hi]
      obtain ⟨b, off, cap, rfl, hbl, hcap, hmax⟩ := HF.out.some hlt
      obtain ⟨fk, hfk⟩ : ∃ fk, (aseen sure way)[k]? = some fk := ⟨_, List.getElem?_eq_getElem hlt⟩
      have hm : (aseen sure way).length ≤ 9223372036854775807 := by unfold maxLen at hmax; omega
      rcases HF.out.2 with ⟨a, c, hv, _, _, ⟨h0, _⟩ | ⟨b', off', ha, _, hat⟩⟩
      · cases hv; cases h0
      cases hv; cases ha
      have hf1 := (fs_cell hat hfk).2
      have HX : Hid (aread false (aseen sure way) nm = (fk.2, 0)) := Lib.hid (by
        have := List.getElem?_eq_getElem hlt; rw [hfk] at this; cases this; simp [aread, hf])
      clear hi hf hat hmax hfk
      go_wp2
      go_ret2
      refine ⟨?_, ?_⟩
      · rw [HX.out]; rfl
      exact (((Below.refl _ _).alloc (Nat.le_refl _) _).trans (HB.out.mono (by simp)))
    · rw [hi]
      have HX : Hid (aread false (aseen sure way) nm = ([], 21)) := Lib.hid (by simp [aread, hf])
      clear hi hf
      go_wp2
      go_ret2
      refine ⟨?_, ?_⟩
      · rw [HX.out]; rfl
      exact (((Below.refl _ _).alloc (Nat.le_refl _) _).trans (HB.out.mono (by simp)))
  · go_enter Try.func20, Try.ntmps20
    go_wp2
    go_ret2
    exact ⟨rfl, (Below.refl _ _).alloc (Nat.le_refl _) _⟩

end Go.Proofs.Ytjejifbpidgnmaa
