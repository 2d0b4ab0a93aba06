/-
  The walks of the document's disk, ninth part: Crash, New.
-/
import Derived.Test.YtjejifbpidgnmaaDRef8
import Derived.Deep.RegionWith
import Derived.Deep.RegionHeld3
import Derived.Test.YtjejifbpidgnmaaSr0
namespace Go.Proofs.Ytjejifbpidgnmaa
open Go.RowKit

def KeepAt (w : World) (v : Value) (keep : List Bool) : Prop := Sr w v keep.length 1 (keep.map Value.bool)

theorem acrash_succ (sure : List AFile) (way : List AOp) (keep : List Bool) (k : Nat) (o : AOp) (b : Bool) (ho : way[k]? = some o) (hb : keep[k]? = some b) :
    acrash sure (way.take (k + 1)) (keep.take (k + 1)) = if b then ado (acrash sure (way.take k) (keep.take k)) o else acrash sure (way.take k) (keep.take k) := by
  have hk1 : k < way.length := (List.getElem?_eq_some_iff.1 ho).1
  have hk2 : k < keep.length := (List.getElem?_eq_some_iff.1 hb).1
  rw [acrash, acrash, List.take_add_one, List.take_add_one, ho, hb, Option.toList_some, Option.toList_some, List.zip_append (by simp; omega), List.foldl_append]
  cases b <;> rfl

theorem acrash_all (sure : List AFile) (way : List AOp) (keep : List Bool) (k : Nat) (hk : way.length ≤ k ∨ keep.length ≤ k) : acrash sure (way.take k) (keep.take k) = acrash sure way keep := by
  have : (way.take k).zip (keep.take k) = way.zip keep := by
    have h := List.take_zipWith (f := Prod.mk) (l := way) (l' := keep) (i := k)
    show List.zipWith Prod.mk (way.take k) (keep.take k) = List.zipWith Prod.mk way keep
    rw [← h]
    exact List.take_of_length_le (by simp; omega)
  rw [acrash, acrash, this]

theorem length_acrash (keep : List Bool) : ∀ (sure : List AFile) (way : List AOp), (acrash sure way keep).length ≤ sure.length + way.length := by
  intro sure way
  have : ∀ (l : List (AOp × Bool)) (s : List AFile), (l.foldl (fun l p => if p.2 then ado l p.1 else l) s).length ≤ s.length + l.length := by
    intro l
    induction l with
    | nil => intro s; simp
    | cons p l ih =>
      intro s
      have h1 := length_ado s p.1
      simp only [List.foldl_cons, List.length_cons]
      cases hp : p.2
      · have := ih s; simp only [Bool.false_eq_true, if_false]; omega
      · have := ih (ado s p.1); simp only [if_true]; omega
  have h := this (way.zip keep) sure
  rw [List.length_zip] at h
  unfold acrash; omega

theorem OkF.crash {M : Nat} {keep : List Bool} {sure : List AFile} {way : List AOp} (h : OkF M sure) (ho : ∀ o ∈ way, OkO M o) : OkF M (acrash sure way keep) := by
  have : ∀ (l : List (AOp × Bool)) (s : List AFile), OkF M s → (∀ p ∈ l, OkO M p.1) → OkF M (l.foldl (fun l p => if p.2 then ado l p.1 else l) s) := by
    intro l
    induction l with
    | nil => intro s hs _; exact hs
    | cons p l ih =>
      intro s hs hp
      refine ih _ ?_ (fun q hq => hp q (by simp [hq]))
      dsimp only
      split
      · exact hs.do (hp p (by simp))
      · exact hs
  exact this _ _ h (fun p hp => ho _ (List.of_mem_zip hp).1)

set_option maxRecDepth 100000 in
set_option maxHeartbeats 600000 in
theorem RCrash_any (sv ov kv : Value) (room left : Int) (down : Bool) (sure : List AFile) (way : List AOp) (keep : List Bool) (w : World) (hs : FsAt w sv sure) (ho : OpsAt w ov way) (hkv : KeepAt w kv keep) (hb : sure.length + way.length ≤ 1000000)
    (hok : OkF 1000000000000 sure) (hoo : ∀ o ∈ way, OkO 1000000000000 o) :
    Calls Try.prog 19 #[.agg #[.int .i64 room, sv, ov, .int .i64 left, .bool down], kv] w fun e w' =>
      ∃ sv', e = .returned (.agg #[.int .i64 room, sv', .slice none 0 0, .int .i64 (-1), .bool false]) ∧ FsAt w' sv' (acrash sure way keep) ∧ Fresh w.heap.size sv sv' ∧ Below w.heap.size w w' := by
  have HBD := Lib.hid hb; have HS := Lib.hid hs; have HO := Lib.hid ho; have HOK := Lib.hid hok; have HOO := Lib.hid hoo; have HK := Lib.hid hkv
  clear hb hs ho hok hoo hkv
  obtain ⟨_, asv, caps, rfl, _, _, _⟩ := HS.out
  obtain ⟨_, ao, capo, rfl, hc1, hc2, _⟩ := HO.out
  obtain ⟨ak, capk, rfl, hc3, hc4⟩ := Sr.shape HK.out
  have hm1 : way.length ≤ 9223372036854775807 := by unfold maxLen at hc2; omega
  have hm2 : keep.length ≤ 9223372036854775807 := by unfold maxLen at hc4; omega
  clear hc2 hc4
  have HB2 : Hid (∀ o1 o2, Below w.heap.size w ((w.alloc o1).alloc o2)) := Lib.hid fun o1 o2 => ((Below.refl _ _).alloc (Nat.le_refl _) o1).alloc (by simp) o2
  go_enter Try.func19, Try.ntmps19
  go_wp2_with fail
  have hn := heap_new2 w (.cells #[.int .i64 room, .slice asv sure.length caps, .slice ao way.length capo, .int .i64 left, .bool down] 31) (.cells #[.int .i64 0, .slice none 0 0, .slice none 0 0, .int .i64 0, .bool false] 31)
  have HN := Lib.hid hn; clear hn
  go_loopw [5] (fun i wr => ∃ (k : Nat) (a1 : Option Addr) (n1 c1 : Nat), k ≤ way.length ∧ k ≤ keep.length ∧ i = .int .i64 k ∧ FsAt wr (.slice a1 n1 c1) (acrash sure (way.take k) (keep.take k)) ∧ Fresh (w.heap.size + 1 + 1) (.slice asv sure.length caps) (.slice a1 n1 c1) ∧
      wr.heap[w.heap.size]? = some (.cells #[.int .i64 room, .slice a1 n1 c1, .slice ao way.length capo, .int .i64 left, .bool down] 31) ∧
      wr.heap[w.heap.size + 1]? = some (.cells #[.int .i64 0, .slice none 0 0, .slice none 0 0, .int .i64 0, .bool false] 31) ∧
      Below w.heap.size w wr ∧ w.heap.size + 1 + 1 ≤ wr.heap.size) (fun i _ => way.length - (intOf i).toNat)
  case atStart => exact ⟨0, asv, sure.length, caps, Nat.zero_le _, Nat.zero_le _, rfl, HS.out.below (HB2.out _ _), .inl rfl, HN.out.1, HN.out.2, HB2.out _ _, by simp⟩
  case round =>
    obtain ⟨k, a1, n1, c1, hk1, hk2, rfl, hfs, hfr, hg1, hg2, hbw, hsz⟩ := hrel
    obtain ⟨b1, z1⟩ := block_cells hg1
    obtain ⟨b2, z2⟩ := block_cells hg2
    have p0 := b1 0; have p1 := b1 1; have p2 := b1 2; have p3 := b1 3; have p4 := b1 4
    have r0 := b2 0; have r1 := b2 1; have r2 := b2 2; have r3 := b2 3; have r4 := b2 4
    simp only [List.getElem?_toArray, List.getElem?_cons_zero, List.getElem?_cons_succ] at p0 p1 p2 p3 p4 r0 r1 r2 r3 r4
    have HF := Lib.hid hfs; have HR := Lib.hid hfr; have HG1 := Lib.hid hg1; have HG2 := Lib.hid hg2; have HB := Lib.hid hbw
    clear hfs hfr hg1 hg2 hbw b1 b2
    by_cases hgo : k < way.length ∧ k < keep.length
    · obtain ⟨hlt, hlt2⟩ := hgo
      obtain ⟨o, hko⟩ : ∃ o, way[k]? = some o := ⟨_, List.getElem?_eq_getElem hlt⟩
      obtain ⟨kb, hkb⟩ : ∃ kb, keep[k]? = some kb := ⟨_, List.getElem?_eq_getElem hlt2⟩
      rcases (HO.out.below HB.out).2 with ⟨ao', c', hv, _, _, ⟨_, h0, _⟩ | ⟨b, off, rfl, hbl, hat⟩⟩
      · omega
      cases hv
      obtain ⟨bk, offk, rfl, hbk, hatk⟩ := Sr.cells (Sr.below HK.out HB.out) (by omega)
      obtain ⟨oc0, oc1, oc2, oc3, oc4⟩ := ops_cell hat hko
      have d0 := hatk k (.bool kb) (by simp [hkb])
      have HKO := Lib.hid hko; have HKB := Lib.hid hkb
      clear hat hatk hko hkb
      cases kb
      · go_wp2_with fail
        go_roundw
        case rel =>
          exact ⟨k + 1, a1, n1, _, by omega, by omega, by go_num, by rw [acrash_succ _ _ _ _ _ _ HKO.out HKB.out]; exact HF.out, HR.out, HG1.out, HG2.out, HB.out, hsz⟩
        case measure => simp [intOf]; omega
      · go_wp2_with fail
        have hcall := FsAt.ado_any (o := o) (w := wr.drew) (HF.out.below ((Below.refl _ _).drew))
          (by have h1 := length_acrash (keep.take k) sure (way.take k); have h2 := HBD.out; have h3 := List.length_take_le k way; omega) (HOO.out o (List.mem_of_getElem? HKO.out)) (HOK.out.crash (fun o ho => HOO.out o (List.mem_of_mem_take ho)))
        have hstep : ∀ (e : Ending) (w2 : World), (∃ v', e = .returned v' ∧ FsAt w2 v' (ado (acrash sure (way.take k) (keep.take k)) o) ∧ Fresh wr.drew.heap.size (.slice a1 n1 c1) v' ∧ Below wr.drew.heap.size wr.drew w2) →
            ∃ a3 n3 c3, e = .returned (.slice a3 n3 c3) ∧ Hid (FsAt w2 (.slice a3 n3 c3) (ado (acrash sure (way.take k) (keep.take k)) o)) ∧ Hid (Fresh wr.heap.size (.slice a1 n1 c1) (.slice a3 n3 c3)) ∧ Hid (Below wr.heap.size wr w2) ∧
              w2.cell? ⟨w.heap.size, 1, none⟩ = some (.slice a1 n1 c1) ∧ w2.frozen? ⟨w.heap.size, 1, none⟩ = false := by
          rintro e w2 ⟨v', rfl, h1, h2, h3⟩
          obtain ⟨_, a3, c3, rfl, _, _, _⟩ := id h1
          obtain ⟨b1, z1⟩ := block_cells ((h3.block w.heap.size (show w.heap.size < wr.heap.size by omega)).trans HG1.out)
          exact ⟨a3, _, c3, rfl, h1, h2, ((Below.refl _ wr).drew).trans h3, b1 1, z1 1⟩
        have HST := Lib.hid hstep; clear hstep
        have HCALL := Lib.hid hcall; clear hcall
        go_region_with (go_at_call 33; refine (HCALL.out.mono HST.out).mono ?_; rintro e w2 ⟨a3, n3, c3, rfl, H1, H2, H3, hc1, hz1⟩)
        all_goals
          go_wp2_with fail
          go_roundw
          case rel =>
            have s1 := (H3.out.block w.heap.size (by omega)).trans HG1.out
            have s2 := (H3.out.block (w.heap.size + 1) (by omega)).trans HG2.out
            refine ⟨k + 1, a3, n3, c3, by omega, by omega, by go_num, ?_, ?_, heap_setCell_at s1 1 _, ?_, ?_, ?_⟩
            · rw [acrash_succ _ _ _ _ _ _ HKO.out HKB.out, if_pos rfl]
              refine Sl.keep H1.out ((Keeps.refl (fun b => b = w.heap.size) w2).setCell (fun _ => rfl) _) (fun b hb => ?_)
              rcases H2.out with h | h
              · rw [h] at hb
                rcases HR.out with h' | h'
                · rw [h'] at hb; have := Sl.lt HS.out hb; omega
                · have := h' b hb; omega
              · have := h b hb; omega
            · exact HR.out.trans H2.out (by omega)
            · rw [Below.heap_setCell _ _ _ _ (by simp)]; exact s2
            · exact (HB.out.trans (H3.out.mono (by omega))).setCell (Nat.le_refl _) _
            · have := H3.out.size; simp [World.setCell]; omega
          case measure => simp [intOf]; omega
    · have hk : way.length ≤ k ∨ keep.length ≤ k := by omega
      have HAC := Lib.hid (acrash_all sure way keep k hk)
      by_cases hlt : k < way.length
      case' pos => have hlt2 : ¬ k < keep.length := by omega
      all_goals
        clear hgo hk
        go_wp2_with fail
        refine bodyPost_ret (v := .agg #[.int .i64 room, .slice a1 n1 c1, .slice none 0 0, .int .i64 (-1), .bool false]) (by simp [results, Try.results19, go_sem, r0, r1, r2, r3, r4]) rfl ?_
        have hbel : Below w.heap.size w ((((wr.setCell ⟨w.heap.size, 2, none⟩ (.slice none 0 0)).setCell ⟨w.heap.size, 4, none⟩ (.bool false)).setCell ⟨w.heap.size, 3, none⟩ (.int .i64 (-1))).setCells (w.heap.size + 1) 0 [.int .i64 room, .slice a1 n1 c1, .slice none 0 0, .int .i64 (-1), .bool false]) :=
          below_setCells (((HB.out.setCell (Nat.le_refl _) _).setCell (Nat.le_refl _) _).setCell (Nat.le_refl _) _) (by omega) _ _
        have hkp : Keeps (fun b => b = w.heap.size ∨ b = w.heap.size + 1) wr ((((wr.setCell ⟨w.heap.size, 2, none⟩ (.slice none 0 0)).setCell ⟨w.heap.size, 4, none⟩ (.bool false)).setCell ⟨w.heap.size, 3, none⟩ (.int .i64 (-1))).setCells (w.heap.size + 1) 0 [.int .i64 room, .slice a1 n1 c1, .slice none 0 0, .int .i64 (-1), .bool false]) :=
          keeps_setCells ((((Keeps.refl _ _).setCell (fun _ => .inl rfl) _).setCell (fun _ => .inl rfl) _).setCell (fun _ => .inl rfl) _) (fun _ => .inr rfl) _ _
        simp only [World.setCells, Nat.reduceAdd] at hbel hkp
        refine ⟨.slice a1 n1 c1, rfl, ?_, ?_, hbel⟩
        · rw [← HAC.out]
          refine Sl.keep HF.out hkp (fun b hb => ?_)
          rcases HR.out with h | h
          · rw [h] at hb; have := Sl.lt HS.out hb; omega
          · have := h b hb; omega
        · rcases HR.out with h | h
          · exact .inl h
          · exact .inr (fun b hb => by have := h b hb; omega)

set_option maxRecDepth 100000 in
theorem RNew_any (room : Int) (w : World) :
    Calls Try.prog 6 #[.int .i64 room] w fun e w' =>
      e = .returned (if room < 0 ∨ 16777216 < room then .tuple #[.agg #[.int .i64 0, .slice none 0 0, .slice none 0 0, .int .i64 0, .bool false], .int .i64 1]
        else .tuple #[.agg #[.int .i64 room, .slice none 0 0, .slice none 0 0, .int .i64 (-1), .bool false], .int .i64 0]) ∧ Below w.heap.size w w' := by
  have HB : Hid (∀ o, Below w.heap.size w (w.alloc o)) := Lib.hid fun o => (Below.refl _ _).alloc (Nat.le_refl _) o
  by_cases h1 : room < 0 ∨ 16777216 < room
  · rw [if_pos h1]
    by_cases h0 : room < 0
    · clear h1
      go_enter Try.func6, Try.ntmps6
      go_wp2_with fail
      exact bodyPost_ret (v := .tuple #[.agg #[.int .i64 0, .slice none 0 0, .slice none 0 0, .int .i64 0, .bool false], .int .i64 1]) (by simp [results, Try.results6, go_sem]) rfl ⟨rfl, HB.out _⟩
    · have h2 : 16777216 < room := by omega
      clear h1
      go_enter Try.func6, Try.ntmps6
      go_wp2_with fail
      exact bodyPost_ret (v := .tuple #[.agg #[.int .i64 0, .slice none 0 0, .slice none 0 0, .int .i64 0, .bool false], .int .i64 1]) (by simp [results, Try.results6, go_sem]) rfl ⟨rfl, HB.out _⟩
  · rw [if_neg h1]
    have h0 : ¬ room < 0 := by omega
    have h2 : ¬ 16777216 < room := by omega
    clear h1
    go_enter Try.func6, Try.ntmps6
    go_wp2_with fail
    exact bodyPost_ret (v := .tuple #[.agg #[.int .i64 room, .slice none 0 0, .slice none 0 0, .int .i64 (-1), .bool false], .int .i64 0]) (by simp [results, Try.results6, go_sem]) rfl ⟨rfl, HB.out _⟩

end Go.Proofs.Ytjejifbpidgnmaa
