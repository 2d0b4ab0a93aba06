/-
  The walks of the document's disk, sixth part: fits at a rename and a removal.
-/
import Derived.Test.YtjejifbpidgnmaaDRef5
namespace Go.Proofs.Ytjejifbpidgnmaa
open Go.RowKit

theorem badName_cases (n : ByteArray) : (badName n = true ∧ (n.toList.isEmpty = true ∨ n.toList.isEmpty = false ∧ 32 < n.size)) ∨ (¬ badName n = true ∧ n.toList.isEmpty = false ∧ ¬ 32 < n.size) := by
  rw [badName_iff, isEmpty_size]
  by_cases h : n.size = 0
  · simp [h]
  · by_cases h2 : 32 < n.size <;> simp [h, h2]

set_option maxRecDepth 100000 in
set_option maxHeartbeats 1000000 in
theorem fits_rn (sv ov : Value) (room left : Int) (down : Bool) (sure : List AFile) (way : List AOp) (name other : ByteArray) (w : World) (hs : FsAt w sv sure) (ho : OpsAt w ov way) (hb : sure.length + way.length ≤ 1000000)
    (hok : OkF 1000000000000 sure) (hoo : ∀ o ∈ way, OkO 1000000000000 o) :
    Calls Try.prog 31 #[.agg #[.int .i64 room, sv, ov, .int .i64 left, .bool down], .agg #[.int .i64 1, .string name, .string other, .int .i64 0, .string ⟨#[]⟩]] w fun e w' =>
      e = .returned (.int .i64 (afits room down (aseen sure way) 1 name other 0 [])) ∧ Below w.heap.size w w' := by
  have HBD := Lib.hid hb; have HS := Lib.hid hs; have HO := Lib.hid ho; have HOK := Lib.hid hok; have HOO := Lib.hid hoo
  clear hb hs ho hok hoo
  have hB : ∀ o o', Below w.heap.size w ((w.alloc o).alloc o') := fun o o' => ((Below.refl _ _).alloc (Nat.le_refl _) o).alloc (by simp) o'
  have HB := Lib.hid hB; clear hB
  cases down
  case true =>
    go_enter Try.func31, Try.ntmps31
    go_wp2_with fail
    go_ret
    exact ⟨rfl, HB.out _ _⟩
  case false =>
    rcases badName_cases other with ⟨hbo, hco⟩ | ⟨hbo, e1, h1⟩
    · have HR : Hid (afits room false (aseen sure way) 1 name other 0 [] = 1) := Lib.hid (by unfold afits; rw [if_neg (by simp), if_pos (.inl ⟨rfl, hbo⟩)])
      clear hbo
      rcases badName_cases name with ⟨_, e0 | ⟨e0, h0⟩⟩ | ⟨_, e0, h0⟩
      all_goals
        rcases hco with e1 | ⟨e1, h1⟩
        all_goals
          go_enter Try.func31, Try.ntmps31
          go_wp2_with fail
          go_ret
          exact ⟨by rw [HR.out]; rfl, HB.out _ _⟩
    · rcases badName_cases name with ⟨hbn, hcn⟩ | ⟨hbn, e0, h0⟩
      · have HR : Hid (afits room false (aseen sure way) 1 name other 0 [] = 1) := Lib.hid (by unfold afits; rw [if_neg (by simp), if_pos (.inr (.inr ⟨by omega, hbn⟩))])
        clear hbn hbo
        rcases hcn with e0 | ⟨e0, h0⟩
        all_goals
          go_enter Try.func31, Try.ntmps31
          go_wp2_with fail
          go_ret
          exact ⟨by rw [HR.out]; rfl, HB.out _ _⟩
      · have HX : Hid (∀ z, (match afind (aseen sure way) name with | none => (21 : Int) | some _ => 0) = z → afits room false (aseen sure way) 1 name other 0 [] = z) :=
          Lib.hid (fun z hz => by unfold afits; rw [if_neg (by simp), if_neg (by rintro (⟨_, h⟩ | ⟨h, _⟩ | ⟨_, h⟩); exact hbo h; cases h; exact hbn h), if_pos (by omega)]; exact hz)
        clear hbn hbo
        go_enter Try.func31, Try.ntmps31
        go_wp2_with fail
        refine (Seen_any sv ov room left false sure way _ ((HS.out.alloc _).alloc _) ((HO.out.alloc _).alloc _) (Nat.le_trans HBD.out (by omega)) HOK.out HOO.out).mono ?_
        rintro e w1 ⟨v1, rfl, hf1, _, hb1⟩
        have HF := Lib.hid hf1; have HB1 := Lib.hid hb1; clear hf1 hb1
        have hs1 := HB1.out.size
        simp only [World.size_alloc] at hs1
        obtain ⟨ca, cb⟩ := cells_two (by simpa using HB1.out)
        have p0 := cb 0; have p1 := cb 1
        simp only [List.getElem?_toArray, List.getElem?_cons_zero, List.getElem?_cons_succ] at p0 p1
        clear ca cb
        go_wp2_with fail
        refine (Find_any _ _ _ _ HF.out).mono ?_
        rintro e w2 ⟨rfl, rfl⟩
        rcases aidx_find (aseen sure way) name with ⟨k, hlt, hi, hf⟩ | ⟨hi, hf⟩
        · rw [hi]
          have HX2 := Lib.hid (HX.out 0 (by rw [hf])); clear HX hf
          go_wp2_with fail
          go_ret
          exact ⟨by rw [HX2.out]; rfl, (HB.out _ _).trans (HB1.out.mono (by simp; omega))⟩
        · rw [hi]
          have HX2 := Lib.hid (HX.out 21 (by rw [hf])); clear HX hf
          go_wp2_with fail
          go_ret
          exact ⟨by rw [HX2.out]; rfl, (HB.out _ _).trans (HB1.out.mono (by simp; omega))⟩

set_option maxRecDepth 100000 in
set_option maxHeartbeats 1000000 in
theorem fits_rm (sv ov : Value) (room left : Int) (down : Bool) (sure : List AFile) (way : List AOp) (name : ByteArray) (w : World) (hs : FsAt w sv sure) (ho : OpsAt w ov way) (hb : sure.length + way.length ≤ 1000000)
    (hok : OkF 1000000000000 sure) (hoo : ∀ o ∈ way, OkO 1000000000000 o) :
    Calls Try.prog 31 #[.agg #[.int .i64 room, sv, ov, .int .i64 left, .bool down], .agg #[.int .i64 2, .string name, .string ⟨#[]⟩, .int .i64 0, .string ⟨#[]⟩]] w fun e w' =>
      e = .returned (.int .i64 (afits room down (aseen sure way) 2 name ⟨#[]⟩ 0 [])) ∧ Below w.heap.size w w' := by
  have HBD := Lib.hid hb; have HS := Lib.hid hs; have HO := Lib.hid ho; have HOK := Lib.hid hok; have HOO := Lib.hid hoo
  clear hb hs ho hok hoo
  have hB : ∀ o o', Below w.heap.size w ((w.alloc o).alloc o') := fun o o' => ((Below.refl _ _).alloc (Nat.le_refl _) o).alloc (by simp) o'
  have HB := Lib.hid hB; clear hB
  cases down
  case true =>
    go_enter Try.func31, Try.ntmps31
    go_wp2_with fail
    go_ret
    exact ⟨rfl, HB.out _ _⟩
  case false =>
    have HX : Hid (∀ z, (match afind (aseen sure way) name with | none => (21 : Int) | some _ => 0) = z → afits room false (aseen sure way) 2 name ⟨#[]⟩ 0 [] = z) :=
      Lib.hid (fun z hz => by unfold afits; rw [if_neg (by simp), if_neg (by rintro (⟨h, _⟩ | ⟨h, _⟩ | ⟨h, _⟩) <;> omega), if_pos (by omega)]; exact hz)
    rcases badName_cases name with ⟨_, e0 | ⟨e0, h0⟩⟩ | ⟨_, e0, h0⟩
    all_goals
      go_enter Try.func31, Try.ntmps31
      go_wp2_with fail
      refine (Seen_any sv ov room left false sure way _ ((HS.out.alloc _).alloc _) ((HO.out.alloc _).alloc _) (Nat.le_trans HBD.out (by omega)) HOK.out HOO.out).mono ?_
      rintro e w1 ⟨v1, rfl, hf1, _, hb1⟩
      have HF := Lib.hid hf1; have HB1 := Lib.hid hb1; clear hf1 hb1
      have hs1 := HB1.out.size
      simp only [World.size_alloc] at hs1
      obtain ⟨ca, cb⟩ := cells_two (by simpa using HB1.out)
      have p0 := cb 0; have p1 := cb 1
      simp only [List.getElem?_toArray, List.getElem?_cons_zero, List.getElem?_cons_succ] at p0 p1
      clear ca cb
      go_wp2_with fail
      refine (Find_any _ _ _ _ HF.out).mono ?_
      rintro e w2 ⟨rfl, rfl⟩
      rcases aidx_find (aseen sure way) name with ⟨k, hlt, hi, hf⟩ | ⟨hi, hf⟩
      · rw [hi]
        have HX2 := Lib.hid (HX.out 0 (by rw [hf])); clear HX hf
        go_wp2_with fail
        go_ret
        exact ⟨by rw [HX2.out]; rfl, (HB.out _ _).trans (HB1.out.mono (by simp; omega))⟩
      · rw [hi]
        have HX2 := Lib.hid (HX.out 21 (by rw [hf])); clear HX hf
        go_wp2_with fail
        go_ret
        exact ⟨by rw [HX2.out]; rfl, (HB.out _ _).trans (HB1.out.mono (by simp; omega))⟩

end Go.Proofs.Ytjejifbpidgnmaa
