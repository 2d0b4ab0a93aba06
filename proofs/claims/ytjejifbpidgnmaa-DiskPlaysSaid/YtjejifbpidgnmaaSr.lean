/-
  slices.Clone at a slice that may have no place in memory.
-/
import Derived.Test.YtjejifbpidgnmaaDP2
import Derived.Test.YtjejifbpidgnmaaSr0
namespace Go.Proofs.Ytjejifbpidgnmaa
open Go.RowKit Go.Maps

set_option maxRecDepth 100000 in
set_option maxHeartbeats 400000 in
theorem Clone_sr (v : Value) (l : List UInt8) (w : World) (h : Sr w v l.length 1 (bcells l)) (hb : l.length ≤ 1000000000000) :
    Calls Try.prog 27 #[v] w fun e w' => ∃ v', e = .returned v' ∧ Bs w' v' l ∧ (∀ b, v'.ownBlock = some b → w.heap.size ≤ b) ∧ Below w.heap.size w w' := by
  rcases h with h | ⟨h1, _, a, rfl⟩
  · exact Clone_any v l w h hb
  obtain rfl : l = [] := List.eq_nil_of_length_eq_zero h1
  obtain ⟨i0, hi, hz0, hz1, hz2⟩ := info_parts infoU8
  have hI := Lib.hid hi; have hZ0 := Lib.hid hz0; have hZ1 := Lib.hid hz1; have hZ2 := Lib.hid hz2; clear hi hz0 hz1 hz2
  have hq := fun w => Lib.run_eql_slice_nil (P := Try.prog) w 34 5 (some a) 0 0 0 0 Try.underlying34
  go_enter Try.func27, Try.ntmps27
  go_wp2_with (at_builtin; refine halt1 ?_)
  refine on1 (wpList_append_o (w.heap.size ≤ ·) rfl _ _ 34 34 rfl Try.underlying34 hI.out hZ0.out hZ1.out hZ2.out rfl (v := .slice (some ⟨w.heap.size, 0, none⟩) 0 0) rfl rfl ?_ (Own.made _ w #[] 5 (0, 0) 0 0 1 [] (Nat.le_refl _) (Nat.le_refl _) (by simp [maxLen]) (by simp) (by simp) (by simp)) (Src.ofSlice _ Try.underlying34 a 0 0 [] rfl (fun j u hj => by simp at hj) (fun u hu => by simp at hu)) ?_ ?_ ?_)
  · intro b hb; simp at hb; omega
  · unfold maxLen; omega
  · omega
  intro v' w' hown hgr hty
  have hT : Typed (w.alloc (.cells #[] 5)) 5 (.slice (some ⟨w.heap.size, 0, none⟩) 0 0) := fun b hb => by cases hb; exact ⟨_, _, heap_new1 w _⟩
  have HT := Lib.hid (hty.2 hT)
  rw [List.nil_append] at hown
  have HO := Lib.hid hown
  have HB : Hid (Below w.heap.size w w') := Lib.hid (((Below.refl _ _).alloc (Nat.le_refl _) _).grown hgr (by simp) (fun k hk => by cases hk; exact Nat.le_refl _))
  clear hown hgr hty hT
  go_wp2_with fail
  go_ret
  exact ⟨_, rfl, Own.bs (l := []) HO.out HT.out, fun b hb => HO.out.sure hb, HB.out⟩

end Go.Proofs.Ytjejifbpidgnmaa
