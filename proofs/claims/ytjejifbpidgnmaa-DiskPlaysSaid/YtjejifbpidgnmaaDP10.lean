/-
  The walks of the program's disk: Names.
-/
import Derived.Test.YtjejifbpidgnmaaDP9
namespace Go.Proofs.Ytjejifbpidgnmaa
open Go.RowKit Go.Maps Go.Sort Go.Shelf

theorem before_lt : ∀ x y : List UInt8, bytesBefore x y = true → x < y
  | [], [], h => by simp [bytesBefore] at h
  | [], _ :: _, _ => by simp
  | _ :: _, [], h => by simp [bytesBefore] at h
  | a :: r, b :: s, h => by
    simp only [bytesBefore, Bool.or_eq_true, decide_eq_true_eq, Bool.and_eq_true, beq_iff_eq] at h
    rw [List.cons_lt_cons_iff]
    exact h.imp id (fun h => ⟨h.1, before_lt r s h.2⟩)

theorem before_leB {x y : List UInt8} (h : bytesBefore x y = true) : leB x y = true := by
  simp only [leB, decide_eq_true_eq]
  exact List.le_of_lt (before_lt _ _ h)

theorem names_sorted {w : World} {fs : List AFile} {es : List (Lit × DataW Value)} (h : Fa2 (Ent w) fs es) (hc : es.Pairwise (fun p q => p.1.before q.1 = true)) {ss : List (List UInt8)} (hp : ss.Perm (strKeys (.map es))) :
    (ss.mergeSort (fun x y => decide (x ≤ y))).map encStr = fs.map (fun f => Value.string f.1) := by
  have hk : strKeys (.map es) = fs.map (fun f => f.1.data.toList) := by
    show es.map (fun p => strOf p.1) = _
    exact (h.map_eq (f := fun f => f.1.data.toList) (g := fun p => strOf p.1) (fun f p hp => by rw [hp.1]; rfl)).symm
  rw [mergeSort_of_perm hp, List.mergeSort_of_pairwise, hk, List.map_map]
  · refine List.map_congr_left fun f _ => ?_
    simp [encStr]
  · show (es.map fun p => strOf p.1).Pairwise _
    refine List.pairwise_map.2 (hc.imp_of_mem fun {p q} hp hq hb => ?_)
    obtain ⟨f, _, hf, _⟩ := h.mem_right p hp
    obtain ⟨g, _, hg, _⟩ := h.mem_right q hq
    rw [hf, hg] at hb ⊢
    exact before_leB hb

theorem lsorts (m : Nat) : AnyZ.SortsIn Try.prog Try.lSorted_ren Fence.wide m :=
  ⟨fun blk off cap ss W hH hblk hsz => callsIn_wide.2 (AnyM.slices_Sort_string Try.lSort blk off cap ss W hH hblk hsz),
   fun p cap W => callsIn_wide.2 (AnyM.slices_Sort_string_none Try.lSort p cap W)⟩

/-- the names of the files -/
def NamesPost (fs : List AFile) (w : World) (e : Ending) (w' : World) : Prop := ∃ v, e = .returned v ∧ Sl w' v fs.length 1 (fs.map fun f => .string f.1) ∧ Below w.heap.size w w'

set_option maxRecDepth 100000 in
set_option maxHeartbeats 1000000 in
theorem Names_any (d ms mv : Nat) (uv : Value) (room left : Int) (down : Bool) (sure : List AFile) (way : List AOp) (K : Nat) (w : World) (h : PD w d ms mv uv room left down sure way K) (hK : K ≤ 1000000) :
    Calls Try.prog 21 #[.pointer (some ⟨d, 0, none⟩)] w (NamesPost (aseen sure way) w) := by
  obtain ⟨es, hown, hfa⟩ := id h.hv
  have hcn := hown.canon lawStr
  obtain ⟨_, e, hpw, _⟩ := hcn
  cases e
  have hsz : Maps.size (.map es) = (aseen sure way).length := size_fold hfa
  have hlen : (aseen sure way).length ≤ 1000000 := by have h1 := length_aseen way sure; have h2 := h.hK; omega
  have hmax : Maps.size (.map es) ≤ maxLen := by rw [hsz]; unfold maxLen; omega
  have hbytes : Maps.size (.map es) * 16 ≤ 140737488355328 := by rw [hsz]; omega
  obtain ⟨a1, z1⟩ := block_cells h.hd
  have p2 := a1 2
  simp only [List.getElem?_toArray, List.getElem?_cons_zero, List.getElem?_cons_succ] at p2
  have HFIN : Hid (∀ ss : List (List UInt8), ss.Perm (strKeys (.map es)) → (ss.mergeSort (fun x y => decide (x ≤ y))).map encStr = (aseen sure way).map (fun f => Value.string f.1) ∧ ss.length = (aseen sure way).length) := Lib.hid fun ss hp => ⟨names_sorted hfa hpw hp, by rw [hp.length_eq]; show (es.map _).length = _; rw [List.length_map, ← hfa.length]⟩
  have hbl := hown.lt
  clear a1 z1 hpw hfa hlen h
  refine (callsIn_wide (n := 6)).1 ?_
  have hseq : SeqGives Fence.wide 2 Try.prog 42 #[.pointer (some ⟨w.heap.size, 0, none⟩)] encStr (fun ss : List (List UInt8) => ss.Perm (strKeys (.map es))) (Maps.size (.map es)) (w.alloc (.cells #[.map (some mv)] 49)) :=
    AnyZ.keys_gives (ρ := Try.lKeys_ren) { Try.lKeys with } Fence.wide _ trivial rfl (by omega) w.heap.size mv _ (.map es) _ (by simp) (by simp) (by
      obtain ⟨es', clock, hb, Ft, hs, hD⟩ := hown
      exact ⟨es', clock, (Below.heap_alloc _ _ mv hbl).trans hb, Ft, hs, hD⟩)
  have cK : ∀ mb W, CallsIn Fence.wide 5 Try.prog 36 #[.map mb] W fun e w' => e = .returned (.func (.func 42) #[] #[.pointer (some ⟨W.heap.size, 0, none⟩)]) ∧ w' = W.alloc (.cells #[.map mb] 49) := fun mb W => AnyZ.keys_in Try.lKeys Fence.wide 5 trivial rfl mb W
  have cS := AnyZ.sorted_in Try.lSorted Fence.wide 5 trivial trivial trivial trivial rfl (by omega) (lsorts _) (enters_of Try.func41 (by kernel_rfl) rfl) 42 #[.pointer (some ⟨w.heap.size, 0, none⟩)] trivial (enters_of Try.func42 (by kernel_rfl) rfl) _ _ hmax hbytes _ hseq
  change CallsIn _ _ Try.prog 35 _ _ _ at cS
  have hfK : Fence.wide.fn 36 := trivial
  have hfS : Fence.wide.fn 35 := trivial
  clear hown hsz hmax hbytes hseq
  refine callsIn_of_wp Try.func21 rfl trivial ?_ rfl
  simp only [Try.ntmps21, List.size_toArray, List.length_cons, List.length_nil, Nat.reduceAdd, Nat.reduceSub, Array.replicate_succ, Array.replicate_zero, List.push_toArray, List.append_toArray, List.nil_append, List.cons_append]
  gi_wp2_with (first
    | (gi_at_call 36; refine (cK _ _).mono ?_; rintro e w' ⟨rfl, rfl⟩)
    | (gi_at_call 35; refine cS.mono ?_; rintro e w' ⟨v, ss, rfl, hS, hrow, hnil, hb⟩))
  go_ret
  obtain ⟨f1, f2⟩ := HFIN.out ss hS
  rw [f1, f2] at hrow
  exact ⟨v, rfl, (Own.ofRow hrow).1.sl, ((Below.refl _ w).alloc (Nat.le_refl _) _).trans (hb.mono (by simp))⟩

end Go.Proofs.Ytjejifbpidgnmaa
