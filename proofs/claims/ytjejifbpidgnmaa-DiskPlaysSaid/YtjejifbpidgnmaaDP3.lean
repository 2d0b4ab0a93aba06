/-
  The walks of the program's disk, third part: do at a write.
-/
import Derived.Test.YtjejifbpidgnmaaDP2
import Derived.Deep.RegionLaw
namespace Go.Proofs.Ytjejifbpidgnmaa
open Go.RowKit Go.Maps

set_option maxRecDepth 100000 in
set_option maxHeartbeats 600000 in
theorem do_wr (m n : Nat) (fs : List AFile) (name other : ByteArray) (pos : Nat) (bv : Value) (bytes : List UInt8) (w : World) (h : MapFs w m n fs) (hv : Bs w bv bytes) (hn : n < maxLen) (hn1 : name.size ≤ maxLen) (hpos : pos + bytes.length ≤ 1000000000000) (hc : OkF 1000000000000 fs) :
    Calls Try.prog 28 #[.map (some m), .agg #[.int .i64 0, .string name, .string other, .int .i64 pos, bv]] w fun e w' => e = .returned (.tuple #[]) ∧ MapFs w' m (n + 1) (ado fs ⟨0, name, other, pos, bytes⟩) ∧ Keeps (· = m) w w' := by
  have hlt := h.lt
  have hnb := h.noBytes
  obtain ⟨i0, hi, hz0, hz1, hz2⟩ := info_parts infoU8
  have hI := Lib.hid hi; have hZ0 := Lib.hid hz0; have hZ1 := Lib.hid hz1; have hZ2 := Lib.hid hz2; clear hi hz0 hz1 hz2
  have HNB := Lib.hid hnb; clear hnb
  have H := Lib.hid h; have HN := Lib.hid hn; have HN1 := Lib.hid hn1; have HP := Lib.hid hpos; have HC := Lib.hid hc; clear h hn hn1 hpos hc
  obtain ⟨bva, bvc, rfl, _, _⟩ := hv.shape
  have HV := Lib.hid hv; clear hv
  have HX : Hid (∀ o, MapFs (w.alloc o) m n fs) := Lib.hid fun o => H.out.below ((Below.refl _ _).alloc (Nat.le_refl _) _)
  have HKA : Hid (∀ o, Keeps (· = m) w (w.alloc o)) := Lib.hid fun o => (Keeps.refl _ _).alloc o
  have hne : ¬ w.heap.size = m := by omega
  have hol : (aold fs name).length ≤ 1000000000000 := HC.out.aold name
  have hb1 : pos + bytes.length ≤ 9223372036854775807 := by have := HP.out; omega
  have hb2 : (aold fs name).length ≤ 9223372036854775807 := by omega
  have HOL := Lib.hid hol; clear hol
  obtain ⟨L, hL⟩ : ∃ L, L = max (aold fs name).length (pos + bytes.length) := ⟨_, rfl⟩
  have hL1 : L ≤ 1000000000000 := by have := HP.out; have := HOL.out; omega
  have hL2 : pos ≤ L := by omega
  have HL := Lib.hid hL; have HL1 := Lib.hid hL1
  have hL3 : L ≤ 9223372036854775807 := by omega
  clear hL hL1
  by_cases hmx : pos + bytes.length ≤ (aold fs name).length
  all_goals
    go_enter Try.func28, Try.ntmps28
    go_wp2_with (at_lookup; refine halt1 ?_)
    refine on1 (wp_lookup_ok rfl _ _ rfl rfl (HX.out _) rfl HN1.out (fun va vc hb hc => ?_))
    have HBO := Lib.hid hb; clear hb
    generalize (afind fs name).isSome = bis
    go_wp2_with (with_reducible refine halt_make rfl ?_)
    refine on1 (wpList_make_full _ rfl _ _ 34 rfl (w.heap.size + 1) 5 i0 (.int .u8 0) 1 Try.underlying34 hI.out hZ0.out hZ1.out .i64 .i64 _ _ L rfl rfl ?_ ?_ ?_ ?_ ?_ ?_)
    · have := HL.out; omega
    · have := HL.out; omega
    · have h1 := hZ2.out; have := HL1.out; rw [h1]; omega
    · have := HL1.out; unfold maxLen; omega
    · simp
    intro w1 hrow hgr
    rw [show (Value.int IntKind.u8 0).cells = #[Value.int IntKind.u8 0] from rfl, toList_madeCells_one, Nat.mul_one] at hrow
    obtain ⟨hown, hty⟩ := Own.ofRow hrow
    have hb1' : Below (w.heap.size + 1) (w.alloc (.cells #[.int .i64 0, .string name, .string other, .int .i64 pos, .slice bva bytes.length bvc] 72)) w1 := (Below.refl _ _).grown hgr (by simp) (fun k hk => by cases hk)
    obtain ⟨a1, z1⟩ := block_cells ((hb1'.block w.heap.size (by omega)).trans (heap_new1 w _))
    have p0 := a1 0; have p1 := a1 1; have p3 := a1 3; have p4 := a1 4
    simp only [List.getElem?_toArray, List.getElem?_cons_zero, List.getElem?_cons_succ] at p0 p1 p3 p4
    have HO1 := Lib.hid hown; have HT1 := Lib.hid hty; have HB1 := Lib.hid hb1'
    clear a1 z1 hrow hgr hown hty hb1'
    go_wp2_with (with_reducible refine halt_copy rfl ?_)
    simp only [World.size_alloc] at HO1 HT1
    refine on1 (list_of_wp rfl (wp_copy_o (S := (w.heap.size + 1 ≤ ·)) (b := w.heap.size + 1) (off := 0) (n := L) (cap := L) (k := 0) _ _ 34 34 rfl Try.underlying34 (by rw [hI.out]; exact congrArg some hZ1.out) rfl (Nat.sub_zero L).symm rfl HO1.out (Nat.zero_le _) (.inl rfl) (Sl.keep HBO.out.1 (keeps_of_below HB1.out (by simp) (fun _ => False)) (fun _ _ => id)) (bcells_one _) 5 (fun w2 ho2 hg2 ht2 => ?_)))
    have hb2' := HB1.out.grown hg2 (by have := HB1.out.size; simp at this; omega) (fun k hk => by cases hk; exact Nat.le_refl _)
    have ebase : ((List.replicate L (Value.int .u8 0)).take 0 ++ (bcells (aold fs name)).take (min (aold fs name).length (L - 0)) ++ (List.replicate L (Value.int .u8 0)).drop (0 + min (aold fs name).length (L - 0))) = bcells (aold fs name ++ List.replicate (L - (aold fs name).length) 0) := by
      have h1 : min (aold fs name).length (L - 0) = (aold fs name).length := by have := HL.out; omega
      have h2 : (bcells (aold fs name)).take (aold fs name).length = bcells (aold fs name) := List.take_of_length_le (by simp)
      rw [h1, h2, List.take_zero, List.nil_append, Nat.zero_add, List.drop_replicate]
      simp [bcells]
    rw [ebase] at ho2
    obtain ⟨a1, z1⟩ := block_cells ((hb2'.block w.heap.size (by omega)).trans (heap_new1 w _))
    clear p0 p1 p3 p4
    have p0 := a1 0; have p1 := a1 1; have p3 := a1 3; have p4 := a1 4
    simp only [List.getElem?_toArray, List.getElem?_cons_zero, List.getElem?_cons_succ] at p0 p1 p3 p4
    have HO2 := Lib.hid ho2; have HT2 := Lib.hid (ht2 HT1.out); have HB2 := Lib.hid hb2'
    clear a1 z1 ho2 hg2 ht2 hb2' ebase
    have HBV2 : Hid (Sl w2 (.slice bva bytes.length bvc) bytes.length 1 (bcells bytes)) := Lib.hid (Sl.keep HV.out.1 ((HKA.out _).trans (keeps_of_below HB2.out (by simp) (· = m))) (fun b hb e => by obtain ⟨c, fr, hc⟩ := HV.out.2 b hb; exact HNB.out c fr (e ▸ hc)))
    by_cases hLp : L = pos
    · subst hLp
      go_wp2_with fail
      go_region_law (refine step_of_wp rfl (wp_copy_o (S := (w.heap.size + 1 ≤ ·)) (b := w.heap.size + 1) (off := 0) (n := L) (cap := L) (k := L) _ _ 34 34 rfl Try.underlying34 (by rw [hI.out]; exact congrArg some hZ1.out) rfl (by omega) rfl HO2.out.drew hL2 (by omega) HBV2.out.drew (bcells_one _) 5 (fun w3 ho3 hg3 ht3 => ?_)))
      all_goals
        have hb3' := HB2.out.drew.grown hg3 (by have := HB2.out.size; simp at this ⊢; omega) (fun k hk => by cases hk; exact Nat.le_refl _)
        have efin : ((bcells (aold fs name ++ List.replicate (L - (aold fs name).length) 0)).take L ++ (bcells bytes).take (min bytes.length (L - L)) ++ (bcells (aold fs name ++ List.replicate (L - (aold fs name).length) 0)).drop (L + min bytes.length (L - L))) = bcells (aoverlay (aold fs name) L bytes) := by
          have h1 : min bytes.length (L - L) = bytes.length := by have := HL.out; omega
          have h2 : (bcells bytes).take bytes.length = bcells bytes := List.take_of_length_le (by simp)
          have h3 : L - (aold fs name).length = L + bytes.length - (aold fs name).length := by have := HL.out; omega
          rw [h1, h2, h3]
          simp [bcells, aoverlay]
        rw [efin] at ho3
        have hlen : (aoverlay (aold fs name) L bytes).length = L := by rw [length_aoverlay]; exact HL.out.symm
        have HBS : Hid (Bs w3 (.slice (some ⟨w.heap.size + 1, 0, none⟩) L L) (aoverlay (aold fs name) L bytes)) := Lib.hid ⟨by rw [hlen]; exact ho3.sl, ht3 HT2.out⟩
        obtain ⟨a1, z1⟩ := block_cells ((hb3'.block w.heap.size (by omega)).trans (heap_new1 w _))
        clear p0 p1 p3 p4
        have p0 := a1 0; have p1 := a1 1
        simp only [List.getElem?_toArray, List.getElem?_cons_zero, List.getElem?_cons_succ] at p0 p1
        have HB3 := Lib.hid hb3'
        have HM3 : Hid (MapFs w3 m n fs) := Lib.hid ((HX.out _).keep (keeps_of_below HB3.out (by simp) (fun _ => False)) id (fun _ h => h.elim))
        clear a1 z1 ho3 hg3 ht3 hb3' efin hlen
        go_wp2_with (at_mapUpdate; refine halt1 ?_)
        refine on1 (wp_put rfl _ _ _ rfl rfl HM3.out rfl HN1.out rfl HBS.out HN.out (fun w4 h4 hk4 => ?_))
        have H4 := Lib.hid h4; have HK4 := Lib.hid hk4; clear h4 hk4
        go_wp2_with fail
        go_end0
        refine ⟨rfl, ?_, ((HKA.out _).trans (keeps_of_below HB3.out (by simp) _)).trans HK4.out⟩
        simp only [ado, if_true]
        exact H4.out
    · go_wp2_with fail
      go_region_law (refine step_of_wp rfl (wp_copy_o (S := (w.heap.size + 1 ≤ ·)) (b := w.heap.size + 1) (off := 0) (n := L) (cap := L) (k := pos) _ _ 34 34 rfl Try.underlying34 (by rw [hI.out]; exact congrArg some hZ1.out) rfl (by omega) rfl HO2.out.drew hL2 (by omega) HBV2.out.drew (bcells_one _) 5 (fun w3 ho3 hg3 ht3 => ?_)))
      all_goals
        have hb3' := HB2.out.drew.grown hg3 (by have := HB2.out.size; simp at this ⊢; omega) (fun k hk => by cases hk; exact Nat.le_refl _)
        have efin : ((bcells (aold fs name ++ List.replicate (L - (aold fs name).length) 0)).take pos ++ (bcells bytes).take (min bytes.length (L - pos)) ++ (bcells (aold fs name ++ List.replicate (L - (aold fs name).length) 0)).drop (pos + min bytes.length (L - pos))) = bcells (aoverlay (aold fs name) pos bytes) := by
          have h1 : min bytes.length (L - pos) = bytes.length := by have := HL.out; omega
          have h2 : (bcells bytes).take bytes.length = bcells bytes := List.take_of_length_le (by simp)
          have h3 : L - (aold fs name).length = pos + bytes.length - (aold fs name).length := by have := HL.out; omega
          rw [h1, h2, h3]
          simp [bcells, aoverlay]
        rw [efin] at ho3
        have hlen : (aoverlay (aold fs name) pos bytes).length = L := by rw [length_aoverlay]; exact HL.out.symm
        have HBS : Hid (Bs w3 (.slice (some ⟨w.heap.size + 1, 0, none⟩) L L) (aoverlay (aold fs name) pos bytes)) := Lib.hid ⟨by rw [hlen]; exact ho3.sl, ht3 HT2.out⟩
        obtain ⟨a1, z1⟩ := block_cells ((hb3'.block w.heap.size (by omega)).trans (heap_new1 w _))
        clear p0 p1 p3 p4
        have p0 := a1 0; have p1 := a1 1
        simp only [List.getElem?_toArray, List.getElem?_cons_zero, List.getElem?_cons_succ] at p0 p1
        have HB3 := Lib.hid hb3'
        have HM3 : Hid (MapFs w3 m n fs) := Lib.hid ((HX.out _).keep (keeps_of_below HB3.out (by simp) (fun _ => False)) id (fun _ h => h.elim))
        clear a1 z1 ho3 hg3 ht3 hb3' efin hlen
        go_wp2_with (at_mapUpdate; refine halt1 ?_)
        refine on1 (wp_put rfl _ _ _ rfl rfl HM3.out rfl HN1.out rfl HBS.out HN.out (fun w4 h4 hk4 => ?_))
        have H4 := Lib.hid h4; have HK4 := Lib.hid hk4; clear h4 hk4
        go_wp2_with fail
        go_end0
        refine ⟨rfl, ?_, ((HKA.out _).trans (keeps_of_below HB3.out (by simp) _)).trans HK4.out⟩
        simp only [ado, if_true]
        exact H4.out

/-- an operation's names may be keys -/
def OkN (o : AOp) : Prop := o.name.size ≤ maxLen ∧ o.other.size ≤ maxLen

theorem MapFs.do_any {m n : Nat} {fs : List AFile} {o : AOp} {bv : Value} {w : World} (h : MapFs w m n fs) (hv : Bs w bv o.bytes) (hn : n < maxLen) (hk : OkN o) (ho : OkO 1000000000000 o) (hc : OkF 1000000000000 fs) :
    Calls Try.prog 28 #[.map (some m), .agg #[.int .i64 o.kind, .string o.name, .string o.other, .int .i64 o.pos, bv]] w fun e w' => e = .returned (.tuple #[]) ∧ MapFs w' m (n + 1) (ado fs o) ∧ Keeps (· = m) w w' := by
  obtain ⟨kind, name, other, pos, bytes⟩ := o
  have h1 : kind ≤ 2 := ho.1
  by_cases hk0 : kind = 0
  · subst hk0; exact do_wr m n fs name other pos bv bytes w h hv hn hk.1 ho.2 hc
  · exact do_rm m n fs kind name other pos bv bytes w h hv hn hk.1 hk.2 (by omega)

end Go.Proofs.Ytjejifbpidgnmaa
