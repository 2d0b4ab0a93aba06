/-
  The walks of the document's disk, second part: with.
-/
import Derived.Test.YtjejifbpidgnmaaDRef1
import Derived.Deep.QuietTactic
import Derived.BigQuiet
namespace Go.Proofs.Ytjejifbpidgnmaa
open Go.RowKit

theorem tw_pos {α : Type} (p : α → Bool) : ∀ (l : List α) (k : Nat), k ≤ l.length → (∀ x ∈ l.take k, p x = true) → (∀ x, l[k]? = some x → p x = false) → l.takeWhile p = l.take k ∧ l.dropWhile p = l.drop k
  | [], k, hk, _, _ => by simp at hk; subst hk; simp
  | x :: l, 0, _, _, h => by have := h x (by simp); simp [this]
  | x :: l, k + 1, hk, h1, h2 => by
    have hx := h1 x (by simp)
    have ih := tw_pos p l k (by simpa using hk) (fun y hy => h1 y (by simp [hy])) (fun y hy => h2 y (by simpa using hy))
    simp [hx, ih]

set_option maxRecDepth 100000 in
set_option maxHeartbeats 800000 in
theorem with_any (v : Value) (fs : List AFile) (f : AFile) (w : World) (h : FsAt w v fs) (hb : fs.length ≤ 1000000000) :
    Calls Try.prog 38 #[v, .agg #[.string f.1, .string ⟨f.2.toArray⟩]] w fun e w' => ∃ v', e = .returned v' ∧ Own (w.heap.size ≤ ·) w' v' (awith fs f).length 2 ((awith fs f).flatMap fcells) ∧ Below w.heap.size w w' := by
  have HBD := Lib.hid hb; clear hb
  obtain ⟨i0, hi, hz0, hz1, hz2⟩ := info_parts infoF
  have hI := Lib.hid hi; have hZ0 := Lib.hid hz0; have hZ1 := Lib.hid hz1; have hZ2 := Lib.hid hz2; clear hi hz0 hz1 hz2
  have H := Lib.hid h; clear h
  go_enter Try.func38, Try.ntmps38
  go_wp2_with fail
  refine (without_any _ fs _ _ (H.out.alloc _) HBD.out).mono ?_
  rintro e w1 ⟨v1, rfl, ho, hbw⟩
  simp only [World.size_alloc] at ho hbw
  generalize hg : awithout fs f.1 = gs at ho
  have hgl : gs.length ≤ fs.length := by rw [← hg]; exact length_awithout _ _
  have HG := Lib.hid hg; clear hg
  have hsl : FsAt w1 v1 gs := ho.sl
  obtain ⟨_, a, cap, rfl, hcap, hmax, ha⟩ := hsl
  have hm : gs.length ≤ 9223372036854775807 := by unfold maxLen at hmax; omega
  have HO := Lib.hid ho; have HB := Lib.hid hbw; have HA := Lib.hid ha
  have hp1 : w1.cell? ⟨w.heap.size, 0, none⟩ = some (.string f.1) := cell_new_below hbw 0
  have hp2 : w1.cell? ⟨w.heap.size, 1, none⟩ = some (.string ⟨f.2.toArray⟩) := cell_new_below hbw 1
  clear ho hbw ha hmax
  go_wp2_with fail
  go_loopw [5] (fun i wr => ∃ k : Nat, k ≤ gs.length ∧ i = .int .i64 k ∧ (∀ g ∈ gs.take k, bl g.1 f.1 = true) ∧ Below w1.heap.size w1 wr) (fun i _ => gs.length - (intOf i).toNat)
  case atStart => exact ⟨0, by omega, rfl, by simp, Below.refl _ _⟩
  case round =>
    obtain ⟨k, hk, rfl, hr, hbw⟩ := hrel
    have HR := Lib.hid hr; have HB1 := Lib.hid hbw
    have hq1 := cell_below hbw (by have := HB.out.size; simp at this; omega) hp1
    have hq2 := cell_below hbw (by have := HB.out.size; simp at this; omega) hp2
    clear hr hbw hp1 hp2
    by_cases hgo : ∃ g, gs[k]? = some g ∧ Op.bytesLess g.1.toList f.1.toList = true
    · obtain ⟨g, hx, hc⟩ := hgo
      have hlt : k < gs.length := (List.getElem?_eq_some_iff.1 hx).1
      rcases HA.out with ⟨_, h0, _⟩ | ⟨b, off, rfl, hbl, hat⟩
      · omega
      have hf1 := cell_below HB1.out hbl (fs_cell hat hx).1
      have HX := Lib.hid hx
      clear hat hx
      go_wp2_with fail
      go_quiet (fail)
      go_wp2_with fail
      go_roundw
      case rel =>
        refine ⟨k + 1, by omega, by go_num, ?_, below_drewN HB1.out _⟩
        rw [List.take_add_one, HX.out]
        intro y hy
        rcases List.mem_append.1 hy with hy | hy
        · exact HR.out y hy
        · rw [Option.toList_some, List.mem_singleton] at hy; subst hy; exact hc
      case measure => simp [intOf]; omega
    · have HS : Hid (∀ x, gs[k]? = some x → bl x.1 f.1 = false) := Lib.hid (fun x hx => by
        cases hb : bl x.1 f.1
        · rfl
        · exact absurd ⟨x, hx, hb⟩ hgo)
      clear hgo
      have HT := Lib.hid (tw_pos (fun g : AFile => bl g.1 f.1) gs k hk HR.out HS.out)
      have haw : awith fs f = gs.take k ++ [f] ++ gs.drop k := by
        unfold awith; rw [HG.out, HT.out.1, HT.out.2]; simp
      have HW := Lib.hid haw; clear haw
      have hsl : FsAt wr _ gs := (HO.out.sl).below HB1.out
      have HSL := Lib.hid hsl; clear hsl
      have hstop : (∃ hlt : k < gs.length, Op.bytesLess gs[k].1.toList f.1.toList = false) ∨ ¬ k < gs.length := by
        by_cases hlt : k < gs.length
        · exact .inl ⟨hlt, HS.out _ (List.getElem?_eq_getElem hlt)⟩
        · exact .inr hlt
      rcases HA.out with ⟨rfl, h0, rfl⟩ | ⟨b, off, rfl, hbl, hat⟩
      · obtain rfl : gs = [] := List.eq_nil_of_length_eq_zero h0
        obtain rfl : k = 0 := by simpa using hk
        have hwr : w.heap.size < wr.heap.size := by have := HB.out.size; have := HB1.out.size; simp at *; omega
        go_wp2_with fail
        go_quiet (fail)
        go_wp2_with (at_builtin; refine halt1 ?_)
        refine on1 (wpList_append_o (wr.heap.size ≤ ·) rfl _ _ 28 28 rfl Try.underlying28 hI.out hZ0.out hZ1.out hZ2.out rfl (v := .slice none 0 0) rfl rfl ?_ (Own.nil _ _ _) (Src.ofNil _ Try.underlying28 0) ?_ ?_ ?_)
        · intro b hb; exact hb
        · unfold maxLen; omega
        · omega
        intro v2 w2 hown2 hgr2 _
        have hb2 : Below wr.heap.size wr w2 := (below_drewN (Below.refl _ _) nq).grown hgr2 (Nat.le_refl _) (fun k hk => by cases hk)
        have hr1 := cell_below hb2 hwr hq1
        have hr2 := cell_below hb2 hwr hq2
        have HO2 := Lib.hid hown2; have HB2 := Lib.hid hb2; clear hgr2 hown2 hb2 hq1 hq2
        go_wp2_with (at_builtin; refine halt1 ?_)
        refine on1 (wpList_append_o (wr.heap.size ≤ ·) rfl _ _ 28 28 rfl Try.underlying28 hI.out hZ0.out hZ1.out hZ2.out rfl (v := v2) rfl rfl ?_ (HO2.out.alloc _) (src_new w2 2 Try.underlying28 1 1 (fcells f) _ _ rfl ?_) ?_ ?_ ?_)
        · intro b hb; have := HB2.out.size; simp at hb; omega
        · intro u hu; exact fcells_one [f] u (by simpa using hu)
        · unfold maxLen; omega
        · omega
        intro v3 w3 hown3 hgr3 _
        have hb3 : Below wr.heap.size w2 w3 := ((Below.refl _ _).alloc HB2.out.size _).grown hgr3 (by have := HB2.out.size; simp; omega) (fun k hk => HO2.out.sure hk)
        have HO3 := Lib.hid hown3; have HG3 := Lib.hid hgr3; have HB3 := Lib.hid hb3; clear hgr3 hown3 hr1 hr2 hb3
        go_wp2_with (at_builtin; refine halt1 ?_)
        refine on1 (wpList_append_o (wr.heap.size ≤ ·) rfl _ _ 28 28 rfl Try.underlying28 hI.out hZ0.out hZ1.out hZ2.out rfl (v := v3) rfl rfl ?_ HO3.out (Src.ofNil _ Try.underlying28 0) ?_ ?_ ?_)
        · intro b hb; have := HB2.out.size; have := HB3.out.size; omega
        · unfold maxLen; omega
        · omega
        intro v4 w4 hown4 hgr4 _
        have hb4 : Below wr.heap.size w3 w4 := (Below.refl _ _).grown hgr4 (by have := HB2.out.size; have := HB3.out.size; omega) (fun k hk => HO3.out.sure hk)
        have HO4 := Lib.hid hown4; have HB4 := Lib.hid hb4; clear hgr4 hown4 hb4
        go_wp2
        go_ret
        refine ⟨_, rfl, ?_, ?_⟩
        · have := HO4.out.mono (T := (w.heap.size ≤ ·)) (fun b _ hb => by omega)
          rw [HW.out]
          simpa [fcells] using this
        · exact ((Below.refl _ _).alloc (Nat.le_refl _) _).trans ((HB.out.mono (Nat.le_succ _)).trans ((HB1.out.mono (by have := HB.out.size; simp at this; omega)).trans ((HB2.out.trans (HB3.out.trans HB4.out)).mono (by omega))))
      · have HAT := Lib.hid hat; clear hat
        rcases hstop with ⟨hlt, hc⟩ | hlt
        case' inl => have hf1 := cell_below HB1.out hbl (fs_cell HAT.out (List.getElem?_eq_getElem hlt)).1
        all_goals
          go_wp2_with fail
          go_quiet (fail)
          go_wp2_with (at_builtin; refine halt1 ?_)
          have HSN := Lib.hid ((HSL.out.upto hk).below (below_drewN (Below.refl _ _) nq))
          refine on1 (wpList_append_o (wr.heap.size ≤ ·) rfl _ _ 28 28 rfl Try.underlying28 hI.out hZ0.out hZ1.out hZ2.out rfl (v := .slice none 0 0) rfl rfl ?_ (Own.nil _ _ _) (HSN.out.src Try.underlying28 ?_) ?_ ?_ ?_)
          · intro b hb; exact hb
          · intro u hu; exact fcells_one gs u (List.mem_of_mem_take hu)
          · have := HBD.out; unfold maxLen; omega
          · have := HBD.out; omega
          intro v2 w2 hown2 hgr2 _
          have hb2 : Below wr.heap.size wr w2 := (below_drewN (Below.refl _ _) nq).grown hgr2 (Nat.le_refl _) (fun k hk => by cases hk)
          rw [Nat.zero_add, List.nil_append] at hown2
          have hwr : w.heap.size < wr.heap.size := by have := HB.out.size; have := HB1.out.size; simp at *; omega
          have hr1 := cell_below hb2 hwr hq1
          have hr2 := cell_below hb2 hwr hq2
          have HO2 := Lib.hid hown2; have HB2 := Lib.hid hb2; clear hgr2 hown2 hb2 hq1 hq2
          go_wp2_with (at_builtin; refine halt1 ?_)
          refine on1 (wpList_append_o (wr.heap.size ≤ ·) rfl _ _ 28 28 rfl Try.underlying28 hI.out hZ0.out hZ1.out hZ2.out rfl (v := v2) rfl rfl ?_ (HO2.out.alloc _) (src_new w2 2 Try.underlying28 1 1 (fcells f) _ _ rfl ?_) ?_ ?_ ?_)
          · intro b hb; have := HB2.out.size; simp at hb; omega
          · intro u hu; exact fcells_one [f] u (by simpa using hu)
          · have := HBD.out; unfold maxLen; omega
          · have := HBD.out; omega
          intro v3 w3 hown3 hgr3 _
          have hb3 : Below wr.heap.size w2 w3 := ((Below.refl _ _).alloc HB2.out.size _).grown hgr3 (by have := HB2.out.size; simp; omega) (fun k hk => HO2.out.sure hk)
          have HSQ := Lib.hid ((HSL.out).below (HB2.out.trans hb3))
          have HO3 := Lib.hid hown3; have HG3 := Lib.hid hgr3; have HB3 := Lib.hid hb3; clear hgr3 hown3 hr1 hr2 hb3
          go_wp2_with (at_builtin; refine halt1 ?_)
          all_goals
            refine on1 (wpList_append_o (wr.heap.size ≤ ·) rfl _ _ 28 28 rfl Try.underlying28 hI.out hZ0.out hZ1.out hZ2.out rfl (v := v3) rfl rfl ?_ HO3.out ((by first | exact HSQ.out.from hk | exact HSQ.out.from0 hk ‹cap = k› : Sl w3 _ (gs.length - k) 2 (((gs.flatMap fcells)).drop (k * 2))).src Try.underlying28 ?_) ?_ ?_ ?_)
            · intro b hb; have := HB2.out.size; have := HB3.out.size; omega
            · intro u hu; exact fcells_one gs u (List.mem_of_mem_drop hu)
            · have := HBD.out; unfold maxLen; omega
            · have := HBD.out; omega
            intro v4 w4 hown4 hgr4 _
            have hb4 : Below wr.heap.size w3 w4 := (Below.refl _ _).grown hgr4 (by have := HB2.out.size; have := HB3.out.size; omega) (fun k hk => HO3.out.sure hk)
            have HO4 := Lib.hid hown4; have HB4 := Lib.hid hb4; clear hgr4 hown4 hb4
            go_wp2
            go_ret
            refine ⟨_, rfl, ?_, ?_⟩
            · have := HO4.out.mono (T := (w.heap.size ≤ ·)) (fun b _ hb => by omega)
              rw [flat_take fcells 2 (fun _ => rfl), flat_drop fcells 2 (fun _ => rfl), show fcells f = [f].flatMap fcells by simp, ← List.flatMap_append, ← List.flatMap_append, ← HW.out] at this
              have hlen : (awith fs f).length = k + 1 + (gs.length - k) := by rw [HW.out]; simp; omega
              rw [hlen]; exact this
            · exact ((Below.refl _ _).alloc (Nat.le_refl _) _).trans ((HB.out.mono (Nat.le_succ _)).trans ((HB1.out.mono (by have := HB.out.size; simp at this; omega)).trans ((HB2.out.trans (HB3.out.trans HB4.out)).mono (by omega))))
end Go.Proofs.Ytjejifbpidgnmaa
