/-
  The law: like.
-/
import Derived.Test.YtjejifbpidgnmaaDP10
import Derived.BigQuiet
namespace Go.Proofs.Ytjejifbpidgnmaa
open Go.RowKit Go.Maps

theorem aread_at {fs : List AFile} (hp : fs.Pairwise (fun a b => a.1 ≠ b.1)) {k : Nat} {f : AFile} (hk : fs[k]? = some f) (down : Bool) : aread down fs f.1 = if down then ([], 20) else (f.2, 0) := by
  have hm : afind fs f.1 = some f := by
    have hmem := List.mem_of_getElem? hk
    clear hk k
    induction fs with
    | nil => simp at hmem
    | cons g fs ih =>
      obtain ⟨h1, h2⟩ := List.pairwise_cons.1 hp
      rcases List.mem_cons.1 hmem with rfl | hmem
      · simp [afind]
      · have := h1 f hmem
        simp only [afind, List.find?_cons, decide_eq_false this]
        exact ih h2 hmem
  unfold aread
  cases down <;> simp [hm]

theorem below_drewN (w : World) (n : Nat) : Below w.heap.size w (w.drewN n) := ⟨rfl, rfl, rfl, Nat.le_refl _, fun _ _ => rfl⟩

set_option maxRecDepth 100000 in
set_option maxHeartbeats 1600000 in
theorem like_any (d ms mv : Nat) (uv sv ov : Value) (room left : Int) (down : Bool) (sure : List AFile) (way : List AOp) (K : Nat) (w : World) (h : PD w d ms mv uv room left down sure way K) (hK : K ≤ 1000000) (hs : FsAt w sv sure) (ho : OpsAt w ov way) :
    Calls Try.prog 8 #[.pointer (some ⟨d, 0, none⟩), .agg #[.int .i64 room, sv, ov, .int .i64 left, .bool down]] w fun e w' => e = .returned (.bool true) ∧ Below w.heap.size w w' := by
  have hap := h.hv.apart
  have hno : ∀ f ∈ aseen sure way, f.1.size ≤ maxLen := by
    intro f hf
    obtain ⟨es, hown, hfa⟩ := h.hv
    obtain ⟨p, hp, hkp, _⟩ := hfa.mem_left f hf
    have := strKeys_le hown Try.underlying9 f.1.data.toList (List.mem_map.2 ⟨p, hp, by rw [hkp]; rfl⟩)
    rw [Array.length_toList] at this
    exact this
  obtain ⟨_, asv, caps, rfl, _, _, _⟩ := id hs
  obtain ⟨_, ao, capo, rfl, _, hco, _⟩ := id ho
  have hwl : way.length ≤ 1000000 := by have := h.hK; omega
  have hfl : (aseen sure way).length ≤ 1000000 := by have h1 := length_aseen way sure; have h2 := h.hK; omega
  have H := Lib.hid h; have HK := Lib.hid hK; have HS := Lib.hid hs; have HO := Lib.hid ho; have HNO := Lib.hid hno; have HAP := Lib.hid hap
  clear h hK hs ho hno hap hco
  go_enter Try.func8, Try.ntmps8
  go_wp2_with fail
  have hnb := heap_new1 w (.cells #[.int .i64 room, .slice asv sure.length caps, .slice ao way.length capo, .int .i64 left, .bool down] 31)
  have hal : Below w.heap.size w (w.alloc (.cells #[.int .i64 room, .slice asv sure.length caps, .slice ao way.length capo, .int .i64 left, .bool down] 31)) := (Below.refl _ _).alloc (Nat.le_refl _) _
  have HAL := Lib.hid hal; have HNB := Lib.hid hnb; clear hal hnb
  refine (Names_any _ _ _ _ _ _ _ _ _ _ _ (H.out.below HAL.out) HK.out).mono ?_
  rintro e w1 ⟨nv, rfl, hn1, hb1⟩
  obtain ⟨a1, z1⟩ := block_cells ((hb1.block w.heap.size (by simp)).trans HNB.out)
  have p0 := a1 0; have p1 := a1 1; have p2 := a1 2; have p3 := a1 3; have p4 := a1 4
  simp only [List.getElem?_toArray, List.getElem?_cons_zero, List.getElem?_cons_succ] at p0 p1 p2 p3 p4
  have HN1 := Lib.hid hn1
  have HB1 : Hid (Below w.heap.size w w1) := Lib.hid (HAL.out.trans (hb1.mono (by simp)))
  have HBX : Hid (w.heap.size < w1.heap.size ∧ w1.heap[w.heap.size]? = some (.cells #[.int .i64 room, .slice asv sure.length caps, .slice ao way.length capo, .int .i64 left, .bool down] 31)) := Lib.hid ⟨by have := hb1.size; simp at this; omega, (hb1.block w.heap.size (by simp)).trans HNB.out⟩
  clear hn1 hb1 a1 z1
  go_wp2_with fail
  refine (Seen_any _ _ room left down sure way w1 (HS.out.below HB1.out) (HO.out.below HB1.out) (by have := H.out.hK; have := HK.out; omega) H.out.ok (fun o ho => (H.out.oo o ho).1)).mono ?_
  rintro e w2 ⟨lv, rfl, hl2, _, hb2⟩
  have t2 := (hb2.block w.heap.size HBX.out.1).trans HBX.out.2
  have hn2 := HN1.out.below hb2
  have hb02 : Below w.heap.size w w2 := HB1.out.trans (hb2.mono (by have := HBX.out.1; omega))
  obtain ⟨_, an, capn, rfl, _, _, _⟩ := id hn2
  obtain ⟨_, al, capl, rfl, _, _, _⟩ := id hl2
  obtain ⟨a1, z1⟩ := block_cells t2
  clear p0 p1 p2 p3 p4
  have p2 := a1 2; have p4 := a1 4
  simp only [List.getElem?_toArray, List.getElem?_cons_zero, List.getElem?_cons_succ] at p2 p4
  have hsz2 := hb2.size
  have HN2 := Lib.hid hn2; have HL2 := Lib.hid hl2; have HB2 := Lib.hid hb02; have HT2 := Lib.hid t2
  have HBX2 : Hid (w.heap.size < w2.heap.size) := Lib.hid (by have := HBX.out.1; omega)
  clear hn2 hl2 hb2 t2 hb02 a1 HN1 HB1 HBX hsz2
  have hpd2 := H.out.below HB2.out
  have HPD2 := Lib.hid hpd2; clear hpd2
  have hpend : ∀ n, Calls Try.prog 11 #[.pointer (some ⟨d, 0, none⟩)] (w2.drewN n) fun e w' => e = .returned (.int .i64 way.length) ∧ w2.drewN n = w' := fun n => Pending_any _ _ _ _ _ _ _ _ _ _ _ (HPD2.out.below (below_drewN _ n))
  have HP := Lib.hid hpend; clear hpend
  go_wp2_with fail
  go_quiet ((go_at_call 11; refine (HP.out _).mono ?_; rintro e w' ⟨rfl, rfl⟩; exact ⟨rfl, _, rfl⟩))
  go_wp2_with fail
  obtain ⟨fs, hfs⟩ : ∃ fs, fs = aseen sure way := ⟨_, rfl⟩
  have HFS := Lib.hid hfs
  simp only [← hfs] at HN2 HL2 HAP HNO hfl
  rw [← hfs]
  have hpd3 : aseen sure way = fs := hfs.symm
  clear hfs
  have HRD : Hid (∀ (W : World) nm, Below w2.heap.size w2 W → nm.size ≤ maxLen → Calls Try.prog 10 #[.pointer (some ⟨d, 0, none⟩), .string nm] W (ReadPost W (aread down fs nm))) :=
    Lib.hid fun W nm hW hs => by rw [← hpd3]; exact Read_prog _ _ _ _ _ _ _ _ _ _ _ _ (HPD2.out.below hW) hs
  clear hpd3
  go_loopw [7] (fun i wr => ∃ k : Nat, k ≤ fs.length ∧ i = .int .i64 k ∧ Below w2.heap.size w2 wr) (fun i _ => fs.length - (intOf i).toNat)
  case atStart => exact ⟨0, Nat.zero_le _, rfl, below_drewN _ _⟩
  case round =>
    obtain ⟨k, hk, rfl, hbr⟩ := hrel
    have HBR := Lib.hid hbr; clear hbr
    by_cases hlt : k < fs.length
    · obtain ⟨f, hkf⟩ : ∃ f, fs[k]? = some f := ⟨_, List.getElem?_eq_getElem hlt⟩
      rcases (HN2.out.below HBR.out).2 with ⟨a', c', hv, _, _, ⟨_, h0, _⟩ | ⟨bn, offn, rfl, hbn, hatn⟩⟩
      · omega
      cases hv
      have d0 := hatn k (.string f.1) (by simp [hkf])
      have HF := Lib.hid hkf
      have HC := Lib.hid (HRD.out wr f.1 HBR.out (HNO.out f (List.mem_of_getElem? hkf)))
      obtain ⟨bs, er, har, hd1, hd2⟩ : ∃ bs er, aread down fs f.1 = (bs, er) ∧ (down = false → bs = f.2 ∧ er = 0) ∧ (down = true → er = 20) := by
        have := aread_at HAP.out hkf down
        cases down
        · exact ⟨_, _, this, fun _ => ⟨rfl, rfl⟩, fun h => by cases h⟩
        · exact ⟨_, _, this, fun h => by (cases h), fun _ => rfl⟩
      rw [har] at HC
      clear hatn hkf har
      go_wp2_with fail
      refine HC.out.mono ?_
      rintro e w3 ⟨bv, rfl, hbs, hb3⟩
      have hb23 : Below w2.heap.size w2 w3 := HBR.out.trans (hb3.mono HBR.out.size)
      rcases (HL2.out.below hb23).2 with ⟨a', c', hv, _, _, ⟨_, h0, _⟩ | ⟨bl, offl, rfl, hbl, hatl⟩⟩
      · omega
      cases hv
      obtain ⟨l0, l1⟩ := fs_cell hatl HF.out
      have d0' := cell_below hb3 hbn d0
      obtain ⟨a1, z1⟩ := block_cells ((hb23.block w.heap.size HBX2.out).trans HT2.out)
      have p4 := a1 4
      simp only [List.getElem?_toArray, List.getElem?_cons_zero, List.getElem?_cons_succ] at p4
      obtain ⟨ba, bc, rfl, hbc1, _⟩ := hbs.shape
      have hcv := fun n => run_convert_bs (P := Try.prog) (w := w3.drewN n) Try.underlying34 Try.underlying9 Try.underlying5 (hbs.below (below_drewN w3 n)).1
      have HB23 := Lib.hid hb23
      have HC3 := Lib.hid hcv
      clear hatl hb23 hb3 d0 a1 hcv
      cases down
      · obtain ⟨rfl, rfl⟩ := hd1 rfl
        have hcv := HC3.out
        dsimp only at hcv
        clear hd2
        go_wp2_with fail
        go_quiet (fail)
        go_wp2_with fail
        go_roundw
        case rel =>
          exact ⟨k + 1, by omega, by go_num, HB23.out.trans ((below_drewN w3 _).mono HB23.out.size)⟩
        case measure => simp [intOf]; omega
      · obtain rfl := hd2 rfl
        clear HC3 hd1
        go_wp2_with fail
        go_quiet (fail)
        go_wp2_with fail
        go_roundw
        case rel =>
          exact ⟨k + 1, by omega, by go_num, HB23.out.trans ((below_drewN w3 _).mono HB23.out.size)⟩
        case measure => simp [intOf]; omega
    · go_wp2_with fail
      go_ret
      exact ⟨rfl, HB2.out.trans (HBR.out.mono (by have := HBX2.out; omega))⟩

end Go.Proofs.Ytjejifbpidgnmaa
