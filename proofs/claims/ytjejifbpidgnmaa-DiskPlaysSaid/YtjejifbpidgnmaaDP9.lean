/-
  The walks of the program's disk: Crash.
-/
import Derived.Test.YtjejifbpidgnmaaDP8
namespace Go.Proofs.Ytjejifbpidgnmaa
open Go.RowKit Go.Maps

theorem pflat_get (ps : List (AOp × Value)) : ∀ (k j : Nat) (p : AOp × Value), ps[k]? = some p → j < 5 → (ps.flatMap pcell)[k * 5 + j]? = (pcell p)[j]? := by
  induction ps with
  | nil => intro k j p h; simp at h
  | cons q ps ih =>
    intro k j p h hj
    have hl : (pcell q).length = 5 := rfl
    cases k with
    | zero =>
      simp only [List.getElem?_cons_zero, Option.some.injEq] at h
      subst h
      rw [List.flatMap_cons, List.getElem?_append_left (by omega), Nat.zero_mul, Nat.zero_add]
    | succ k =>
      rw [List.getElem?_cons_succ] at h
      rw [List.flatMap_cons, List.getElem?_append_right (by omega), ← ih k j p h hj]
      congr 1; omega

theorem pcell_cell {w : World} {b off : Nat} {ps : List (AOp × Value)} (hat : At w b off (ps.flatMap pcell)) {k : Nat} {p : AOp × Value} (hk : ps[k]? = some p) :
    w.cell? ⟨b, off + k * 5, none⟩ = some (.int .i64 p.1.kind) ∧ w.cell? ⟨b, off + k * 5 + 1, none⟩ = some (.string p.1.name) ∧ w.cell? ⟨b, off + k * 5 + 2, none⟩ = some (.string p.1.other) ∧
      w.cell? ⟨b, off + k * 5 + 3, none⟩ = some (.int .i64 p.1.pos) ∧ w.cell? ⟨b, off + k * 5 + 4, none⟩ = some p.2 := by
  have h : ∀ j, j < 5 → w.cell? ⟨b, off + (k * 5 + j), none⟩ = (pcell p)[j]? := fun j hj => by
    have h1 := pflat_get ps k j p hk hj
    obtain ⟨u, hu⟩ : ∃ u, (pcell p)[j]? = some u := ⟨_, List.getElem?_eq_getElem (by simpa [pcell] using hj)⟩
    rw [hu]; exact hat _ _ (h1.trans hu)
  exact ⟨h 0 (by omega), h 1 (by omega), h 2 (by omega), h 3 (by omega), h 4 (by omega)⟩

theorem acrash_over (sure : List AFile) (way : List AOp) (keep : List Bool) (k : Nat) (h : keep.length ≤ k) : acrash sure (way.take (k + 1)) (keep.take (k + 1)) = acrash sure (way.take k) (keep.take k) := by
  rw [acrash_all _ _ _ _ (.inr h), acrash_all _ _ _ _ (.inr (by omega))]

/-- what Crash leaves -/
def CrashPost (d ms mv : Nat) (uv : Value) (room : Int) (sure : List AFile) (way : List AOp) (keep : List Bool) (K : Nat) (w : World) (e : Ending) (w' : World) : Prop :=
  ∃ mv', e = .returned (.tuple #[]) ∧ PD w' d ms mv' (.slice none 0 0) room (-1) false (acrash sure way keep) [] K ∧ Keeps (Foot d ms mv uv) w w' ∧ w.heap.size ≤ mv'

theorem crash_end {w w1 w2 : World} {d ms mv : Nat} {uv : Value} {room left : Int} {down : Bool} {sure : List AFile} {way : List AOp} {keep : List Bool} {K n : Nat} (h : PD w d ms mv uv room left down sure way K) (k1 : Keeps (· = ms) w w1)
    (hm : MapFs w1 ms n (acrash sure way keep)) (hc : MapFs w2 w1.heap.size n (acrash sure way keep)) (hb : Below w1.heap.size w1 w2) :
    CrashPost d ms mv uv room sure way keep K w (.returned (.tuple #[])) ((((w2.setCell ⟨d, 2, none⟩ (.map (some w1.heap.size))).setCell ⟨d, 3, none⟩ (.slice none 0 0)).setCell ⟨d, 4, none⟩ (.int .i64 (-1))).setCell ⟨d, 5, none⟩ (.bool false)) := by
  have hd1 := (k1.block d (h.foot (.inl rfl)).2 (fun e => h.hs.notCells h.hd e.symm)).trans h.hd
  have hd2 := (hb.block d (Array.getElem?_eq_some_iff.1 hd1).1).trans hd1
  have hk : Keeps (· = d) w2 ((((w2.setCell ⟨d, 2, none⟩ (.map (some w1.heap.size))).setCell ⟨d, 3, none⟩ (.slice none 0 0)).setCell ⟨d, 4, none⟩ (.int .i64 (-1))).setCell ⟨d, 5, none⟩ (.bool false)) :=
    (((keeps_cell w2 d 2 _).trans (keeps_cell _ d 3 _)).trans (keeps_cell _ d 4 _)).trans (keeps_cell _ d 5 _)
  have hn : NoBytes w2 d := noBytes_cells hd2 (by decide)
  have hS : ∀ b, b = d → NoBytes w2 b := fun b e => by subst e; exact hn
  have hm2 := hm.below hb
  refine ⟨w1.heap.size, rfl, PD.fresh (heap_setCell_at (heap_setCell_at (heap_setCell_at (heap_setCell_at hd2 2 _) 3 _) 4 _) 5 _) (hm2.keep hk (hm2.notCells hd2) hS) (hc.keep hk (hc.notCells hd2) hS) ?_ ?_ (h.ok.crash (fun o ho => (h.oo o ho).1)),
    ((k1.mono (fun i _ hi => .inr (.inl hi))).trans (keeps_of_below hb (Nat.le_refl _) _)).trans (hk.mono (fun i _ hi => .inl hi)), k1.size⟩
  · have := hm.lt; omega
  · have h1 := h.hK; have h3 := length_acrash keep sure way; omega

set_option maxRecDepth 100000 in
set_option maxHeartbeats 800000 in
theorem Crash_any (d ms mv : Nat) (uv kv : Value) (room left : Int) (down : Bool) (sure : List AFile) (way : List AOp) (keep : List Bool) (K : Nat) (w : World) (h : PD w d ms mv uv room left down sure way K) (hkv : KeepAt w kv keep) (hkf : 0 < keep.length → ∀ b, kv.ownBlock = some b → ¬ Foot d ms mv uv b) (hK : K ≤ 1000000) :
    Calls Try.prog 12 #[.pointer (some ⟨d, 0, none⟩), kv] w (CrashPost d ms mv uv room sure way keep K w) := by
  obtain ⟨ps, hps, hown, hbs⟩ := h.hu
  obtain ⟨ua, uc, rfl, hc1, hc2⟩ := hown.shape
  have hpl : ps.length ≤ 1000000 := by
    have h1 := h.hK; have h3 := congrArg List.length hps; simp at h3; omega
  obtain ⟨ak, capk, rfl, hc3, hc4⟩ := Sr.shape hkv
  have hwl : way.length = ps.length := by have h3 := congrArg List.length hps; simpa using h3
  have hm2 : keep.length ≤ 9223372036854775807 := by unfold maxLen at hc4; omega
  have HPS := Lib.hid hps; have HOWN := Lib.hid hown; have HBS := Lib.hid hbs; have H := Lib.hid h; have HK := Lib.hid hkv; have HKB := Lib.hid hK; have HWL := Lib.hid hwl; have HKF := Lib.hid hkf
  clear hps hown hbs h hkv hK hwl hc2 hc4 hkf
  obtain ⟨a1, z1⟩ := block_cells H.out.hd
  have p3 := a1 3
  simp only [List.getElem?_toArray, List.getElem?_cons_zero, List.getElem?_cons_succ] at p3
  clear a1 z1
  go_enter Try.func12, Try.ntmps12
  go_wp2_with fail
  go_loopw [13] (fun i wr => ∃ (k n : Nat), k ≤ ps.length ∧ n ≤ sure.length + k ∧ i = .int .i64 k ∧ MapFs wr ms n (acrash sure (way.take k) (keep.take k)) ∧ Keeps (· = ms) w wr) (fun i _ => ps.length - (intOf i).toNat)
  case atStart => exact ⟨0, sure.length, Nat.zero_le _, by omega, rfl, H.out.hs, Keeps.refl _ _⟩
  case round =>
    obtain ⟨k, n, hk1, hn, rfl, hm, hkp⟩ := hrel
    have hd1 := (hkp.block d (H.out.foot (.inl rfl)).2 (fun e => H.out.hs.notCells H.out.hd e.symm)).trans H.out.hd
    have hdlt : d < wr.heap.size := (Array.getElem?_eq_some_iff.1 hd1).1
    obtain ⟨b1, z1⟩ := block_cells hd1
    have p1 := b1 1; have q2 := b1 2; have q3 := b1 3; have q4 := b1 4; have q5 := b1 5
    simp only [List.getElem?_toArray, List.getElem?_cons_zero, List.getElem?_cons_succ] at p1 q2 q3 q4 q5
    have HM := Lib.hid hm; have HKP := Lib.hid hkp; have HD1 := Lib.hid hd1
    clear b1 hm hkp hd1
    by_cases hlt : k < ps.length
    · obtain ⟨⟨o, v⟩, hp⟩ : ∃ p, ps[k]? = some p := ⟨_, List.getElem?_eq_getElem hlt⟩
      have hpw : way[k]? = some o := by rw [HPS.out, List.getElem?_map, hp]; rfl
      have hbv : Bs wr v o.bytes := (HBS.out (o, v) (List.mem_of_getElem? hp)).keep HKP.out (fun b hb => by subst hb; exact H.out.hs.noBytes)
      obtain ⟨ba, bc, rfl, _, _⟩ := hbv.shape
      have hum : ∀ b, (Value.slice ua ps.length uc).ownBlock = some b → ¬ b = ms := fun b hb e => by
        obtain ⟨c, fr, hc⟩ := H.out.hty b hb
        exact H.out.hs.notCells hc e.symm
      have hown' := HOWN.out.keep HKP.out hum
      rcases hown'.sl.2 with ⟨ao', c', hv, _, _, ⟨_, h0, _⟩ | ⟨b, off, rfl, hbl, hat⟩⟩
      · omega
      cases hv
      obtain ⟨oc0, oc1, oc2, oc3, oc4⟩ := pcell_cell hat hp
      have HP := Lib.hid hp; have HPW := Lib.hid hpw
      have HBV := Lib.hid hbv
      dsimp only at oc0 oc1 oc2 oc3 oc4
      clear hat hp hpw hum hown' hbv
      by_cases hlk : k < keep.length
      · obtain ⟨kb, hkb⟩ : ∃ kb, keep[k]? = some kb := ⟨_, List.getElem?_eq_getElem hlk⟩
        obtain ⟨bk, offk, rfl, hbk, hatk⟩ := Sr.cells (Sr.keep HK.out HKP.out (fun h0 b hb e => HKF.out h0 b hb (.inr (.inl e)))) (by omega)
        have d0 := hatk k (.bool kb) (by simp [hkb])
        have HAC := Lib.hid (acrash_succ sure way keep k o kb HPW.out hkb)
        clear hatk hkb
        cases kb
        · go_wp2_with fail
          go_roundw
          case rel =>
            exact ⟨k + 1, n, by omega, by omega, by go_num, by rw [HAC.out]; exact (HM.out.below ((Below.refl _ _).alloc (Nat.le_refl _) _)), HKP.out.alloc _⟩
          case measure => simp [intOf]; omega
        · go_wp2_with fail
          have hal : Below wr.heap.size wr (wr.alloc (.cells (pcell (o, .slice ba o.bytes.length bc)).toArray 72)).drew := ((Below.refl _ _).alloc (Nat.le_refl _) _).drew
          have hoo := H.out.oo o (List.mem_of_getElem? HPW.out)
          have hcall := MapFs.do_any (o := o) (bv := .slice ba o.bytes.length bc) (HM.out.below hal) (HBV.out.below hal) (by have := H.out.hK; have := HKB.out; unfold maxLen; omega) hoo.2 hoo.1 (H.out.ok.crash (fun o ho => (H.out.oo o (List.mem_of_mem_take ho)).1))
          have HCALL := Lib.hid hcall; have HAL := Lib.hid hal; clear hcall hal hoo
          go_region_with (go_at_call 28; refine HCALL.out.mono ?_; rintro e w4 ⟨rfl, Y1, Y2⟩)
          all_goals
            go_wp2_with fail
            go_roundw
            case rel =>
              exact ⟨k + 1, n + 1, by omega, by omega, by go_num, by rw [HAC.out, if_pos trivial]; exact Y1, (HKP.out.trans (keeps_of_below HAL.out (Nat.le_refl _) _)).trans Y2⟩
            case measure => simp [intOf]; omega
      · have HAC := Lib.hid (acrash_over sure way keep k (by omega))
        go_wp2_with fail
        go_roundw
        case rel =>
          exact ⟨k + 1, n, by omega, by omega, by go_num, by rw [HAC.out]; exact (HM.out.below ((Below.refl _ _).alloc (Nat.le_refl _) _)), HKP.out.alloc _⟩
        case measure => simp [intOf]; omega
    · have HAC := Lib.hid (acrash_all sure way keep k (.inl (by have := HWL.out; omega)))
      go_wp2_with fail
      refine (CloneMap HM.out).mono ?_
      rintro e w2 ⟨rfl, hm2, hb2⟩
      have hend := crash_end (w2 := w2) (n := n) (keep := keep) H.out HKP.out (by rw [← HAC.out]; exact HM.out) (by rw [← HAC.out]; exact hm2) hb2
      have HE := Lib.hid hend
      obtain ⟨b1, z1⟩ := block_cells ((hb2.block d (Array.getElem?_eq_some_iff.1 HD1.out).1).trans HD1.out)
      have s2 := b1 2; have s3 := b1 3; have s4 := b1 4; have s5 := b1 5
      simp only [List.getElem?_toArray, List.getElem?_cons_zero, List.getElem?_cons_succ] at s2 s3 s4 s5
      clear hend hm2 hb2 b1 p1 q2 q3 q4 q5
      go_wp2_with fail
      go_end0
      exact HE.out

end Go.Proofs.Ytjejifbpidgnmaa
