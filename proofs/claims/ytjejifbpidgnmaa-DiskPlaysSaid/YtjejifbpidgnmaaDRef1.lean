/-
  The walks of the document's disk (lightermanref21), first part: files as slices of pairs of strings; Find, without.
-/
import Derived.Test.YtjejifbpidgnmaaRows
import Derived.Test.YtjejifbpidgnmaaMem
import Derived.Test.YtjejifbpidgnmaaDPlain
import Derived.Deep.DeepMust
namespace Go.Proofs.Ytjejifbpidgnmaa
open Go.RowKit

def fcells (f : AFile) : List Value := [.string f.1, .string ⟨f.2.toArray⟩]
/-- v is a slice that holds these files. -/
def FsAt (w : World) (v : Value) (fs : List AFile) : Prop := Sl w v fs.length 2 (fs.flatMap fcells)

theorem flat_get {α β : Type} (f : α → List β) (m : Nat) (hf : ∀ x, (f x).length = m) : ∀ (l : List α) (k j : Nat), j < m → (l.flatMap f)[k * m + j]? = (l[k]?).bind (fun x => (f x)[j]?)
  | [], k, j, _ => by simp
  | x :: l, 0, j, hj => by simp [List.getElem?_append_left (by rw [hf]; exact hj : j < (f x).length)]
  | x :: l, k + 1, j, hj => by
    rw [List.flatMap_cons, List.getElem?_append_right (by rw [hf, Nat.add_mul]; omega), hf]
    rw [show (k + 1) * m + j - m = k * m + j by rw [Nat.add_mul]; omega, flat_get f m hf l k j hj]
    simp

theorem fs_cell {w : World} {b off : Nat} {fs : List AFile} (h : At w b off (fs.flatMap fcells)) {k : Nat} {f : AFile} (hk : fs[k]? = some f) :
    w.cell? ⟨b, off + k * 2, none⟩ = some (.string f.1) ∧ w.cell? ⟨b, off + k * 2 + 1, none⟩ = some (.string ⟨f.2.toArray⟩) := by
  have h0 := flat_get fcells 2 (fun _ => rfl) fs k 0 (by omega)
  have h1 := flat_get fcells 2 (fun _ => rfl) fs k 1 (by omega)
  rw [hk] at h0 h1
  exact ⟨h _ _ h0, h _ _ h1⟩

theorem FsAt.nil (w : World) : FsAt w (.slice none 0 0) [] := Sl.nil w 2

theorem FsAt.below {w w' : World} {v : Value} {fs : List AFile} (h : FsAt w v fs) (k : Below w.heap.size w w') : FsAt w' v fs := Sl.below h k

/-- the place of a name, -1 where it is not -/
def aidx (l : List AFile) (n : ByteArray) : Int := match l.findIdx? (fun f => decide (f.1 = n)) with | some k => (k : Int) | none => -1

theorem toList_inj {a b : ByteArray} (h : a.toList = b.toList) : a = b := by
  rw [ByteArray.toList_eq, ByteArray.toList_eq] at h
  exact ByteArray.ext (Array.toList_inj.1 h)

theorem eq_of_toList {a b : ByteArray} (h : (a.toList == b.toList) = true) : a = b := toList_inj (by simpa using h)
theorem ne_of_toList {a b : ByteArray} (h : (a.toList == b.toList) = false) : a ≠ b := fun e => by subst e; simp at h

theorem aidx_none {l : List AFile} {n : ByteArray} (h : ∀ f ∈ l, f.1 ≠ n) : aidx l n = -1 := by
  unfold aidx
  rw [List.findIdx?_eq_none_iff.2 (fun x hx => by simpa using h x hx)]

theorem aidx_some {l : List AFile} {n : ByteArray} {k : Nat} (hk : k < l.length) (h : ∀ f ∈ l.take k, f.1 ≠ n) (he : (l[k]).1 = n) : aidx l n = k := by
  unfold aidx
  have : l.findIdx? (fun f => decide (f.1 = n)) = some k := by
    rw [List.findIdx?_eq_some_iff_getElem]
    refine ⟨hk, by simpa using he, fun j hj => ?_⟩
    have := h (l[j]) (by rw [List.mem_take_iff_getElem]; exact ⟨j, by omega, rfl⟩)
    simpa using this
  rw [this]

theorem aidx_find (l : List AFile) (n : ByteArray) : (∃ k, ∃ h : k < l.length, aidx l n = (k : Int) ∧ afind l n = some l[k]) ∨ (aidx l n = -1 ∧ afind l n = none) := by
  unfold aidx afind
  cases h : l.findIdx? (fun f => decide (f.1 = n)) with
  | none => exact .inr ⟨rfl, by rw [List.find?_eq_none]; intro x hx; have := List.findIdx?_eq_none_iff.1 h x hx; simpa using this⟩
  | some k =>
    obtain ⟨hk, h1, h2⟩ := List.findIdx?_eq_some_iff_getElem.1 h
    exact .inl ⟨k, hk, rfl, by
      rw [List.find?_eq_some_iff_getElem]
      exact ⟨h1, k, hk, rfl, fun j hj => by have := h2 j hj; simpa using this⟩⟩

set_option maxHeartbeats 400000 in
theorem Find_any (v : Value) (fs : List AFile) (nm : ByteArray) (w : World) (h : FsAt w v fs) :
    Calls Try.prog 34 #[v, .string nm] w fun e w' => e = .returned (.int .i64 (aidx fs nm)) ∧ w = w' := by
  obtain ⟨hl, a, cap, rfl, hcap, hmax, ha⟩ := h
  have hm : fs.length ≤ 9223372036854775807 := by unfold maxLen at hmax; omega
  clear hl hmax
  have H := Lib.hid ha; clear ha
  go_enter Try.func34, Try.ntmps34
  go_wp2
  go_loop [5] (fun i => ∃ k : Nat, k ≤ fs.length ∧ i = .int .i64 k ∧ ∀ f ∈ fs.take k, f.1 ≠ nm) (fun i => fs.length - (intOf i).toNat)
  case atStart => exact ⟨0, by omega, rfl, by simp⟩
  case round =>
    obtain ⟨k, hk, rfl, hr⟩ := hrel
    have HR := Lib.hid hr; clear hr
    by_cases hlt : k < fs.length
    · rcases H.out with ⟨_, h0, _⟩ | ⟨b, off, rfl, _, hat⟩
      · omega
      have hf := fs_cell hat (List.getElem?_eq_getElem hlt)
      generalize hx : fs[k] = f at hf
      have HX := Lib.hid hx
      obtain ⟨hf1, hf2⟩ := hf
      clear hat hx
      go_wp2
      · go_ret
        have e := eq_of_toList ‹(f.fst.toList == nm.toList) = true›
        exact ⟨by rw [aidx_some hlt HR.out (by rw [HX.out]; exact e)]; rfl, rfl⟩
      · have e := ne_of_toList ‹(f.fst.toList == nm.toList) = false›
        go_round
        case rel =>
          refine ⟨k + 1, by omega, by go_num, ?_⟩
          rw [List.take_succ_eq_append_getElem hlt]
          intro g hg
          rcases List.mem_append.1 hg with hg | hg
          · exact HR.out g hg
          · rw [List.mem_singleton.1 hg, HX.out]; exact e
        case measure => simp [intOf]; omega
    · go_wp2
      go_ret
      exact ⟨by rw [aidx_none (by have := HR.out; rwa [List.take_of_length_le (by omega)] at this)]; rfl, rfl⟩


theorem infoF : (Try.prog.info? 67).map (fun i => (i.zero, i.size, i.bytes)) = some (some (.agg #[.string ⟨#[]⟩, .string ⟨#[]⟩]), 2, 32) := by kernel_rfl

theorem fcells_one (fs : List AFile) : ∀ u ∈ fs.flatMap fcells, u.oneCell' = true := by
  intro u hu
  obtain ⟨f, _, hf⟩ := List.mem_flatMap.1 hu
  rcases List.mem_cons.1 hf with rfl | hf
  · rfl
  · rw [List.mem_singleton.1 hf]; rfl

theorem fcells_len (fs : List AFile) : (fs.flatMap fcells).length = fs.length * 2 := by
  induction fs with
  | nil => rfl
  | cons f fs ih => simp [fcells] at *; omega

set_option maxRecDepth 100000 in
set_option maxHeartbeats 400000 in
theorem without_any (v : Value) (fs : List AFile) (nm : ByteArray) (w : World) (h : FsAt w v fs) (hb : fs.length ≤ 1000000000) :
    Calls Try.prog 39 #[v, .string nm] w fun e w' => ∃ v', e = .returned v' ∧ Own (w.heap.size ≤ ·) w' v' (awithout fs nm).length 2 ((awithout fs nm).flatMap fcells) ∧ Below w.heap.size w w' := by
  have h' := h
  obtain ⟨hl, a, cap, rfl, hcap, hmax, ha⟩ := h
  obtain ⟨i0, hi, hz0, hz1, hz2⟩ := info_parts infoF
  have hI := Lib.hid hi; have hZ0 := Lib.hid hz0; have hZ1 := Lib.hid hz1; have hZ2 := Lib.hid hz2; clear hi hz0 hz1 hz2
  have hm : fs.length ≤ 9223372036854775807 := by unfold maxLen at hmax; omega
  clear hl hmax
  have H := Lib.hid h'; have HBD := Lib.hid hb; clear ha h' hb
  go_enter Try.func39, Try.ntmps39
  go_wp2
  go_loopw [5, 6] (fun out i wr => ∃ k : Nat, k ≤ fs.length ∧ i = .int .i64 k ∧ Own (w.heap.size ≤ ·) wr out (awithout (fs.take k) nm).length 2 ((awithout (fs.take k) nm).flatMap fcells) ∧ Below w.heap.size w wr) (fun _ i _ => fs.length - (intOf i).toNat)
  case atStart => exact ⟨0, by omega, rfl, Own.nil _ _ _, Below.refl _ _⟩
  case round =>
    obtain ⟨k, hk, rfl, ho, hbw⟩ := hrel
    have HB := Lib.hid hbw; have HO := Lib.hid ho; clear hbw ho
    by_cases hlt : k < fs.length
    · have hsl : FsAt wr _ fs := H.out.below HB.out
      obtain ⟨_, a', cap', hv, _, _, ha⟩ := hsl
      cases hv
      rcases ha with ⟨_, h0, _⟩ | ⟨b, off, rfl, hbl, hat⟩
      · omega
      have hf := fs_cell hat (List.getElem?_eq_getElem hlt)
      generalize hx : fs[k] = f at hf
      have HX := Lib.hid hx
      obtain ⟨hf1, hf2⟩ := hf
      clear hat hx
      by_cases hne : f.1 = nm
      · have e : (f.fst.toList == nm.toList) = true := by rw [hne]; simp
        have HN := Lib.hid hne; clear hne
        go_wp2_with fail
        go_roundw
        case rel =>
          refine ⟨k + 1, by omega, by go_num, ?_, HB.out⟩
          rw [List.take_succ_eq_append_getElem hlt, HX.out]
          have : awithout (List.take k fs ++ [f]) nm = awithout (List.take k fs) nm := by simp [awithout, HN.out]
          rw [this]; exact HO.out
        case measure => simp [intOf]; omega
      · have e : (f.fst.toList == nm.toList) = false := by simpa using fun e => hne (toList_inj e)
        have HN := Lib.hid hne; clear hne
        go_wp2_with (at_builtin; refine halt1 ?_)
        refine on1 (wpList_append_o (w.heap.size ≤ ·) rfl _ _ 28 28 rfl Try.underlying28 hI.out hZ0.out hZ1.out hZ2.out rfl rfl rfl ?_ (HO.out.alloc _) (src_new wr 2 Try.underlying28 1 1 (fcells f) _ _ rfl ?_) ?_ ?_ ?_)
        · intro b hb; simp at hb; exact Nat.le_trans HB.out.size (by omega)
        · intro u hu; exact fcells_one [f] u (by simpa using hu)
        · have := HBD.out; have h1 := List.length_filter_le (fun g : AFile => decide (g.1 ≠ nm)) (fs.take k); have := List.length_take_le k fs; unfold maxLen; simp only [awithout]; omega
        · have := HBD.out; have h1 := List.length_filter_le (fun g : AFile => decide (g.1 ≠ nm)) (fs.take k); have := List.length_take_le k fs; simp only [awithout]; omega
        intro v' w1 hown hgr _
        have HG := Lib.hid hgr; have HO1 := Lib.hid hown; clear hgr hown
        go_wp2
        go_roundw
        case rel =>
          have hq : awithout (List.take (k + 1) fs) nm = awithout (List.take k fs) nm ++ [f] := by
            rw [List.take_succ_eq_append_getElem hlt, HX.out]; simp [awithout, HN.out]
          refine ⟨k + 1, by omega, by go_num, ?_, ?_⟩
          · have := HO1.out; rw [hq, List.length_append, List.flatMap_append]; simpa [fcells] using this
          · exact (HB.out.alloc HB.out.size _).grown HG.out (by have := HB.out.size; simp; omega) (fun k hk => HO.out.sure hk)
        case measure => simp [intOf]; omega
    · go_wp2
      go_ret
      have := HO.out
      rw [List.take_of_length_le (by omega)] at this
      exact ⟨_, rfl, this, HB.out⟩

end Go.Proofs.Ytjejifbpidgnmaa
