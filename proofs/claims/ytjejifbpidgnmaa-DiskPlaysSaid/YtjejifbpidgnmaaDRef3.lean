/-
  The walks of the document's disk, third part: Do.
-/
import Derived.Test.YtjejifbpidgnmaaDRef2
namespace Go.Proofs.Ytjejifbpidgnmaa
open Go.RowKit

theorem infoU8 : (Try.prog.info? 5).map (fun i => (i.zero, i.size, i.bytes)) = some (some (.int .u8 0), 1, 1) := by kernel_rfl

/-- an operation's cells, as the document's value -/
def ocells (o : AOp) : List Value := [.int .i64 o.kind, .string o.name, .string o.other, .int .i64 o.pos, .string ⟨o.bytes.toArray⟩]

/-- what may come of a slice: itself, or one in new memory -/
def Fresh (B : Nat) (v v' : Value) : Prop := v' = v ∨ ∀ b, v'.ownBlock = some b → B ≤ b

theorem fs_cell_alloc {w : World} {b off cap : Nat} {fs : List AFile} (h : FsAt w (.slice (some ⟨b, off, none⟩) fs.length cap) fs) (o : Obj) {k : Nat} {f : AFile} (hk : fs[k]? = some f) :
    (w.alloc o).cell? ⟨b, off + k * 2, none⟩ = some (.string f.1) ∧ (w.alloc o).cell? ⟨b, off + k * 2 + 1, none⟩ = some (.string ⟨f.2.toArray⟩) := by
  obtain ⟨_, a, cap, hv, _, _, ha⟩ := Sl.alloc h o
  cases hv
  rcases ha with ⟨h0, _⟩ | ⟨b, off, hv, _, hat⟩
  · cases h0
  cases hv
  exact fs_cell hat hk

theorem FsAt.some {w : World} {v : Value} {fs : List AFile} (h : FsAt w v fs) {k : Nat} (hk : k < fs.length) : ∃ b off cap, v = .slice (some ⟨b, off, none⟩) fs.length cap ∧ b < w.heap.size ∧ fs.length ≤ cap ∧ cap ≤ maxLen := by
  obtain ⟨_, a, cap, rfl, h1, h2, ha⟩ := h
  rcases ha with ⟨_, h0, _⟩ | ⟨b, off, rfl, hb, _⟩
  · omega
  · exact ⟨b, off, cap, rfl, hb, h1, h2⟩

set_option maxRecDepth 100000 in
set_option maxHeartbeats 1000000 in
theorem Do_rm (v : Value) (fs : List AFile) (kind : Nat) (name other : ByteArray) (pos : Nat) (bytes : List UInt8) (w : World) (h : FsAt w v fs) (hb : fs.length ≤ 1000000000) (hk : kind = 1 ∨ kind = 2) :
    Calls Try.prog 33 #[v, .agg #[.int .i64 kind, .string name, .string other, .int .i64 pos, .string ⟨bytes.toArray⟩]] w fun e w' => ∃ v', e = .returned v' ∧ FsAt w' v' (ado fs ⟨kind, name, other, pos, bytes⟩) ∧ Fresh w.heap.size v v' ∧ Below w.heap.size w w' := by
  have HBD := Lib.hid hb; clear hb
  have H := Lib.hid h; clear h
  rcases aidx_find fs name with ⟨k, hlt, hi, hf⟩ | ⟨hi, hf⟩
  · have HF := Lib.hid hf; have HI := Lib.hid hi; clear hf hi
    obtain ⟨b, off, cap, rfl, hbl, hcap, hmax⟩ := H.out.some hlt
    clear hmax
    obtain ⟨fk, hfk⟩ : ∃ fk, fs[k]? = some fk := ⟨_, List.getElem?_eq_getElem hlt⟩
    have hfk' : fs[k] = fk := by have := List.getElem?_eq_getElem hlt; rw [hfk] at this; cases this; rfl
    have HFQ := Lib.hid hfk; have HFK := Lib.hid hfk'; clear hfk hfk'
    rcases hk with rfl | rfl
    · have hf1 := (fs_cell_alloc H.out (.cells #[.int .i64 1, .string name, .string other, .int .i64 pos, .string ⟨bytes.toArray⟩] 55) HFQ.out).2
      go_enter Try.func33, Try.ntmps33
      go_wp2_with fail
      refine (Find_any _ fs _ _ (H.out.alloc _)).mono ?_
      rintro e w1 ⟨rfl, rfl⟩
      rw [HI.out]
      go_wp2_with fail
      refine (without_any _ fs _ _ (H.out.alloc _) HBD.out).mono ?_
      rintro e w1 ⟨v1, rfl, ho, hbw⟩
      have hp0 := cell_new_below (by simpa using hbw) 0
      have hp2 := cell_new_below (by simpa using hbw) 2
      have HO := Lib.hid ho; have HB := Lib.hid hbw; clear ho hbw
      simp only [List.getElem?_toArray, List.getElem?_cons_zero, List.getElem?_cons_succ] at hp0 hp2
      go_wp2_with fail
      refine (with_any _ (awithout fs name) (other, fk.2) _ HO.out.sl (Nat.le_trans (length_awithout _ _) HBD.out)).mono ?_
      rintro e w2 ⟨v2, rfl, ho2, hb2⟩
      have HO2 := Lib.hid ho2; have HB2 := Lib.hid hb2; clear ho2 hb2
      go_wp2
      go_ret
      have hs := HB.out.size
      simp only [World.size_alloc] at hs
      refine ⟨_, rfl, ?_, .inr (fun b hb => by have := HO2.out.sure hb; omega), ?_⟩
      · have := HO2.out.sl
        simpa [ado, HF.out, HFK.out, FsAt] using this
      · exact ((Below.refl _ _).alloc (Nat.le_refl _) _).trans ((HB.out.mono (by simp)).trans (HB2.out.mono (by omega)))
    · have hf1 := (fs_cell_alloc H.out (.cells #[.int .i64 2, .string name, .string other, .int .i64 pos, .string ⟨bytes.toArray⟩] 55) HFQ.out).2
      go_enter Try.func33, Try.ntmps33
      go_wp2_with fail
      refine (Find_any _ fs _ _ (H.out.alloc _)).mono ?_
      rintro e w1 ⟨rfl, rfl⟩
      rw [HI.out]
      go_wp2_with fail
      refine (without_any _ fs _ _ (H.out.alloc _) HBD.out).mono ?_
      rintro e w1 ⟨v1, rfl, ho, hbw⟩
      have hp0 := cell_new_below (by simpa using hbw) 0
      have HO := Lib.hid ho; have HB := Lib.hid hbw; clear ho hbw
      simp only [List.getElem?_toArray, List.getElem?_cons_zero] at hp0
      go_wp2
      go_ret
      refine ⟨_, rfl, ?_, .inr (fun b hb => by have := HO.out.sure hb; simp at this; omega), ?_⟩
      · have := HO.out.sl
        simpa [ado, HF.out, HFK.out, FsAt] using this
      · exact ((Below.refl _ _).alloc (Nat.le_refl _) _).trans (HB.out.mono (by simp))
  · have HF := Lib.hid hf; have HI := Lib.hid hi; clear hf hi
    rcases hk with rfl | rfl
    all_goals
      go_enter Try.func33, Try.ntmps33
      go_wp2_with fail
      refine (Find_any _ fs _ _ (H.out.alloc _)).mono ?_
      rintro e w1 ⟨rfl, rfl⟩
      rw [HI.out]
      go_wp2
      go_ret
      refine ⟨_, rfl, ?_, .inl rfl, (Below.refl _ _).alloc (Nat.le_refl _) _⟩
      have := Sl.alloc H.out
      simp only [ado, HF.out]
      exact this _

def lenV : Value → Nat | .slice _ n _ => n | _ => 0

/-- what lies in the row after k bytes were written over -/
def ovl (base bytes : List UInt8) (pos k : Nat) : List UInt8 := base.take pos ++ bytes.take k ++ base.drop (pos + k)
theorem ovl_zero (base bytes : List UInt8) (pos : Nat) : ovl base bytes pos 0 = base := by simp [ovl]
theorem ovl_succ {base bytes : List UInt8} {pos k : Nat} (hk : k < bytes.length) (hp : pos + bytes.length ≤ base.length) : (ovl base bytes pos k).set (pos + k) bytes[k] = ovl base bytes pos (k + 1) := by
  apply List.ext_getElem?
  intro i
  simp only [ovl, List.getElem?_set, List.getElem?_append, List.length_append, List.length_take, List.getElem?_take, List.getElem?_drop]
  have e1 : min pos base.length = pos := by omega
  have e2 : min k bytes.length = k := by omega
  have e3 : min (k + 1) bytes.length = k + 1 := by omega
  simp only [e1, e2, e3, List.length_drop]
  by_cases h : pos + k = i
  · subst h
    simp [hk, show pos + k - pos = k by omega, show ¬ pos + k < pos by omega]; omega
  · simp only [if_neg h]
    by_cases h1 : i < pos
    · simp [h1, show i < pos + k by omega, show i < pos + (k + 1) by omega]
    · by_cases h2 : i < pos + k
      · simp [h1, h2, show i < pos + (k + 1) by omega, show i - pos < k by omega, show i - pos < k + 1 by omega]
      · simp only [h1, h2, show ¬ i < pos + (k + 1) by omega, if_neg, not_false_iff]
        congr 1; omega

set_option maxRecDepth 100000 in
set_option maxHeartbeats 1000000 in
theorem Do_wr (v : Value) (fs : List AFile) (name other : ByteArray) (pos : Nat) (bytes : List UInt8) (w : World) (h : FsAt w v fs) (hb : fs.length ≤ 1000000000) (hpos : pos + bytes.length ≤ 1000000000000) (hc : ∀ f ∈ fs, f.2.length ≤ 1000000000000) :
    Calls Try.prog 33 #[v, .agg #[.int .i64 0, .string name, .string other, .int .i64 pos, .string ⟨bytes.toArray⟩]] w fun e w' => ∃ v', e = .returned v' ∧ FsAt w' v' (ado fs ⟨0, name, other, pos, bytes⟩) ∧ Fresh w.heap.size v v' ∧ Below w.heap.size w w' := by
  have HBD := Lib.hid hb; clear hb
  have H := Lib.hid h; clear h
  have HP := Lib.hid hpos; have HC := Lib.hid hc; clear hpos hc
  obtain ⟨i0, hi, hz0, hz1, hz2⟩ := info_parts infoU8
  have hI := Lib.hid hi; have hZ0 := Lib.hid hz0; have hZ1 := Lib.hid hz1; have hZ2 := Lib.hid hz2; clear hi hz0 hz1 hz2
  rcases aidx_find fs name with ⟨k, hlt, hi, hf⟩ | ⟨hi, hf⟩
  case' inl =>
    have HI := Lib.hid hi; clear hi
    obtain ⟨b, off, cap, rfl, hbl, hcap, hmax⟩ := H.out.some hlt
    clear hmax
    obtain ⟨fk, hfk⟩ : ∃ fk, fs[k]? = some fk := ⟨_, List.getElem?_eq_getElem hlt⟩
    have hfk' : fs[k] = fk := by have := List.getElem?_eq_getElem hlt; rw [hfk] at this; cases this; rfl
    have HOLD : Hid (aold fs name = fk.2 ∧ fk.2.length ≤ 1000000000000) := Lib.hid ⟨by rw [hfk'] at hf; simp [aold, hf], HC.out fk (hfk' ▸ List.getElem_mem hlt)⟩
    have HFQ := Lib.hid hfk; clear hfk hfk' hf
    have hf1 := (fs_cell_alloc H.out (.cells #[.int .i64 0, .string name, .string other, .int .i64 pos, .string ⟨bytes.toArray⟩] 55) HFQ.out).2
    generalize fk.2 = old at hf1 HOLD
    go_enter Try.func33, Try.ntmps33
    go_wp2_with fail
    refine (Find_any _ fs _ _ (H.out.alloc _)).mono ?_
    rintro e w1 ⟨rfl, rfl⟩
    rw [HI.out]
    go_wp2_with (with_reducible refine halt_convert rfl ?_)
    clear hf1
    have HNIL : Hid (old = old) := Lib.hid rfl
  case' inr =>
    have HI := Lib.hid hi; clear hi
    obtain ⟨old, hold⟩ : ∃ old : List UInt8, [] = old := ⟨_, rfl⟩
    have HOLD : Hid (aold fs name = old ∧ old.length ≤ 1000000000000) := Lib.hid ⟨by simp [aold, hf, ← hold], by rw [← hold]; simp⟩
    have HNIL := Lib.hid hold; clear hold hf
    go_enter Try.func33, Try.ntmps33
    go_wp2_with fail
    refine (Find_any _ fs _ _ (H.out.alloc _)).mono ?_
    rintro e w1 ⟨rfl, rfl⟩
    rw [HI.out]
    go_wp2_with (with_reducible refine halt_convert rfl ?_)
  all_goals
    refine on1 (wpList_convert_sb (w.heap.size + 1 ≤ ·) rfl rfl Try.underlying9 Try.underlying34 Try.underlying5 (l := old) (by first | exact rfl | exact congrArg (fun l : List UInt8 => Value.string ⟨l.toArray⟩) HNIL.out) ?_ ?_ ?_)
    · simp
    · have := HOLD.out.2; unfold maxLen; omega
    intro vb wb hownb hbb _
    have hsz : w.heap.size + 1 ≤ wb.heap.size := by have := hbb.size; simpa using this
    have hb1 : Below (w.heap.size + 1) (w.alloc (.cells #[.int .i64 0, .string name, .string other, .int .i64 pos, .string ⟨bytes.toArray⟩] 55)) wb := by simpa using hbb
    have HB1 := Lib.hid hb1; have HO1 := Lib.hid hownb; clear hbb hownb hb1
    go_wp2
    go_loopw [7] (fun b wr => ∃ m : Nat, m ≤ pos + bytes.length - old.length ∧ Own (w.heap.size + 1 ≤ ·) wr b (old.length + m) 1 (bcells (old ++ List.replicate m 0)) ∧ Below (w.heap.size + 1) (w.alloc (.cells #[.int .i64 0, .string name, .string other, .int .i64 pos, .string ⟨bytes.toArray⟩] 55)) wr) (fun b _ => pos + bytes.length - lenV b)
    case atStart => exact ⟨0, Nat.zero_le _, by simpa using HO1.out, HB1.out⟩
    case round =>
      obtain ⟨m, hm, hown, hbr⟩ := hrel
      have hp1 := cell_new_below hbr 1
      have hp3 := cell_new_below hbr 3
      have hp4 := cell_new_below hbr 4
      simp only [List.getElem?_toArray, List.getElem?_cons_zero, List.getElem?_cons_succ] at hp1 hp3 hp4
      obtain ⟨ab, capb, rfl, hcb, hmb⟩ := hown.shape
      have hb63 : old.length + m ≤ 9223372036854775807 := by have := HOLD.out.2; have := HP.out; omega
      have hpb : pos + bytes.length ≤ 9223372036854775807 := by have := HP.out; omega
      have HR := Lib.hid hbr; have HO := Lib.hid hown; clear hbr hown hmb
      by_cases hlt : old.length + m < pos + bytes.length
      · go_wp2_with (at_builtin; refine halt1 ?_)
        refine on1 (wpList_append_o (w.heap.size + 1 ≤ ·) rfl _ _ 34 34 rfl Try.underlying34 hI.out hZ0.out hZ1.out hZ2.out rfl (v := .slice ab (old.length + m) capb) rfl rfl ?_ (HO.out.alloc _) (src_new wr 1 Try.underlying34 1 1 [.int .u8 0] _ _ rfl ?_) ?_ ?_ ?_)
        · intro b hb; have := HR.out.size; simp at this hb; omega
        · intro u hu; rw [List.mem_singleton.1 hu]; rfl
        · have := HP.out; unfold maxLen; omega
        · have := HP.out; omega
        intro v2 w2 hown2 hgr2 _
        have hb2 : Below (w.heap.size + 1) (w.alloc (.cells #[.int .i64 0, .string name, .string other, .int .i64 pos, .string ⟨bytes.toArray⟩] 55)) w2 :=
          (HR.out.alloc (by have := HR.out.size; simpa using this) _).grown hgr2 (by have := HR.out.size; simp at this; simp; omega) (fun k hk => HO.out.sure hk)
        have HO2 := Lib.hid hown2; have HB2 := Lib.hid hb2; clear hgr2 hown2 hb2 hp1 hp3 hp4
        go_wp2
        go_roundw
        case rel =>
          refine ⟨m + 1, by omega, ?_, HB2.out⟩
          have := HO2.out
          rw [show bcells (old ++ List.replicate (m + 1) 0) = bcells (old ++ List.replicate m 0) ++ [.int .u8 0] by simp [bcells, List.replicate_succ']]
          exact this
        case measure =>
          obtain ⟨a2, c2, e2, _⟩ := HO2.out.shape
          rw [e2]; simp [lenV]; omega
      · have hmm : m = pos + bytes.length - old.length := by omega
        have HM := Lib.hid hmm; clear hmm
        go_wp2_with fail
        go_loopw [8] (fun i wr => ∃ k : Nat, k ≤ bytes.length ∧ i = .int .i64 k ∧ Own (w.heap.size + 1 ≤ ·) wr (.slice ab (old.length + m) capb) (old.length + m) 1 (bcells (ovl (old ++ List.replicate m 0) bytes pos k)) ∧
          Below (w.heap.size + 1) (w.alloc (.cells #[.int .i64 0, .string name, .string other, .int .i64 pos, .string ⟨bytes.toArray⟩] 55)) wr) (fun i _ => bytes.length - (intOf i).toNat)
        case atStart => exact ⟨0, Nat.zero_le _, rfl, by rw [ovl_zero]; exact HO.out, HR.out⟩
        case round =>
          clear hp1 hp3 hp4
          obtain ⟨k, hk, rfl, hown, hbr⟩ := hrel
          have hp1 := cell_new_below hbr 1
          have hp3 := cell_new_below hbr 3
          have hp4 := cell_new_below hbr 4
          simp only [List.getElem?_toArray, List.getElem?_cons_zero, List.getElem?_cons_succ] at hp1 hp3 hp4
          have HR2 := Lib.hid hbr; have HO2 := Lib.hid hown; clear hbr hown
          by_cases hlt2 : k < bytes.length
          · obtain ⟨bb, ob, cb, hv, _, _, _, _⟩ := HO2.out.some (by omega)
            cases hv
            have hL : (bcells (ovl (old ++ List.replicate m 0) bytes pos k)).length = old.length + m := by simpa using HO2.out.1
            have hcf := HO2.out.cellAt (j := pos + k) (by omega)
            obtain ⟨hc1, hc2⟩ := hcf
            generalize hcv : (bcells (ovl (old ++ List.replicate m 0) bytes pos k))[pos + k]'(by omega) = cv at hc1
            have HL := Lib.hid hL; clear hL hcv
            go_wp2_with fail
            go_region
            go_wp2_with fail
            go_roundw
            case rel =>
              refine ⟨k + 1, by omega, by go_num, ?_, ?_⟩
              · have := (HO2.out.set (j := pos + k) (by have := HL.out; omega) (.int .u8 (bytes[k]).toNat)).drew
                have e : (bcells (ovl (old ++ List.replicate m 0) bytes pos k)).set (pos + k) (.int .u8 (bytes[k]).toNat) = bcells (ovl (old ++ List.replicate m 0) bytes pos (k + 1)) := by
                  rw [← ovl_succ hlt2 (by have := HM.out; simp; omega)]; simp [bcells]
                rw [e] at this
                exact this
              · exact (HR2.out.setCell (by assumption) _).drew
            case measure => simp [intOf]; omega
          · go_wp2_with (with_reducible refine halt_convert rfl ?_)
            have hk' : k = bytes.length := by omega
            have HK := Lib.hid hk'; clear hk'
            refine on1 (wpList_convert_bs rfl rfl Try.underlying34 Try.underlying9 Try.underlying5 rfl HO2.out.sl ?_)
            have hfs : FsAt wr _ fs := (Sl.alloc H.out _).keep (keeps_of_below HR2.out (by simp) (fun _ => False)) (fun _ _ => id)
            go_wp2_with fail
            refine (with_any _ fs (name, ovl (old ++ List.replicate m 0) bytes pos k) _ hfs HBD.out).mono ?_
            rintro e w3 ⟨v3, rfl, ho3, hb3⟩
            have HO3 := Lib.hid ho3; have HB3 := Lib.hid hb3; clear ho3 hb3
            go_wp2
            go_ret
            have hs := HR2.out.size
            simp only [World.size_alloc] at hs
            refine ⟨_, rfl, ?_, .inr (fun b hb => by have := HO3.out.sure hb; omega), ?_⟩
            · have := HO3.out.sl
              have e : awith fs (name, ovl (old ++ List.replicate m 0) bytes pos k) = ado fs ⟨0, name, other, pos, bytes⟩ := by
                simp only [ado, HOLD.out.1, if_true, aoverlay, ovl, HK.out, HM.out, List.take_length]
              rw [e] at this
              exact this
            · exact ((Below.refl _ _).alloc (Nat.le_refl _) _).trans ((HR2.out.mono (Nat.le_succ _)).trans (HB3.out.mono (by omega)))


end Go.Proofs.Ytjejifbpidgnmaa
