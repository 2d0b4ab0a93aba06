/-
  The law: the document's example.
-/
import Derived.Test.YtjejifbpidgnmaaDL1
import Derived.Test.YtjejifbpidgnmaaDP6
import Derived.Lib.SlBytesConst
namespace Go.Proofs.Ytjejifbpidgnmaa
open Go.RowKit Go.Maps

def exA : ByteArray := ⟨#[97]⟩
def exOp : AOp := ⟨0, ⟨#[97]⟩, ⟨#[]⟩, 0, [120, 121]⟩
theorem ex_fits : afits 100 false (aseen [] []) 0 ⟨#[97]⟩ ⟨#[]⟩ 0 [120, 121] = 0 := by decide +kernel
theorem ex_ask : aask 0 [] exOp (-1) false = ([exOp], -1, false, 0) := by rfl
theorem ex_read : aread false (aseen [] [exOp]) ⟨#[97]⟩ = ([120, 121], 0) := by decide +kernel
theorem ex_crash : acrash [] [exOp] [] = [] := by rfl
theorem ex_read2 : aread false (aseen [] []) ⟨#[97]⟩ = ([], 21) := by rfl

set_option maxRecDepth 100000 in
set_option maxHeartbeats 1600000 in
theorem awake_any (w : World) : Calls Try.prog 4 #[] w fun e w' => e = .returned (.bool true) ∧ Below w.heap.size w w' := by
  go_enter Try.func4, Try.ntmps4
  go_wp2_with fail
  refine (New_any 100 w).mono ?_
  rintro e w1 ⟨_, h2, h3⟩
  obtain ⟨d, ms, mv, rfl, hpd, hd1, hd2, hd3⟩ := h2 (by omega)
  have hs1 := h3.size
  have hal : Below w1.heap.size w1 (w1.alloc (.cells #[.int .u8 120, .int .u8 121] 5 (2, 3))) := (Below.refl _ _).alloc (Nat.le_refl _) _
  have hsl : Sr (w1.alloc (.cells #[.int .u8 120, .int .u8 121] 5 (2, 3))) (.slice (some ⟨w1.heap.size, 0, none⟩) 2 2) 2 1 (bcells [120, 121]) := .inl ⟨rfl, _, _, rfl, Nat.le_refl _, by unfold maxLen; omega, .inr ⟨_, _, rfl, by simp, fun j u hj => by rw [Nat.zero_add, cell_new]; simpa using hj⟩⟩
  have hcw := Write_any d ms mv (.slice none 0 0) 100 (-1) false [] [] 0 ⟨#[97]⟩ 0 (.slice (some ⟨w1.heap.size, 0, none⟩) 2 2) [120, 121] _ (hpd.below hal) hsl (by omega) (by omega) (by omega) (by decide) (fun _ => by simp) (by simp) (by omega)
  rw [ex_fits] at hcw
  unfold AskPost at hcw
  have HCW := Lib.hid hcw
  have HB := Lib.hid (h3.trans (hal.mono hs1))
  have HPD := Lib.hid (hpd.below hal)
  have hsz : Hid (∀ b, Foot d ms mv (.slice none 0 0) b → w.heap.size ≤ b) := Lib.hid fun b hb => by
    rcases hb with h | h | h | h
    · omega
    · omega
    · omega
    · simp [Value.ownBlock] at h
  clear hpd h3 h2 hal hsl hcw
  have kc := Lib.run_convert_bytes_const (P := Try.prog) w1 34 5 #[.int .u8 120, .int .u8 121] 2 2 Try.underlying34 Try.underlying5
  go_wp2_with fail
  clear kc
  refine HCW.out.mono ?_
  rintro e w2 ⟨uv2, rfl, hpd2, hk2, hf2⟩
  change PD w2 d ms mv uv2 100 (-1) false [] [exOp] 1 at hpd2
  have hkw2 : Below w.heap.size w w2 := HB.out.trans (hk2.below (by have := HB.out.size; omega) (fun i hi hc => by have := hsz.out i hc; omega))
  have HRD := Lib.hid (Read_prog d ms mv uv2 100 (-1) false [] [exOp] 1 ⟨#[97]⟩ w2 hpd2 (by decide))
  rw [ex_read] at HRD
  have hft2 : ∀ b, Foot d ms mv uv2 b → w.heap.size ≤ b := fun b hb => by
    rcases hb with h | h | h | h
    · exact hsz.out b (.inl h)
    · exact hsz.out b (.inr (.inl h))
    · exact hsz.out b (.inr (.inr (.inl h)))
    · rcases hf2 b h with h' | h'
      · exact hsz.out b (.inr (.inr (.inr h')))
      · have := HB.out.size; omega
  have HP2 := Lib.hid hpd2; have HB2 := Lib.hid hkw2; have HF2 := Lib.hid hft2
  clear hpd2 hk2 hf2 hkw2 hft2
  go_wp2_with fail
  refine HRD.out.mono ?_
  rintro e w3 ⟨v3, rfl, hb3, hbel3⟩
  have HP3 := Lib.hid (HP2.out.below hbel3); have HB3 := Lib.hid (HB2.out.trans (hbel3.mono HB2.out.size)); have HV3 := Lib.hid hb3
  obtain ⟨va, vc, rfl, _, _⟩ := hb3.shape
  clear hb3 hbel3
  go_wp2_with fail
  refine (Pending_any _ _ _ _ _ _ _ _ _ _ _ HP3.out).mono ?_
  rintro e w3' ⟨rfl, rfl⟩
  have HCR := Lib.hid (Crash_any d ms mv uv2 (.slice none 0 0) 100 (-1) false [] [exOp] [] 1 w3 HP3.out (.inl (Sl.nil _ _)) (fun h0 => by simp at h0) (by omega))
  go_wp2_with fail
  refine HCR.out.mono ?_
  rintro e w4 ⟨mv4, rfl, hpd4, hk4, hm4⟩
  rw [ex_crash] at hpd4
  have HRD4 := Lib.hid (Read_prog d ms mv4 (.slice none 0 0) 100 (-1) false [] [] 1 ⟨#[97]⟩ w4 hpd4 (by decide))
  rw [ex_read2] at HRD4
  have HB4 : Hid (Below w.heap.size w w4) := Lib.hid (HB3.out.trans (hk4.below (by have := HB3.out.size; omega) (fun i hi hc => by have := HF2.out i hc; omega)))
  have HV4 := Lib.hid (HV3.out.keep hk4 (fun b hb => (HP3.out.foot hb).1))
  have HP4 := Lib.hid hpd4
  have HF4 : Hid (∀ b, Foot d ms mv4 (.slice none 0 0) b → w.heap.size ≤ b) := Lib.hid fun b hb => by
    rcases hb with h | h | h | h
    · exact HF2.out b (.inl h)
    · exact HF2.out b (.inr (.inl h))
    · have := HB3.out.size; omega
    · simp [Value.ownBlock] at h
  clear hpd4 hk4 hm4
  go_wp2_with fail
  refine HRD4.out.mono ?_
  rintro e w5 ⟨v5, rfl, hb5, hbel5⟩
  have HP5 := Lib.hid (HP4.out.below hbel5); have HB5 := Lib.hid (HB4.out.trans (hbel5.mono HB4.out.size))
  have hcv : (convert 34 9 (.slice va 2 vc)).run Try.prog w5 = .ok (.string ⟨#[120, 121]⟩) w5 := run_convert_bs (P := Try.prog) (w := w5) Try.underlying34 Try.underlying9 Try.underlying5 (HV4.out.below hbel5).1
  have HSY := Lib.hid (Sync_any d ms mv4 (.slice none 0 0) 100 (-1) false [] [] 1 w5 HP5.out (by omega) (by omega))
  clear hb5 hbel5
  go_wp2_with fail
  refine HSY.out.mono ?_
  rintro e w6 ⟨ms6, uv6, rfl, _, hk6, _, _⟩
  have HB6 : Hid (Below w.heap.size w w6) := Lib.hid (HB5.out.trans (hk6.below (by have := HB5.out.size; omega) (fun i hi hc => by have := HF4.out i hc; omega)))
  clear hk6 hcv
  have hsy : (async [] [] (-1) false).2.2.2.2 = 0 := by rfl
  rw [hsy]
  go_wp2_with fail
  go_ret
  exact ⟨rfl, HB6.out⟩

end Go.Proofs.Ytjejifbpidgnmaa
