/-
  The walks of the document's disk, fifth part: stops, fits.
-/
import Derived.Test.YtjejifbpidgnmaaDRef4
namespace Go.Proofs.Ytjejifbpidgnmaa
open Go.RowKit

set_option maxRecDepth 100000 in
set_option maxHeartbeats 1000000 in
/-- a document's disk's own stop: 0: now; above: one less -/
theorem Rstops_any (a1 a2 : Option Addr) (n1 c1 n2 c2 : Nat) (room left : Int) (down : Bool) (w : World) (hl : -1 ≤ left) (hl2 : left ≤ 9223372036854775807) :
    Calls Try.prog 32 #[.agg #[.int .i64 room, .slice a1 n1 c1, .slice a2 n2 c2, .int .i64 left, .bool down]] w fun e w' =>
      e = .returned (.tuple #[.agg #[.int .i64 room, .slice a1 n1 c1, .slice a2 n2 c2, .int .i64 (if 0 < left then left - 1 else left), .bool (if left = 0 then true else down)], .bool (decide (left = 0))]) ∧ Below w.heap.size w w' := by
  have hB : ∀ o o', Below w.heap.size w ((w.alloc o).alloc o') := fun o o' => ((Below.refl _ _).alloc (Nat.le_refl _) o).alloc (by simp) o'
  have HB := Lib.hid hB; clear hB
  by_cases h0 : left = 0
  · subst h0
    go_enter Try.func32, Try.ntmps32
    go_wp2
    refine bodyPost_ret (v := .tuple #[.agg #[.int .i64 room, .slice a1 n1 c1, .slice a2 n2 c2, .int .i64 0, .bool true], .bool true]) (by simp [results, Try.results32, go_sem]) rfl ⟨rfl, ?_⟩
    exact HB.out _ _
  · have e0 : (left == 0) = false := by simpa using h0
    by_cases h1 : 0 < left
    · go_enter Try.func32, Try.ntmps32
      go_wp2
      refine bodyPost_ret (v := .tuple #[.agg #[.int .i64 room, .slice a1 n1 c1, .slice a2 n2 c2, .int .i64 (left - 1), .bool down], .bool false]) (by simp [results, Try.results32, go_sem]) rfl ⟨?_, ?_⟩
      · simp [h0, h1]
      · exact HB.out _ _
    · go_enter Try.func32, Try.ntmps32
      go_wp2
      refine bodyPost_ret (v := .tuple #[.agg #[.int .i64 room, .slice a1 n1 c1, .slice a2 n2 c2, .int .i64 left, .bool down], .bool false]) (by simp [results, Try.results32, go_sem]) rfl ⟨?_, ?_⟩
      · simp [h0, h1]
      · exact HB.out _ _

/-- the first error of what is asked -/
def badName (n : ByteArray) : Bool := decide (n.size = 0 ∨ 32 < n.size)
theorem badName_iff (n : ByteArray) : badName n = true ↔ n.size = 0 ∨ 32 < n.size := by unfold badName; exact decide_eq_true_iff
def afits (room : Int) (down : Bool) (l : List AFile) (kind : Nat) (name other : ByteArray) (pos : Int) (bytes : List UInt8) : Int :=
  if down then 20
  else if kind = 1 ∧ badName other = true ∨ kind = 0 ∧ pos < 0 ∨ kind < 2 ∧ badName name = true then 1
  else if 0 < kind then (match afind l name with | none => 21 | some _ => 0)
  else if ((aold l name).length : Int) < pos then 17
  else if room < (asize (ado l ⟨0, name, other, pos.toNat, bytes⟩) : Int) then 22
  else 0

theorem isEmpty_size (n : ByteArray) : n.toList.isEmpty = decide (n.size = 0) := by
  rw [ByteArray.toList_eq]
  rcases n with ⟨⟨l⟩⟩
  cases l <;> simp [ByteArray.size]

set_option maxRecDepth 100000 in
set_option maxHeartbeats 1000000 in
theorem fits_wr (sv ov : Value) (room left : Int) (down : Bool) (sure : List AFile) (way : List AOp) (name other : ByteArray) (pos : Int) (bytes : List UInt8) (w : World) (hs : FsAt w sv sure) (ho : OpsAt w ov way) (hb : sure.length + way.length ≤ 1000000)
    (hok : OkF 1000000000000 sure) (hoo : ∀ o ∈ way, OkO 1000000000000 o) (hp : pos ≤ ((aold (aseen sure way) name).length : Int) → pos + bytes.length ≤ 1000000000000) (hbs : bytes.length ≤ 1000000000000) :
    Calls Try.prog 31 #[.agg #[.int .i64 room, sv, ov, .int .i64 left, .bool down], .agg #[.int .i64 0, .string name, .string other, .int .i64 pos, .string ⟨bytes.toArray⟩]] w fun e w' =>
      e = .returned (.int .i64 (afits room down (aseen sure way) 0 name other pos bytes)) ∧ Below w.heap.size w w' := by
  have HBD := Lib.hid hb; have HS := Lib.hid hs; have HO := Lib.hid ho; have HOK := Lib.hid hok; have HOO := Lib.hid hoo; have HP := Lib.hid hp; have HBS := Lib.hid hbs
  clear hb hs ho hok hoo hp hbs
  have hB : ∀ o o', Below w.heap.size w ((w.alloc o).alloc o') := fun o o' => ((Below.refl _ _).alloc (Nat.le_refl _) o).alloc (by simp) o'
  have HB := Lib.hid hB; clear hB
  cases down
  case true =>
    go_enter Try.func31, Try.ntmps31
    go_wp2_with fail
    go_ret
    exact ⟨rfl, HB.out _ _⟩
  case false =>
    by_cases hbad : pos < 0 ∨ badName name = true
    · have HR : Hid (afits room false (aseen sure way) 0 name other pos bytes = 1) := Lib.hid (by unfold afits; rw [if_neg (by simp), if_pos (by rcases hbad with h | h; exact .inr (.inl ⟨rfl, h⟩); exact .inr (.inr ⟨by omega, h⟩))])
      rw [badName_iff] at hbad
      by_cases h0 : name.size = 0
      · have e0 : name.toList.isEmpty = true := by rw [isEmpty_size]; simpa using h0
        clear hbad h0
        by_cases hp0 : pos < 0
        all_goals
          go_enter Try.func31, Try.ntmps31
          go_wp2_with fail
          go_ret
          exact ⟨by rw [HR.out]; rfl, HB.out _ _⟩
      · have e0 : name.toList.isEmpty = false := by rw [isEmpty_size]; simpa using h0
        by_cases hp0 : pos < 0 <;> by_cases h32 : 32 < name.size
        all_goals
          first
          | (exfalso; omega)
          | (clear hbad h0
             go_enter Try.func31, Try.ntmps31
             go_wp2_with fail
             go_ret
             exact ⟨by rw [HR.out]; rfl, HB.out _ _⟩)
    · have hp0 : ¬ pos < 0 := fun h => hbad (.inl h)
      have hbn : ¬ badName name = true := fun h => hbad (.inr h)
      have h0 : ¬ name.size = 0 := fun h => hbn ((badName_iff _).2 (.inl h))
      have h32 : ¬ 32 < name.size := fun h => hbn ((badName_iff _).2 (.inr h))
      have e0 : name.toList.isEmpty = false := by rw [isEmpty_size]; simpa using h0
      have HX : Hid (∀ z, (if ((aold (aseen sure way) name).length : Int) < pos then 17 else if room < (asize (ado (aseen sure way) ⟨0, name, other, pos.toNat, bytes⟩) : Int) then 22 else 0) = z → afits room false (aseen sure way) 0 name other pos bytes = z) :=
        Lib.hid (fun z hz => by unfold afits; rw [if_neg (by simp), if_neg (by rintro (⟨h, _⟩ | ⟨_, h⟩ | ⟨_, h⟩); cases h; exact hp0 h; exact hbn h), if_neg (by omega)]; exact hz)
      clear hbad hbn
      go_enter Try.func31, Try.ntmps31
      go_wp2_with fail
      refine (Seen_any sv ov room left false sure way _ ((HS.out.alloc _).alloc _) ((HO.out.alloc _).alloc _) (Nat.le_trans HBD.out (by omega)) HOK.out HOO.out).mono ?_
      rintro e w1 ⟨v1, rfl, hf1, _, hb1⟩
      have HF := Lib.hid hf1; have HB1 := Lib.hid hb1; clear hf1 hb1
      have hs1 := HB1.out.size
      simp only [World.size_alloc] at hs1
      obtain ⟨ca, cb⟩ := cells_two (by simpa using HB1.out)
      have q0 := ca 0
      have p0 := cb 0; have p1 := cb 1; have p2 := cb 2; have p3 := cb 3; have p4 := cb 4
      simp only [List.getElem?_toArray, List.getElem?_cons_zero, List.getElem?_cons_succ] at q0 p0 p1 p2 p3 p4
      clear ca cb
      go_wp2_with fail
      refine (Find_any _ _ _ _ HF.out).mono ?_
      rintro e w2 ⟨rfl, rfl⟩
      have hm : (aseen sure way).length ≤ 1000000 := Nat.le_trans (length_aseen way sure) HBD.out
      have hm2 : (aseen sure way).length ≤ 9223372036854775807 := by omega
      have HM := Lib.hid hm; clear hm
      have hcase : (∃ hgo : (((aold (aseen sure way) name).length : Nat) : Int) < pos, True) ∨ ¬ (((aold (aseen sure way) name).length : Nat) : Int) < pos := by
        by_cases h : (((aold (aseen sure way) name).length : Nat) : Int) < pos
        · exact .inl ⟨h, trivial⟩
        · exact .inr h
      have hpx : ¬ (((aold (aseen sure way) name).length : Nat) : Int) < pos → pos + bytes.length ≤ 1000000000000 := fun h => HP.out (by omega)
      rcases aidx_find (aseen sure way) name with ⟨k, hlt, hi, hf⟩ | ⟨hi, hf⟩
      case' inl =>
        rw [hi]
        obtain ⟨b, off, cap, rfl, hbl, hcap, _⟩ := HF.out.some hlt
        obtain ⟨fk, hfk⟩ : ∃ fk, (aseen sure way)[k]? = some fk := ⟨_, List.getElem?_eq_getElem hlt⟩
        rcases HF.out.2 with ⟨a, c, hv, _, _, ⟨h0, _⟩ | ⟨b', off', ha, _, hat⟩⟩
        · cases hv; cases h0
        cases hv; cases ha
        have hf1 := (fs_cell hat hfk).2
        have hold : aold (aseen sure way) name = fk.2 := by
          have := List.getElem?_eq_getElem hlt; rw [hfk] at this; cases this; simp [aold, hf]
        rw [hold] at hcase HX hpx
        have HPX := Lib.hid hpx
        clear hi hf hat hfk hold hpx
      case' inr =>
        rw [hi]
        have hold : aold (aseen sure way) name = [] := by simp [aold, hf]
        rw [hold] at hcase HX hpx
        simp only [List.length_nil, Int.natCast_zero] at hcase HX hpx
        have HPX := Lib.hid hpx
        clear hi hf hold hpx
      all_goals
        rcases hcase with ⟨hgt, _⟩ | hgt
        · go_wp2_with fail
          refine wp_region_quiet_lit (by kernel_rfl) (by kernel_rfl) ?_
          repeat (first | go_big_quiet_step (fail) | quiet_step (fail))
          refine wpQuiet_nil ?_
          intro _ hw'
          obtain ⟨nq, hw''⟩ := hw'
          subst hw''
          go_wp2_with fail
          go_ret
          refine ⟨?_, ?_⟩
          · rw [HX.out 17 (by rw [if_pos hgt])]; rfl
          · exact (HB.out _ _).trans (below_drewN (HB1.out.mono (by simp; omega)) _)
        · have HX2 : Hid (∀ z, (if room < (asize (ado (aseen sure way) ⟨0, name, other, pos.toNat, bytes⟩) : Int) then 22 else 0) = z → afits room false (aseen sure way) 0 name other pos bytes = z) :=
            Lib.hid (fun z hz => HX.out z (by rw [if_neg hgt]; exact hz))
          clear HX
          go_wp2_with fail
          refine wp_region_quiet_lit (by kernel_rfl) (by kernel_rfl) ?_
          repeat (first | go_big_quiet_step (fail) | quiet_step (fail))
          refine wpQuiet_nil ?_
          intro _ hw'
          obtain ⟨nq, hw''⟩ := hw'
          subst hw''
          go_wp2_with fail
          have hokS := OkF.seen HOK.out HOO.out
          have hposN : ((pos.toNat : Nat) : Int) = pos := by omega
          have hcall := Do_wr _ (aseen sure way) name other pos.toNat bytes (w1.drewN nq) (HF.out.below (below_drewN (Below.refl _ _) nq)) (Nat.le_trans HM.out (by omega)) (by have := HPX.out hgt; omega) hokS
          have HOKD : Hid (OkF 1000000000000 (ado (aseen sure way) ⟨0, name, other, pos.toNat, bytes⟩)) := Lib.hid (hokS.do ⟨by simp, by have := HPX.out hgt; simp only; omega⟩)
          rw [hposN] at hcall
          clear hokS hposN
          refine hcall.mono ?_
          rintro e w3 ⟨v3, rfl, hf3, _, hb3⟩
          have hlen : (ado (aseen sure way) ⟨0, name, other, pos.toNat, bytes⟩).length ≤ 1000001 := Nat.le_trans (length_ado _ _) (Nat.succ_le_succ HM.out)
          have HB3 : Hid (Below w1.heap.size w1 w3) := Lib.hid ((below_drewN (Below.refl w1.heap.size w1) nq).trans hb3)
          have r0 := cell_below HB3.out (show w.heap.size < w1.heap.size by omega) q0
          clear hcall hb3 q0 p0 p1 p2 p3 p4 hgt
          generalize ado (aseen sure way) ⟨0, name, other, pos.toNat, bytes⟩ = l3 at hf3 hlen HX2 HOKD
          obtain ⟨_, a3, cap3, rfl, hcap3, _, ha3⟩ := id hf3
          have HA3 := Lib.hid ha3; clear ha3
          have HF3 := Lib.hid hf3; clear hf3
          go_wp2_with fail
          go_loop [8, 9] (fun n i => ∃ k : Nat, k ≤ l3.length ∧ i = .int .i64 k ∧ n = .int .i64 (asize (l3.take k))) (fun _ i => l3.length - (intOf i).toNat)
          case atStart => exact ⟨0, Nat.zero_le _, rfl, rfl⟩
          case round =>
            obtain ⟨k, hk, rfl, rfl⟩ := hrel
            have hsum : asize (l3.take k) ≤ 1000001000000000000 := by
              have h1 := asize_le (l := l3.take k) (M := 1000000000000) (fun f hf => HOKD.out f (List.mem_of_mem_take hf))
              have h2 : (l3.take k).length ≤ 1000001 := by simp; omega
              omega
            by_cases hlt : k < l3.length
            · obtain ⟨fk, hfk⟩ : ∃ fk, l3[k]? = some fk := ⟨_, List.getElem?_eq_getElem hlt⟩
              rcases HA3.out with ⟨h0, _⟩ | ⟨b3, off3, rfl, _, hat⟩
              · omega
              have hf1 := (fs_cell hat hfk).2
              have hb1 : fk.2.length ≤ 1000000000000 := HOKD.out fk (List.mem_of_getElem? hfk)
              have HFK := Lib.hid hfk
              clear hat hfk
              go_wp2_with fail
              go_round
              case rel => exact ⟨k + 1, by omega, by go_num, by rw [asize_take_succ HFK.out]; go_num⟩
              case measure => simp [intOf]; omega
            · have hk2 : l3.take k = l3 := List.take_of_length_le (by omega)
              rw [hk2] at hsum ⊢
              by_cases hroom : room < (asize l3 : Int)
              · go_wp2_with fail
                go_ret
                refine ⟨?_, ?_⟩
                · rw [HX2.out 22 (by rw [if_pos (by omega)])]; rfl
                · exact (HB.out _ _).trans ((HB1.out.mono (by simp; omega)).trans (HB3.out.mono (by omega)))
              · go_wp2_with fail
                go_ret
                refine ⟨?_, ?_⟩
                · rw [HX2.out 0 (by rw [if_neg (by omega)])]; rfl
                · exact (HB.out _ _).trans ((HB1.out.mono (by simp; omega)).trans (HB3.out.mono (by omega)))

end Go.Proofs.Ytjejifbpidgnmaa
