/-
  The walks of the program's disk: Write.
-/
import Derived.Test.YtjejifbpidgnmaaDP6a
import Derived.Deep.DeepCutAuto
import Derived.Test.YtjejifbpidgnmaaSr
namespace Go.Proofs.Ytjejifbpidgnmaa
open Go.RowKit Go.Maps

set_option maxRecDepth 100000 in
set_option maxHeartbeats 4000000 in
theorem Write_tail (d ms mv : Nat) (uv : Value) (room left : Int) (sure : List AFile) (way : List AOp) (K : Nat) (name : ByteArray) (pos : Int) (bva : Option Addr) (bvc : Nat) (bytes : List UInt8) (w : World) (H : Hid (PD w d ms mv uv room left false sure way K))
    (HV : Hid (Sr w (.slice bva bytes.length bvc) bytes.length 1 (bcells bytes))) (HK : Hid (K ≤ 1000000)) (hl : -1 ≤ left) (hl2 : left ≤ 9223372036854775807) (HNM : Hid (name.size ≤ maxLen)) (HP : Hid (pos ≤ ((aold (aseen sure way) name).length : Int) → pos + bytes.length ≤ 1000000000000)) (HBS : Hid (bytes.length ≤ 1000000000000)) (hroom : room ≤ 9223372036854775807)
    (HAP : Hid ((aseen sure way).Pairwise (fun a b => a.1 ≠ b.1))) (HMAY : Hid (decide (1 ≤ name.size ∧ name.size ≤ 32) = true)) (hp0 : ¬ pos < 0) (hgt : ¬ ((aold (aseen sure way) name).length : Int) < pos)
    (HX2 : Hid (∀ z, (if room < (asize (ado (aseen sure way) ⟨0, name, ⟨#[]⟩, pos.toNat, bytes⟩) : Int) then 22 else 0) = z → afits room false (aseen sure way) 0 name ⟨#[]⟩ pos bytes = z)) :
    Calls Try.prog 9 #[.pointer (some ⟨d, 0, none⟩), .string name, .int .i64 pos, .slice bva bytes.length bvc] w
      (AskPost d ms mv uv room left false sure way K (afits room false (aseen sure way) 0 name ⟨#[]⟩ pos bytes) ⟨0, name, ⟨#[]⟩, pos.toNat, bytes⟩ w) := by
  have hdlt := (H.out.foot (.inl rfl)).2
  have hb9 : bytes.length ≤ 9223372036854775807 := by have := HBS.out; omega
  obtain ⟨a1, z1⟩ := block_cells H.out.hd
  have p0 := a1 0; have p2 := a1 2
  simp only [List.getElem?_toArray, List.getElem?_cons_zero, List.getElem?_cons_succ] at p0 p2
  clear a1 z1
  have hposN : ((pos.toNat : Nat) : Int) = pos := by omega
  have haw := asize_write HAP.out name ⟨#[]⟩ pos.toNat bytes
  have hpl := HP.out (by omega)
  have hold : (aold (aseen sure way) name).length ≤ 1000000000000 := (H.out.ok.seen (fun o ho => (H.out.oo o ho).1)).aold name
  have hszb : asize (aseen sure way) ≤ 1000000000000000000 := by
    have h1 := asize_le (H.out.ok.seen (fun o ho => (H.out.oo o ho).1)); have h2 := length_aseen way sure; have h3 := H.out.hK; have h4 := HK.out; omega
  have hcall := size_any mv _ (aseen sure way) w.drew (H.out.hv.below ((Below.refl _ _).drew)) hszb
  have HSTEP : Hid (∀ (e : Ending) (w' : World), (e = .returned (.int .i64 (asize (aseen sure way))) ∧ Below w.drew.heap.size w.drew w') → e = .returned (.int .i64 (asize (aseen sure way))) ∧ Hid (Below w.heap.size w w') ∧ w'.cell? ⟨d, 0, none⟩ = some (.int .i64 room)) :=
    Lib.hid (fun e w' hh => by
      have hb : Below w.heap.size w w' := ((Below.refl _ w).drew).trans hh.2
      exact ⟨hh.1, hb, cell_below hb hdlt p0⟩)
  have HCALL := Lib.hid (hcall.mono HSTEP.out)
  have HSZ := Lib.hid hszb; have HOLD := Lib.hid hold; have HPL := Lib.hid hpl; have HAW := Lib.hid haw; have HPN := Lib.hid hposN
  have hb8 : pos + bytes.length ≤ 1000000000000 := hpl
  have hs8 : (asize (aseen sure way) : Int) ≤ 1000000000000000000 := by omega
  have ho8 : ((aold (aseen sure way) name).length : Int) ≤ 1000000000000 := by omega
  have HSUM : Hid ((asize (ado (aseen sure way) ⟨0, name, ⟨#[]⟩, pos.toNat, bytes⟩) : Int) = (asize (aseen sure way) : Int) + (if pos + bytes.length - ((aold (aseen sure way) name).length : Int) < 0 then 0 else pos + bytes.length - ((aold (aseen sure way) name).length : Int))) := Lib.hid (by split <;> omega)
  clear hcall hszb hold hpl haw hposN HSTEP
  obtain ⟨S1, hS1⟩ : ∃ s, s = asize (ado (aseen sure way) ⟨0, name, ⟨#[]⟩, pos.toNat, bytes⟩) := ⟨_, rfl⟩
  rw [← hS1] at HSUM HX2
  have HS1 := Lib.hid hS1; clear hS1
  obtain ⟨S0, hS0⟩ : ∃ s, s = asize (aseen sure way) := ⟨_, rfl⟩
  obtain ⟨L0, hL0⟩ : ∃ s, s = (aold (aseen sure way) name).length := ⟨_, rfl⟩
  rw [← hS0] at HSUM HCALL hs8
  rw [← hL0] at HSUM ho8 hgt
  have HS0 := Lib.hid hS0; have HL0 := Lib.hid hL0; clear hS0
  go_enter Try.func9, Try.ntmps9
  go_wp2_with fail
  refine (up_any _ _ _ _ _ _ _ _ H.out.hd).mono ?_
  rintro e w1 ⟨rfl, rfl⟩
  go_wp2_with (at_lookup; refine halt1 ?_)
  refine on1 (wp_lookup_one rfl _ _ rfl rfl H.out.hv rfl HNM.out (fun va vc hb hc => ?_))
  rw [← hL0] at hb hc ⊢
  clear hb hL0
  go_wp2_with fail
  refine (may_any _ _).mono ?_
  rintro e w1 ⟨rfl, rfl⟩
  rw [HMAY.out]
  go_wp2_with fail
  go_cut [35] (fun s35 wx => s35 = .bool (decide (room < (S1 : Int))) ∧ Hid (Below w.heap.size w wx))
  case first =>
    by_cases hmx : pos + bytes.length - (L0 : Int) < 0
    · have hif : (if pos + bytes.length - (L0 : Int) < 0 then 0 else pos + bytes.length - (L0 : Int)) = 0 := if_pos hmx
      have hsum := HSUM.out
      rw [hif] at hsum
      have hw1 : IntKind.i64.wrap (pos + bytes.length) = pos + bytes.length := IntWalk.i64_in _ (by omega)
      have hw2 : IntKind.i64.wrap (pos + bytes.length - (L0 : Int)) = pos + bytes.length - (L0 : Int) := IntWalk.i64_in _ (by omega)
      have hw3 : IntKind.i64.wrap (S0 : Int) = (S0 : Int) := IntWalk.i64_in _ (by omega)
      have HSM := Lib.hid hsum; clear hsum
      have W3 := Lib.hid hw3
      go_region_with (go_at_call 25; refine HCALL.out.mono ?_; rintro e w1 ⟨rfl, Y1, y2⟩)
      all_goals
        clear hw1 hw2 hw3 hif
        go_wp2_with fail
        go_meet
        case rel => exact ⟨congrArg Value.bool (by have hsm := HSM.out; have h3 := W3.out; rw [Bool.eq_iff_iff, decide_eq_true_iff, decide_eq_true_iff]; omega), Y1⟩
    · have hif : (if pos + bytes.length - (L0 : Int) < 0 then 0 else pos + bytes.length - (L0 : Int)) = pos + bytes.length - (L0 : Int) := if_neg hmx
      have hsum := HSUM.out
      rw [hif] at hsum
      have hw1 : IntKind.i64.wrap (pos + bytes.length) = pos + bytes.length := IntWalk.i64_in _ (by omega)
      have hw2 : IntKind.i64.wrap (pos + bytes.length - (L0 : Int)) = pos + bytes.length - (L0 : Int) := IntWalk.i64_in _ (by omega)
      have hw3 : IntKind.i64.wrap ((S0 : Int) + (pos + bytes.length - (L0 : Int))) = (S0 : Int) + (pos + bytes.length - (L0 : Int)) := IntWalk.i64_in _ (by omega)
      have HSM := Lib.hid hsum; clear hsum
      have W3 := Lib.hid hw3
      go_region_with (go_at_call 25; refine HCALL.out.mono ?_; rintro e w1 ⟨rfl, Y1, y2⟩)
      all_goals
        clear hw1 hw2 hw3 hif
        go_wp2_with fail
        go_meet
        case rel => exact ⟨congrArg Value.bool (by have hsm := HSM.out; have h3 := W3.out; rw [Bool.eq_iff_iff, decide_eq_true_iff, decide_eq_true_iff]; omega), Y1⟩
  case rest =>
    obtain ⟨rfl, Y1⟩ := hcut
    by_cases hr : room < (S1 : Int)
    · have HE := Lib.hid (HX2.out 22 (by rw [if_pos hr])); clear HX2
      go_wp2_with fail
      go_ret
      rw [HE.out]
      exact AskPost.no (E := 22) (by decide) (H.out.below Y1.out) (keeps_of_below Y1.out (Nat.le_refl _) _)
    · have HE := Lib.hid (HX2.out 0 (by rw [if_neg hr])); clear HX2
      go_wp2_with fail
      refine (Clone_sr _ bytes _ (HV.out.below Y1.out) HBS.out).mono ?_
      rintro e w2 ⟨v2, rfl, h1, h2, h3⟩
      obtain ⟨a2, c2, rfl, _, _⟩ := h1.shape
      have hpd := (H.out.below Y1.out).below h3
      have HC := Lib.hid (done_any d ms mv uv room left sure way K ⟨0, name, ⟨#[]⟩, pos.toNat, bytes⟩ _ _ hpd h1 ⟨HNM.out, Nat.zero_le _⟩ ⟨by simp, by have := HPL.out; have := HPN.out; simp only; omega⟩ HK.out hl hl2)
      have HK2 : Hid (Keeps (Foot d ms mv uv) w w2) := Lib.hid ((keeps_of_below Y1.out (Nat.le_refl _) _).trans (keeps_of_below h3 (Nat.le_refl _) _))
      clear h1 h2 h3 hpd
      go_wp2_with fail
      have hc := HC.out
      simp only [HPN.out] at hc
      refine hc.mono ?_
      intro e w3 h4
      have h5 := AskPost.yes h4 HK2.out
      have h6 := h5
      obtain ⟨uv', rfl, _⟩ := h5
      go_wp2_with fail
      go_ret
      rw [HE.out]
      exact h6

set_option maxRecDepth 100000 in
set_option maxHeartbeats 800000 in
theorem Write_any (d ms mv : Nat) (uv : Value) (room left : Int) (down : Bool) (sure : List AFile) (way : List AOp) (K : Nat) (name : ByteArray) (pos : Int) (bv : Value) (bytes : List UInt8) (w : World) (h : PD w d ms mv uv room left down sure way K)
    (hv : Sr w bv bytes.length 1 (bcells bytes)) (hK : K ≤ 1000000) (hl : -1 ≤ left) (hl2 : left ≤ 9223372036854775807) (hnm : name.size ≤ maxLen) (hp : pos ≤ ((aold (aseen sure way) name).length : Int) → pos + bytes.length ≤ 1000000000000) (hbs : bytes.length ≤ 1000000000000) (hroom : room ≤ 9223372036854775807) :
    Calls Try.prog 9 #[.pointer (some ⟨d, 0, none⟩), .string name, .int .i64 pos, bv] w
      (AskPost d ms mv uv room left down sure way K (afits room down (aseen sure way) 0 name ⟨#[]⟩ pos bytes) ⟨0, name, ⟨#[]⟩, pos.toNat, bytes⟩ w) := by
  have hap := h.hv.apart
  have hdlt := (h.foot (.inl rfl)).2
  obtain ⟨bva, bvc, rfl, _, _⟩ := hv.shape
  have H := Lib.hid h; have HV := Lib.hid hv; have HK := Lib.hid hK; have HNM := Lib.hid hnm; have HP := Lib.hid hp; have HBS := Lib.hid hbs; have HAP := Lib.hid hap
  clear h hv hK hnm hp hap hbs
  have hb9 : bytes.length ≤ 9223372036854775807 := by have := HBS.out; omega
  cases down
  case true =>
    go_enter Try.func9, Try.ntmps9
    go_wp2_with fail
    refine (up_any _ _ _ _ _ _ _ _ H.out.hd).mono ?_
    rintro e w1 ⟨rfl, rfl⟩
    go_wp2_with fail
    go_ret
    exact AskPost.no (E := 20) (by decide) H.out (Keeps.refl _ _)
  case false =>
    obtain ⟨a1, z1⟩ := block_cells H.out.hd
    have p0 := a1 0; have p2 := a1 2
    simp only [List.getElem?_toArray, List.getElem?_cons_zero, List.getElem?_cons_succ] at p0 p2
    clear a1 z1
    by_cases hbad : badName name = true
    · have HE : Hid (afits room false (aseen sure way) 0 name ⟨#[]⟩ pos bytes = 1) := Lib.hid (by unfold afits; rw [if_neg (by simp), if_pos (.inr (.inr ⟨by omega, hbad⟩))])
      have HMAY : Hid (decide (1 ≤ name.size ∧ name.size ≤ 32) = false) := Lib.hid (decide_eq_false (by have := (badName_iff _).1 hbad; omega))
      clear hbad
      go_enter Try.func9, Try.ntmps9
      go_wp2_with fail
      refine (up_any _ _ _ _ _ _ _ _ H.out.hd).mono ?_
      rintro e w1 ⟨rfl, rfl⟩
      go_wp2_with (at_lookup; refine halt1 ?_)
      refine on1 (wp_lookup_one rfl _ _ rfl rfl H.out.hv rfl HNM.out (fun va vc hb hc => ?_))
      clear hb
      go_wp2_with fail
      refine (may_any _ _).mono ?_
      rintro e w1 ⟨rfl, rfl⟩
      rw [HMAY.out]
      go_wp2_with fail
      go_ret
      rw [HE.out]
      exact AskPost.no (E := 1) (by decide) H.out (Keeps.refl _ _)
    · have HMAY : Hid (decide (1 ≤ name.size ∧ name.size ≤ 32) = true) := Lib.hid (decide_eq_true (by have hb' : ¬ (name.size = 0 ∨ 32 < name.size) := fun h => hbad ((badName_iff _).2 h); omega))
      by_cases hp0 : pos < 0
      · have HE : Hid (afits room false (aseen sure way) 0 name ⟨#[]⟩ pos bytes = 1) := Lib.hid (by unfold afits; rw [if_neg (by simp), if_pos (.inr (.inl ⟨rfl, hp0⟩))])
        clear hbad
        go_enter Try.func9, Try.ntmps9
        go_wp2_with fail
        refine (up_any _ _ _ _ _ _ _ _ H.out.hd).mono ?_
        rintro e w1 ⟨rfl, rfl⟩
        go_wp2_with (at_lookup; refine halt1 ?_)
        refine on1 (wp_lookup_one rfl _ _ rfl rfl H.out.hv rfl HNM.out (fun va vc hb hc => ?_))
        clear hb
        go_wp2_with fail
        refine (may_any _ _).mono ?_
        rintro e w1 ⟨rfl, rfl⟩
        rw [HMAY.out]
        go_wp2_with fail
        go_ret
        rw [HE.out]
        exact AskPost.no (E := 1) (by decide) H.out (Keeps.refl _ _)
      · have HX : Hid (∀ z, (if ((aold (aseen sure way) name).length : Int) < pos then 17 else if room < (asize (ado (aseen sure way) ⟨0, name, ⟨#[]⟩, pos.toNat, bytes⟩) : Int) then 22 else 0) = z → afits room false (aseen sure way) 0 name ⟨#[]⟩ pos bytes = z) :=
          Lib.hid (fun z hz => by unfold afits; rw [if_neg (by simp), if_neg (by rintro (⟨h, _⟩ | ⟨_, h⟩ | ⟨_, h⟩); cases h; exact hp0 h; exact hbad h), if_neg (by omega)]; exact hz)
        clear hbad
        by_cases hgt : ((aold (aseen sure way) name).length : Int) < pos
        · have HE := Lib.hid (HX.out 17 (by rw [if_pos hgt])); clear HX
          go_enter Try.func9, Try.ntmps9
          go_wp2_with fail
          refine (up_any _ _ _ _ _ _ _ _ H.out.hd).mono ?_
          rintro e w1 ⟨rfl, rfl⟩
          go_wp2_with (at_lookup; refine halt1 ?_)
          refine on1 (wp_lookup_one rfl _ _ rfl rfl H.out.hv rfl HNM.out (fun va vc hb hc => ?_))
          clear hb
          go_wp2_with fail
          refine (may_any _ _).mono ?_
          rintro e w1 ⟨rfl, rfl⟩
          rw [HMAY.out]
          go_wp2_with fail
          go_ret
          rw [HE.out]
          exact AskPost.no (E := 17) (by decide) H.out (Keeps.refl _ _)
        · have HX2 : Hid (∀ z, (if room < (asize (ado (aseen sure way) ⟨0, name, ⟨#[]⟩, pos.toNat, bytes⟩) : Int) then 22 else 0) = z → afits room false (aseen sure way) 0 name ⟨#[]⟩ pos bytes = z) := Lib.hid (fun z hz => HX.out z (by rw [if_neg hgt]; exact hz))
          exact Write_tail d ms mv uv room left sure way K name pos bva bvc bytes w H HV HK hl hl2 HNM HP HBS hroom HAP HMAY hp0 hgt HX2

end Go.Proofs.Ytjejifbpidgnmaa
