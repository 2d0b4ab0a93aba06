/-
  The walks of the program's disk: Read, Rename, Remove, Stop, Pending.
-/
import Derived.Test.YtjejifbpidgnmaaDP6a
import Derived.Test.YtjejifbpidgnmaaDRef6
namespace Go.Proofs.Ytjejifbpidgnmaa
open Go.RowKit Go.Maps

theorem Bs.nil (w : World) : Bs w (.slice none 0 0) [] := ⟨Sl.nil w 1, fun b hb => by simp [Value.ownBlock] at hb⟩

theorem aread_old {l : List AFile} {n : ByteArray} : (afind l n = none ∧ (afind l n).isSome = false ∧ aread false l n = ([], 21)) ∨ ((afind l n).isSome = true ∧ aread false l n = (aold l n, 0)) := by
  unfold aread aold
  cases h : afind l n with
  | none => exact .inl ⟨rfl, rfl, rfl⟩
  | some f => exact .inr ⟨rfl, rfl⟩

def ReadPost (w : World) (r : List UInt8 × Int) (e : Ending) (w' : World) : Prop := ∃ v', e = .returned (.tuple #[v', .int .i64 r.2]) ∧ Bs w' v' r.1 ∧ Below w.heap.size w w'

set_option maxRecDepth 100000 in
set_option maxHeartbeats 400000 in
theorem Read_prog (d ms mv : Nat) (uv : Value) (room left : Int) (down : Bool) (sure : List AFile) (way : List AOp) (K : Nat) (name : ByteArray) (w : World) (h : PD w d ms mv uv room left down sure way K) (hnm : name.size ≤ maxLen) :
    Calls Try.prog 10 #[.pointer (some ⟨d, 0, none⟩), .string name] w (ReadPost w (aread down (aseen sure way) name)) := by
  have hol : (aold (aseen sure way) name).length ≤ 1000000000000 := (h.ok.seen (fun o ho => (h.oo o ho).1)).aold name
  have H := Lib.hid h; have HNM := Lib.hid hnm; have HOL := Lib.hid hol; clear h hnm hol
  cases down
  case true =>
    go_enter Try.func10, Try.ntmps10
    go_wp2_with fail
    refine (up_any _ _ _ _ _ _ _ _ H.out.hd).mono ?_
    rintro e w1 ⟨rfl, rfl⟩
    go_wp2_with fail
    go_ret2
    exact ⟨.slice none 0 0, rfl, Bs.nil _, Below.refl _ _⟩
  case false =>
    obtain ⟨a1, z1⟩ := block_cells H.out.hd
    have p2 := a1 2
    simp only [List.getElem?_toArray, List.getElem?_cons_zero, List.getElem?_cons_succ] at p2
    clear a1 z1
    rcases aread_old (l := aseen sure way) (n := name) with ⟨_, hs, hr⟩ | ⟨hs, hr⟩
    · have HS := Lib.hid hs; have HR := Lib.hid hr; clear hs hr
      go_enter Try.func10, Try.ntmps10
      go_wp2_with fail
      refine (up_any _ _ _ _ _ _ _ _ H.out.hd).mono ?_
      rintro e w1 ⟨rfl, rfl⟩
      go_wp2_with (at_lookup; refine halt1 ?_)
      refine on1 (wp_lookup_ok rfl _ _ rfl rfl H.out.hv rfl HNM.out (fun va vc hb hc => ?_))
      rw [HS.out]
      clear hb
      go_wp2_with fail
      go_ret2
      rw [HR.out]
      exact ⟨.slice none 0 0, rfl, Bs.nil _, Below.refl _ _⟩
    · have HS := Lib.hid hs; have HR := Lib.hid hr; clear hs hr
      go_enter Try.func10, Try.ntmps10
      go_wp2_with fail
      refine (up_any _ _ _ _ _ _ _ _ H.out.hd).mono ?_
      rintro e w1 ⟨rfl, rfl⟩
      go_wp2_with (at_lookup; refine halt1 ?_)
      refine on1 (wp_lookup_ok rfl _ _ rfl rfl H.out.hv rfl HNM.out (fun va vc hb hc => ?_))
      rw [HS.out]
      have HB := Lib.hid hb; clear hb
      go_wp2_with fail
      refine (Clone_any _ _ _ HB.out.1 HOL.out).mono ?_
      rintro e w2 ⟨v2, rfl, h1, _, h3⟩
      have H1 := Lib.hid h1; have H3 := Lib.hid h3; clear h1 h3
      go_wp2_with fail
      go_ret2
      rw [HR.out]
      exact ⟨v2, rfl, H1.out, H3.out⟩

theorem may_of (s : ByteArray) : (badName s = true ∧ decide (1 ≤ s.size ∧ s.size ≤ 32) = false) ∨ (¬ badName s = true ∧ decide (1 ≤ s.size ∧ s.size ≤ 32) = true) := by
  rw [badName_iff]
  by_cases h : s.size = 0 ∨ 32 < s.size
  · exact .inl ⟨h, decide_eq_false (by omega)⟩
  · exact .inr ⟨h, decide_eq_true (by omega)⟩

set_option maxRecDepth 100000 in
set_option maxHeartbeats 800000 in
theorem Rename_any (d ms mv : Nat) (uv : Value) (room left : Int) (down : Bool) (sure : List AFile) (way : List AOp) (K : Nat) (name other : ByteArray) (w : World) (h : PD w d ms mv uv room left down sure way K) (hK : K ≤ 1000000) (hl : -1 ≤ left) (hl2 : left ≤ 9223372036854775807)
    (hnm : name.size ≤ maxLen) (hno : other.size ≤ maxLen) :
    Calls Try.prog 15 #[.pointer (some ⟨d, 0, none⟩), .string name, .string other] w
      (AskPost d ms mv uv room left down sure way K (afits room down (aseen sure way) 1 name other 0 []) ⟨1, name, other, 0, []⟩ w) := by
  have H := Lib.hid h; have HK := Lib.hid hK; have HNM := Lib.hid hnm; have HNO := Lib.hid hno; clear h hK hnm hno
  cases down
  case true =>
    go_enter Try.func15, Try.ntmps15
    go_wp2_with fail
    refine (up_any _ _ _ _ _ _ _ _ H.out.hd).mono ?_
    rintro e w1 ⟨rfl, rfl⟩
    go_wp2_with fail
    go_ret
    exact AskPost.no (E := 20) (by decide) H.out (Keeps.refl _ _)
  case false =>
    obtain ⟨a1, z1⟩ := block_cells H.out.hd
    have p2 := a1 2
    simp only [List.getElem?_toArray, List.getElem?_cons_zero, List.getElem?_cons_succ] at p2
    clear a1 z1
    rcases may_of name with ⟨hb, hm⟩ | ⟨hb, hm⟩
    · have HE : Hid (afits room false (aseen sure way) 1 name other 0 [] = 1) := Lib.hid (by unfold afits; rw [if_neg (by simp), if_pos (.inr (.inr ⟨by omega, hb⟩))])
      have HM := Lib.hid hm; clear hb hm
      go_enter Try.func15, Try.ntmps15
      go_wp2_with fail
      refine (up_any _ _ _ _ _ _ _ _ H.out.hd).mono ?_
      rintro e w1 ⟨rfl, rfl⟩
      go_wp2_with fail
      refine (may_any _ _).mono ?_
      rintro e w1 ⟨rfl, rfl⟩
      rw [HM.out]
      go_wp2_with fail
      go_ret
      rw [HE.out]
      exact AskPost.no (E := 1) (by decide) H.out (Keeps.refl _ _)
    · have HM := Lib.hid hm; clear hm
      rcases may_of other with ⟨hb2, hm2⟩ | ⟨hb2, hm2⟩
      · have HE : Hid (afits room false (aseen sure way) 1 name other 0 [] = 1) := Lib.hid (by unfold afits; rw [if_neg (by simp), if_pos (.inl ⟨rfl, hb2⟩)])
        have HM2 := Lib.hid hm2; clear hb hb2 hm2
        go_enter Try.func15, Try.ntmps15
        go_wp2_with fail
        refine (up_any _ _ _ _ _ _ _ _ H.out.hd).mono ?_
        rintro e w1 ⟨rfl, rfl⟩
        go_wp2_with fail
        refine (may_any _ _).mono ?_
        rintro e w1 ⟨rfl, rfl⟩
        rw [HM.out]
        go_wp2_with fail
        refine (may_any _ _).mono ?_
        rintro e w1 ⟨rfl, rfl⟩
        rw [HM2.out]
        go_wp2_with fail
        go_ret
        rw [HE.out]
        exact AskPost.no (E := 1) (by decide) H.out (Keeps.refl _ _)
      · have HX : Hid (∀ z, (match afind (aseen sure way) name with | none => (21 : Int) | some _ => 0) = z → afits room false (aseen sure way) 1 name other 0 [] = z) :=
          Lib.hid (fun z hz => by unfold afits; rw [if_neg (by simp), if_neg (by rintro (⟨_, h⟩ | ⟨h, _⟩ | ⟨_, h⟩); exact hb2 h; cases h; exact hb h), if_pos (by omega)]; exact hz)
        have HM2 := Lib.hid hm2; clear hb hb2 hm2
        cases hf : afind (aseen sure way) name with
        | none =>
          have HE := Lib.hid (HX.out 21 (by rw [hf])); have HS : Hid ((afind (aseen sure way) name).isSome = false) := Lib.hid (by rw [hf]; rfl)
          clear HX hf
          go_enter Try.func15, Try.ntmps15
          go_wp2_with fail
          refine (up_any _ _ _ _ _ _ _ _ H.out.hd).mono ?_
          rintro e w1 ⟨rfl, rfl⟩
          go_wp2_with fail
          refine (may_any _ _).mono ?_
          rintro e w1 ⟨rfl, rfl⟩
          rw [HM.out]
          go_wp2_with fail
          refine (may_any _ _).mono ?_
          rintro e w1 ⟨rfl, rfl⟩
          rw [HM2.out]
          go_wp2_with (at_lookup; refine halt1 ?_)
          refine on1 (wp_lookup_ok rfl _ _ rfl rfl H.out.hv rfl HNM.out (fun va vc hb hc => ?_))
          rw [HS.out]
          clear hb
          go_wp2_with fail
          go_ret
          rw [HE.out]
          exact AskPost.no (E := 21) (by decide) H.out (Keeps.refl _ _)
        | some f =>
          have HE := Lib.hid (HX.out 0 (by rw [hf])); have HS : Hid ((afind (aseen sure way) name).isSome = true) := Lib.hid (by rw [hf]; rfl)
          clear HX hf
          have HC := Lib.hid (done_any d ms mv uv room left sure way K ⟨1, name, other, 0, []⟩ _ _ H.out (Bs.nil w) ⟨HNM.out, HNO.out⟩ ⟨by simp, by simp⟩ HK.out hl hl2)
          go_enter Try.func15, Try.ntmps15
          go_wp2_with fail
          refine (up_any _ _ _ _ _ _ _ _ H.out.hd).mono ?_
          rintro e w1 ⟨rfl, rfl⟩
          go_wp2_with fail
          refine (may_any _ _).mono ?_
          rintro e w1 ⟨rfl, rfl⟩
          rw [HM.out]
          go_wp2_with fail
          refine (may_any _ _).mono ?_
          rintro e w1 ⟨rfl, rfl⟩
          rw [HM2.out]
          go_wp2_with (at_lookup; refine halt1 ?_)
          refine on1 (wp_lookup_ok rfl _ _ rfl rfl H.out.hv rfl HNM.out (fun va vc hb hc => ?_))
          rw [HS.out]
          clear hb
          go_wp2_with fail
          refine HC.out.mono ?_
          intro e w3 h4
          have h5 := AskPost.yes h4 (Keeps.refl _ _)
          have h6 := h5
          obtain ⟨uv', rfl, _⟩ := h5
          go_wp2_with fail
          go_ret
          rw [HE.out]
          exact h6

set_option maxRecDepth 100000 in
set_option maxHeartbeats 600000 in
theorem Remove_any (d ms mv : Nat) (uv : Value) (room left : Int) (down : Bool) (sure : List AFile) (way : List AOp) (K : Nat) (name : ByteArray) (w : World) (h : PD w d ms mv uv room left down sure way K) (hK : K ≤ 1000000) (hl : -1 ≤ left) (hl2 : left ≤ 9223372036854775807)
    (hnm : name.size ≤ maxLen) :
    Calls Try.prog 16 #[.pointer (some ⟨d, 0, none⟩), .string name] w
      (AskPost d ms mv uv room left down sure way K (afits room down (aseen sure way) 2 name ⟨#[]⟩ 0 []) ⟨2, name, ⟨#[]⟩, 0, []⟩ w) := by
  have H := Lib.hid h; have HK := Lib.hid hK; have HNM := Lib.hid hnm; clear h hK hnm
  cases down
  case true =>
    go_enter Try.func16, Try.ntmps16
    go_wp2_with fail
    refine (up_any _ _ _ _ _ _ _ _ H.out.hd).mono ?_
    rintro e w1 ⟨rfl, rfl⟩
    go_wp2_with fail
    go_ret
    exact AskPost.no (E := 20) (by decide) H.out (Keeps.refl _ _)
  case false =>
    obtain ⟨a1, z1⟩ := block_cells H.out.hd
    have p2 := a1 2
    simp only [List.getElem?_toArray, List.getElem?_cons_zero, List.getElem?_cons_succ] at p2
    clear a1 z1
    have HX : Hid (∀ z, (match afind (aseen sure way) name with | none => (21 : Int) | some _ => 0) = z → afits room false (aseen sure way) 2 name ⟨#[]⟩ 0 [] = z) :=
      Lib.hid (fun z hz => by unfold afits; rw [if_neg (by simp), if_neg (by rintro (⟨h, _⟩ | ⟨h, _⟩ | ⟨h, _⟩) <;> omega), if_pos (by omega)]; exact hz)
    cases hf : afind (aseen sure way) name with
    | none =>
      have HE := Lib.hid (HX.out 21 (by rw [hf])); have HS : Hid ((afind (aseen sure way) name).isSome = false) := Lib.hid (by rw [hf]; rfl)
      clear HX hf
      go_enter Try.func16, Try.ntmps16
      go_wp2_with fail
      refine (up_any _ _ _ _ _ _ _ _ H.out.hd).mono ?_
      rintro e w1 ⟨rfl, rfl⟩
      go_wp2_with (at_lookup; refine halt1 ?_)
      refine on1 (wp_lookup_ok rfl _ _ rfl rfl H.out.hv rfl HNM.out (fun va vc hb hc => ?_))
      rw [HS.out]
      clear hb
      go_wp2_with fail
      go_ret
      rw [HE.out]
      exact AskPost.no (E := 21) (by decide) H.out (Keeps.refl _ _)
    | some f =>
      have HE := Lib.hid (HX.out 0 (by rw [hf])); have HS : Hid ((afind (aseen sure way) name).isSome = true) := Lib.hid (by rw [hf]; rfl)
      clear HX hf
      have HC := Lib.hid (done_any d ms mv uv room left sure way K ⟨2, name, ⟨#[]⟩, 0, []⟩ _ _ H.out (Bs.nil w) ⟨HNM.out, Nat.zero_le _⟩ ⟨by simp, by simp⟩ HK.out hl hl2)
      go_enter Try.func16, Try.ntmps16
      go_wp2_with fail
      refine (up_any _ _ _ _ _ _ _ _ H.out.hd).mono ?_
      rintro e w1 ⟨rfl, rfl⟩
      go_wp2_with (at_lookup; refine halt1 ?_)
      refine on1 (wp_lookup_ok rfl _ _ rfl rfl H.out.hv rfl HNM.out (fun va vc hb hc => ?_))
      rw [HS.out]
      clear hb
      go_wp2_with fail
      refine HC.out.mono ?_
      intro e w3 h4
      have h5 := AskPost.yes h4 (Keeps.refl _ _)
      have h6 := h5
      obtain ⟨uv', rfl, _⟩ := h5
      go_wp2_with fail
      go_ret
      rw [HE.out]
      exact h6

set_option maxRecDepth 100000 in
theorem Stop_any (d ms mv : Nat) (uv : Value) (room left : Int) (down : Bool) (sure : List AFile) (way : List AOp) (K : Nat) (after : Int) (w : World) (h : PD w d ms mv uv room left down sure way K) :
    Calls Try.prog 18 #[.pointer (some ⟨d, 0, none⟩), .int .i64 after] w fun e w' => e = .returned (.tuple #[]) ∧ PD w' d ms mv uv room (if after < 0 then -1 else after) down sure way K ∧ Keeps (Foot d ms mv uv) w w' := by
  obtain ⟨a1, z1⟩ := block_cells h.hd
  have p4 := a1 4
  simp only [List.getElem?_toArray, List.getElem?_cons_zero, List.getElem?_cons_succ] at p4
  have H := Lib.hid h
  clear a1 h
  have HT : Hid (∀ v : Int, PD (w.setCell ⟨d, 4, none⟩ (.int .i64 v)) d ms mv uv room v down sure way K) := Lib.hid fun v => H.out.turn (keeps_cell w d 4 _) (heap_setCell_at H.out.hd 4 _)
  have HKP : Hid (∀ v, Keeps (Foot d ms mv uv) w (w.setCell ⟨d, 4, none⟩ v)) := Lib.hid fun v => (keeps_cell w d 4 v).mono (fun i _ hi => .inl hi)
  by_cases h0 : after < 0
  · have hm : (if after < -1 then (-1 : Int) else after) = -1 := by split <;> omega
    have HM := Lib.hid hm
    have HI := Lib.hid (if_pos h0 : (if after < 0 then (-1 : Int) else after) = -1)
    by_cases h1 : after < -1
    · clear hm
      go_enter Try.func18, Try.ntmps18
      go_wp2
      go_end0
      refine ⟨rfl, ?_, HKP.out _⟩
      try rw [HI.out]
      exact HT.out _
    · obtain rfl : after = -1 := by omega
      clear hm
      go_enter Try.func18, Try.ntmps18
      go_wp2
      go_end0
      refine ⟨rfl, ?_, HKP.out _⟩
      try rw [HI.out]
      exact HT.out _
  · have HI := Lib.hid (if_neg h0 : (if after < 0 then (-1 : Int) else after) = after)
    have h1 : ¬ after < -1 := by omega
    go_enter Try.func18, Try.ntmps18
    go_wp2
    go_end0
    refine ⟨rfl, ?_, HKP.out _⟩
    try rw [HI.out]
    exact HT.out _

theorem Pending_any (d ms mv : Nat) (uv : Value) (room left : Int) (down : Bool) (sure : List AFile) (way : List AOp) (K : Nat) (w : World) (h : PD w d ms mv uv room left down sure way K) :
    Calls Try.prog 11 #[.pointer (some ⟨d, 0, none⟩)] w fun e w' => e = .returned (.int .i64 way.length) ∧ w = w' := by
  obtain ⟨ps, hps, hown, _⟩ := h.hu
  obtain ⟨ua, uc, rfl, _, _⟩ := hown.shape
  obtain ⟨a1, z1⟩ := block_cells h.hd
  have p3 := a1 3
  simp only [List.getElem?_toArray, List.getElem?_cons_zero, List.getElem?_cons_succ] at p3
  have hwl : way.length = ps.length := by rw [hps]; simp
  rw [hwl]
  clear a1 z1 h hps hown hwl
  go_enter Try.func11, Try.ntmps11
  go_wp2
  go_ret
  exact ⟨rfl, rfl⟩

end Go.Proofs.Ytjejifbpidgnmaa
