/-
  The law: step at a write, a rename, a removal.
-/
import Derived.Test.YtjejifbpidgnmaaDL2
import Derived.Test.YtjejifbpidgnmaaDP6
namespace Go.Proofs.Ytjejifbpidgnmaa
open Go.RowKit Go.Maps

/-- what is done, as it comes -/
abbrev acells (kind at_ : Int) (name other : ByteArray) (bv kv : Value) : Array Value := #[.int .i64 kind, .string name, .string other, .int .i64 at_, bv, kv]
abbrev rcells (room : Int) (sv ov : Value) (left : Int) (down : Bool) : Array Value := #[.int .i64 room, sv, ov, .int .i64 left, .bool down]

/-- the world behind step's own boxes -/
abbrev w3b (w : World) (room left kind at_ : Int) (sv ov bv kv : Value) (down : Bool) (name other : ByteArray) : World :=
  ((w.alloc (.cells (rcells room sv ov left down) 31)).alloc (.cells (acells kind at_ name other bv kv) 37)).alloc (.cells (rcells 0 (.slice none 0 0) (.slice none 0 0) 0 false) 31)

theorem w3b_ok (w : World) (room left kind at_ : Int) (sv ov bv kv : Value) (down : Bool) (name other : ByteArray) :
    Below w.heap.size w (w3b w room left kind at_ sv ov bv kv down name other) ∧ w.heap.size + 3 ≤ (w3b w room left kind at_ sv ov bv kv down name other).heap.size ∧ (∀ b, w.heap.size ≤ b ∧ b < w.heap.size + 3 → NoBytes (w3b w room left kind at_ sv ov bv kv down name other) b) ∧
    (w3b w room left kind at_ sv ov bv kv down name other).heap[w.heap.size]? = some (.cells (rcells room sv ov left down) 31) ∧ (w3b w room left kind at_ sv ov bv kv down name other).heap[w.heap.size + 1]? = some (.cells (acells kind at_ name other bv kv) 37) ∧
    (w3b w room left kind at_ sv ov bv kv down name other).heap[w.heap.size + 2]? = some (.cells (rcells 0 (.slice none 0 0) (.slice none 0 0) 0 false) 31) := by
  obtain ⟨h1, h2, h3⟩ := heap_new3 w (.cells (rcells room sv ov left down) 31) (.cells (acells kind at_ name other bv kv) 37) (.cells (rcells 0 (.slice none 0 0) (.slice none 0 0) 0 false) 31)
  refine ⟨(((Below.refl _ _).alloc (Nat.le_refl _) _).alloc (by simp) _).alloc (by simp; omega) _, by simp, ?_, h1, h2, h3⟩
  intro b hb
  obtain rfl | rfl | rfl : b = w.heap.size ∨ b = w.heap.size + 1 ∨ b = w.heap.size + 2 := by omega
  · exact noBytes_cells h1 (by decide)
  · exact noBytes_cells h2 (by decide)
  · exact noBytes_cells h3 (by decide)

set_option maxRecDepth 100000 in
set_option maxHeartbeats 1600000 in
theorem step_wr (d ms mv : Nat) (uv sv ov bv kv : Value) (room left at_ kind : Int) (down : Bool) (sure : List AFile) (way : List AOp) (K M : Nat) (name other : ByteArray) (bytes : List UInt8) (w : World) (hkd : bits BinOp.and IntKind.i64 kind 7 = 0 ∨ bits BinOp.and IntKind.i64 kind 7 = 1) (h : Inv w d ms mv uv sv ov room left down sure way K M)
    (hK : K ≤ 1000000) (hM : M ≤ 1000000) (hv : Sr w bv bytes.length 1 (bcells bytes)) (hvf : 0 < bytes.length → ∀ b, bv.ownBlock = some b → ¬ Foot d ms mv uv b) (hbl : bytes.length ≤ 200) (hnm : name.size ≤ 100) (hat : at_ ≤ 1099511627776) (hroom : room ≤ 9223372036854775807) :
    Calls Try.prog 7 #[.pointer (some ⟨d, 0, none⟩), .agg (rcells room sv ov left down), .agg (acells kind at_ name other bv kv)] w (StepPost d ms mv uv sv ov room K M w) := by
  obtain ⟨_, asv, caps, rfl, _, _, _⟩ := id h.fs
  obtain ⟨_, ao, capo, rfl, _, _, _⟩ := id h.os
  have hwl := h.pd.hK
  have hol : (aold (aseen sure way) name).length ≤ M := OkF.aold (h.ok.seen h.oo) name
  obtain ⟨hb0, hs0, hn0, g1, g2, g3⟩ := w3b_ok w room left kind at_ (.slice asv sure.length caps) (.slice ao way.length capo) bv kv down name other
  have hi0 := h.below hb0
  obtain ⟨⟨way', left', down', er⟩, hr⟩ : ∃ r, r = aask (afits room down (aseen sure way) 0 name ⟨#[]⟩ at_ bytes) way ⟨0, name, ⟨#[]⟩, at_.toNat, bytes⟩ left down := ⟨_, rfl⟩
  have hp : at_ ≤ ((aold (aseen sure way) name).length : Int) → at_ + bytes.length ≤ 1000000000000 := fun _ => by omega
  have hcw := Write_any d ms mv uv room left down sure way K name at_ bv bytes (w3b w room left kind at_ (.slice asv sure.length caps) (.slice ao way.length capo) bv kv down name other) hi0.pd (Sr.below hv hb0) hK h.l1 h.l2 (by unfold maxLen; omega) hp (by omega) hroom
  have hcr := fun W h1 h2 => RAsk_wr (.slice asv sure.length caps) (.slice ao way.length capo) room left down sure way name at_ bytes W h1 h2 (by omega) h.l1 h.l2 h.pd.ok (fun o ho => (h.pd.oo o ho).1) hp (by omega)
  have hend := fun (w1 w2 : World) (uv' ov' : Value) => ask_end (w := w) (w0 := w3b w room left kind at_ (.slice asv sure.length caps) (.slice ao way.length capo) bv kv down name other) (w1 := w1) (w2 := w2) (uv' := uv') (ov' := ov') h hb0 hs0 hn0 hr (fun hE => ⟨by simp, by
    unfold afits at hE
    by_cases h1 : down = true
    · rw [if_pos h1] at hE; omega
    rw [if_neg h1] at hE
    by_cases h2 : ((0 : Nat) = 1 ∧ badName ⟨#[]⟩ = true ∨ (0 : Nat) = 0 ∧ at_ < 0 ∨ (0 : Nat) < 2 ∧ badName name = true)
    · rw [if_pos h2] at hE; omega
    rw [if_neg h2, if_neg (by omega)] at hE
    by_cases h3 : ((aold (aseen sure way) name).length : Int) < at_
    · rw [if_pos h3] at hE; omega
    show at_.toNat + bytes.length ≤ M + 200
    have : ¬ at_ < 0 := fun hc => h2 (.inr (.inl ⟨rfl, hc⟩))
    omega⟩)
  unfold AskPost at hcw
  unfold RAskPost at hcr
  rw [← hr] at hcw hcr
  dsimp only at hcw hcr
  have HI0 := Lib.hid hi0; have HCW := Lib.hid hcw; have HCR := Lib.hid hcr; have HEND := Lib.hid hend; have HV := Lib.hid (Sr.below hv hb0); have HVF := Lib.hid hvf; have HG1 := Lib.hid g1; have HG2 := Lib.hid g2; have HG3 := Lib.hid g3
  have hlt := hs0
  have HF : Hid (∀ b, w.heap.size ≤ b → ¬ Foot d ms mv uv b) := Lib.hid fun b hb hf => by have := (h.pd.foot hf).2; omega
  clear hi0 hcw hcr hend hb0 hs0 hn0 g1 g2 g3 hp hol hv hvf h hwl
  rcases hkd with hkd | hkd
  all_goals
    go_enter Try.func7, Try.ntmps7
    go_wp2_with fail
    refine HCW.out.mono ?_
    rintro e w1 ⟨uv', rfl, hpd1, hk1, hf1⟩
    have g1 := (hk1.block w.heap.size (by omega) (HF.out _ (by omega))).trans HG1.out
    have g2 := (hk1.block (w.heap.size + 1) (by omega) (HF.out _ (by omega))).trans HG2.out
    have g3 := (hk1.block (w.heap.size + 2) (by omega) (HF.out _ (by omega))).trans HG3.out
    obtain ⟨a1, z1⟩ := block_cells g1
    obtain ⟨a2, z2⟩ := block_cells g2
    have p0 := a1 0; have p1 := a1 1; have p2 := a1 2; have p3 := a1 3; have p4 := a1 4
    have q0 := a2 0; have q1 := a2 1; have q2 := a2 2; have q3 := a2 3; have q4 := a2 4; have q5 := a2 5
    simp only [List.getElem?_toArray, List.getElem?_cons_zero, List.getElem?_cons_succ] at p0 p1 p2 p3 p4 q0 q1 q2 q3 q4 q5
    have hsz1 := hk1.size
    have HV1 := Lib.hid (Sr.keep HV.out hk1 HVF.out)
    have hfs1 := Sl.keep HI0.out.fs hk1 (fun b hb => HI0.out.dis b (.inl hb))
    have hos1 := Sl.keep HI0.out.os hk1 (fun b hb => HI0.out.dis b (.inr hb))
    have HP1 := Lib.hid hpd1; have HK1 := Lib.hid hk1; have HF1 := Lib.hid hf1; have HFS1 := Lib.hid hfs1; have HOS1 := Lib.hid hos1; have HH3 := Lib.hid g3
    clear hpd1 hk1 hf1 hfs1 hos1 a1 a2 z1 z2 g1 g2 g3
    go_wp2_with (with_reducible refine halt_convert rfl ?_)
    refine on1 (wpList_convert_sr rfl rfl Try.underlying34 Try.underlying9 Try.underlying5 rfl HV1.out ?_)
    go_wp2_with fail
    refine (HCR.out w1 HFS1.out HOS1.out).mono ?_
    rintro e w2 ⟨ov', rfl, hos2, hfr2, hb2⟩
    obtain ⟨_, ao', capo', rfl, _, _, _⟩ := id hos2
    have hT2 := (hb2.block (w.heap.size + 1 + 1) (by omega)).trans HH3.out
    obtain ⟨_, z3⟩ := block_cells hT2
    have hlt2 : w.heap.size + 1 + 1 < w2.heap.size := by have := hb2.size; omega
    have hfin := HEND.out w1 w2 uv' (.slice ao' way'.length capo') HP1.out HK1.out HF1.out hos2 hfr2 hb2 (.cells (rcells room (.slice asv sure.length caps) (.slice ao' way'.length capo') left' down') 31) hT2 [.int .i64 room, .slice asv sure.length caps, .slice ao' way'.length capo', .int .i64 left', .bool down'] rfl
    simp only [World.setCells, Nat.reduceAdd] at hfin
    have HFIN := Lib.hid hfin
    clear hos2 hfr2 hb2 hfin hT2 p0 p1 p2 p3 p4 q0 q1 q2 q3 q4 q5
    go_wp2_with fail
    exact bodyPost_ret (step_res HFIN.out.2 rfl rfl) rfl HFIN.out.1

end Go.Proofs.Ytjejifbpidgnmaa
