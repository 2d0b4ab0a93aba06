/-
  The law: DiskPlays.
-/
import Derived.Test.YtjejifbpidgnmaaDL9
import Derived.Test.YtjejifbpidgnmaaDAct
import Derived.Test.YtjejifbpidgnmaaDL0
namespace Go.Proofs.Ytjejifbpidgnmaa
open Go.RowKit Go.Maps

/-- what holds in the loop: block T holds the document's disk -/
structure LI (B T : Nat) (w0 wr : World) (d ms mv : Nat) (uv sv ov : Value) (room left : Int) (down : Bool) (sure : List AFile) (way : List AOp) (k : Nat) : Prop where
  inv : Inv wr d ms mv uv sv ov room left down sure way k (200 * k)
  cell : wr.heap[T]? = some (.cells (rcells room sv ov left down) 31)
  below : Below B w0 wr
  bt : B ≤ T
  ft : ∀ b, Foot d ms mv uv b → B ≤ b ∧ b ≠ T
  ow : ∀ b, sv.ownBlock = some b ∨ ov.ownBlock = some b → b ≠ T

theorem LI.lt {B T : Nat} {w0 wr : World} {d ms mv : Nat} {uv sv ov : Value} {room left : Int} {down : Bool} {sure : List AFile} {way : List AOp} {k : Nat} (h : LI B T w0 wr d ms mv uv sv ov room left down sure way k) : T < wr.heap.size :=
  (Array.getElem?_eq_some_iff.1 h.cell).1

theorem LI.on {B T : Nat} {w0 wr w' : World} {d ms mv : Nat} {uv sv ov : Value} {room left : Int} {down : Bool} {sure : List AFile} {way : List AOp} {k : Nat} (h : LI B T w0 wr d ms mv uv sv ov room left down sure way k) (hb : Below wr.heap.size wr w') : LI B T w0 w' d ms mv uv sv ov room left down sure way k :=
  ⟨h.inv.below hb, (hb.block T h.lt).trans h.cell, h.below.trans (hb.mono (by have := h.lt; have := h.bt; omega)), h.bt, h.ft, h.ow⟩

/-- what is known of the world behind step -/
structure After (B T : Nat) (w0 w2 : World) (d ms mv : Nat) (uv sv ov : Value) (room left : Int) (down : Bool) (sure : List AFile) (way : List AOp) (k : Nat) (old : Array Value) : Prop where
  inv : Inv w2 d ms mv uv sv ov room left down sure way k (200 * k)
  cell : w2.heap[T]? = some (.cells old 31)
  sz : old.size = 5
  below : Below B w0 w2
  bt : B ≤ T
  ft : ∀ b, Foot d ms mv uv b → B ≤ b ∧ b ≠ T
  ow : ∀ b, sv.ownBlock = some b ∨ ov.ownBlock = some b → b ≠ T

theorem LI.after {B T : Nat} {w0 wr w2 : World} {d ms mv ms' mv' : Nat} {uv sv ov uv' sv' ov' : Value} {room left left' : Int} {down down' : Bool} {sure sure' : List AFile} {way way' : List AOp} {k : Nat} (h : LI B T w0 wr d ms mv uv sv ov room left down sure way k)
    (hi : Inv w2 d ms' mv' uv' sv' ov' room left' down' sure' way' (k + 1) (200 * k + 200)) (hk : Keeps (Foot d ms mv uv) wr w2) (hf : ∀ b, Foot d ms' mv' uv' b → Foot d ms mv uv b ∨ wr.heap.size ≤ b) (ho : ∀ b, sv'.ownBlock = some b ∨ ov'.ownBlock = some b → (sv.ownBlock = some b ∨ ov.ownBlock = some b) ∨ wr.heap.size ≤ b) :
    After B T w0 w2 d ms' mv' uv' sv' ov' room left' down' sure' way' (k + 1) (rcells room sv ov left down) := by
  have hlt := h.lt
  have hbt := h.bt
  refine ⟨hi, (hk.block T hlt (fun hc => (h.ft T hc).2 rfl)).trans h.cell, rfl, h.below.trans (hk.below (by omega) (fun i hi hc => by have := (h.ft i hc).1; omega)), hbt, fun b hb => ?_, fun b hb => ?_⟩
  · rcases hf b hb with h' | h'
    · exact h.ft b h'
    · exact ⟨by omega, by omega⟩
  · rcases ho b hb with h' | h'
    · exact h.ow b h'
    · omega

theorem After.store {B T : Nat} {w0 w2 : World} {d ms mv : Nat} {uv sv ov : Value} {room left : Int} {down : Bool} {sure : List AFile} {way : List AOp} {k : Nat} {old : Array Value} (h : After B T w0 w2 d ms mv uv sv ov room left down sure way k old) :
    LI B T w0 (w2.setCells T 0 [.int .i64 room, sv, ov, .int .i64 left, .bool down]) d ms mv uv sv ov room left down sure way k := by
  obtain ⟨s1, k1⟩ := setCells_whole h.cell [.int .i64 room, sv, ov, .int .i64 left, .bool down] h.sz
  have hn := noBytes_cells h.cell (by decide)
  refine ⟨⟨h.inv.pd.keep k1 (fun b hb e => (h.ft b hb).2 e) (fun b e => by subst e; exact hn), Sl.keep h.inv.fs k1 (fun b hb e => h.ow b (.inl hb) e), Sl.keep h.inv.os k1 (fun b hb e => h.ow b (.inr hb) e), h.inv.dis, h.inv.l1, h.inv.l2, h.inv.ok, h.inv.oo⟩, s1, below_setCells h.below h.bt _ _, h.bt, h.ft, h.ow⟩

theorem sc_cell {w : World} {b off : Nat} {sc : List Act1} (h : At w b off (sc.flatMap scells)) {k : Nat} {x : Act1} (hk : sc[k]? = some x) :
    w.cell? ⟨b, off + k * 6, none⟩ = some (.int .i64 x.kind) ∧ w.cell? ⟨b, off + k * 6 + 1, none⟩ = some (.string x.name) ∧ w.cell? ⟨b, off + k * 6 + 2, none⟩ = some (.string x.other) ∧
      w.cell? ⟨b, off + k * 6 + 3, none⟩ = some (.int .i64 x.at_) ∧ w.cell? ⟨b, off + k * 6 + 4, none⟩ = some x.bv ∧ w.cell? ⟨b, off + k * 6 + 5, none⟩ = some x.kv := by
  have h0 := flat_get scells 6 (fun _ => rfl) sc k 0 (by omega)
  have h1 := flat_get scells 6 (fun _ => rfl) sc k 1 (by omega)
  have h2 := flat_get scells 6 (fun _ => rfl) sc k 2 (by omega)
  have h3 := flat_get scells 6 (fun _ => rfl) sc k 3 (by omega)
  have h4 := flat_get scells 6 (fun _ => rfl) sc k 4 (by omega)
  have h5 := flat_get scells 6 (fun _ => rfl) sc k 5 (by omega)
  rw [hk] at h0 h1 h2 h3 h4 h5
  exact ⟨h _ _ h0, h _ _ h1, h _ _ h2, h _ _ h3, h _ _ h4, h _ _ h5⟩

set_option maxRecDepth 100000 in
set_option maxHeartbeats 1600000 in
theorem plays_any (room : Int) (sc : Value) (script : List Act1) (w : World) (hsc : Sr w sc script.length 6 (script.flatMap scells)) (hin : ∀ a ∈ script, ActIn w a) (hr : room ≤ 9223372036854775807) :
    Calls Try.prog 3 #[.int .i64 room, sc] w fun e w' => e = .returned (.bool true) ∧ Below w.heap.size w w' := by
  obtain ⟨a, cap, rfl, hc1, hc2⟩ := Sr.shape hsc
  have hm : script.length ≤ 9223372036854775807 := by unfold maxLen at hc2; omega
  have HS := Lib.hid hsc; have HIN := Lib.hid hin; clear hsc hin hc2
  go_enter Try.func3, Try.ntmps3
  go_wp2_with fail
  refine (awake_any w).mono ?_
  rintro e w1 ⟨rfl, hb1⟩
  have HB1 := Lib.hid hb1; clear hb1
  go_wp2_with fail
  refine (New_any room w1).mono ?_
  rintro e w2 ⟨hbad, hgood, hb2⟩
  by_cases hrm : room < 0 ∨ 16777216 < room
  · obtain rfl := hbad hrm
    have HR := Lib.hid (RNew_any room w2)
    rw [if_pos hrm] at HR
    have HB2 := Lib.hid (HB1.out.trans (hb2.mono HB1.out.size))
    clear hbad hgood hrm hb2
    go_wp2_with fail
    refine HR.out.mono ?_
    rintro e w3 ⟨rfl, hb3⟩
    have HB3 := Lib.hid (HB2.out.trans (hb3.mono HB2.out.size)); clear hb3
    go_wp2_with fail
    go_loopw [10] (fun i wr => i = .int .i64 0 ∧ Below w.heap.size w wr) (fun _ _ => 0)
    case atStart => exact ⟨rfl, HB3.out.alloc (by have := HB3.out.size; omega) _⟩
    case round =>
      obtain ⟨rfl, hbr⟩ := hrel
      have HBR := Lib.hid hbr; clear hbr
      by_cases hl0 : 0 < script.length
      · go_wp2_with fail
        go_ret
        exact ⟨rfl, HBR.out⟩
      · go_wp2_with fail
        go_ret
        exact ⟨rfl, HBR.out⟩
  · obtain ⟨d, ms, mv, rfl, hpd, hd1, hd2, hd3⟩ := hgood hrm
    have HR := Lib.hid (RNew_any room w2)
    rw [if_neg hrm] at HR
    have HB2 := Lib.hid (HB1.out.trans (hb2.mono HB1.out.size))
    have hs1 := HB1.out.size
    have HPD := Lib.hid hpd
    clear hbad hgood hrm hb2 hpd
    go_wp2_with fail
    refine HR.out.mono ?_
    rintro e w3 ⟨rfl, hb3⟩
    have HB3 := Lib.hid (HB2.out.trans (hb3.mono HB2.out.size))
    have HI3 := Lib.hid (HPD.out.below hb3)
    clear hb3
    have hli : LI w.heap.size w3.heap.size w (w3.alloc (.cells (rcells room (.slice none 0 0) (.slice none 0 0) (-1) false) 31)) d ms mv (.slice none 0 0) (.slice none 0 0) (.slice none 0 0) room (-1) false [] [] 0 := by
      have hal : Below w3.heap.size w3 (w3.alloc (.cells (rcells room (.slice none 0 0) (.slice none 0 0) (-1) false) 31)) := (Below.refl _ _).alloc (Nat.le_refl _) _
      have hs3 := HB3.out.size
      refine ⟨⟨HI3.out.below hal, Sl.nil _ _, Sl.nil _ _, fun b hb => by simp [Value.ownBlock] at hb, by omega, by omega, fun f hf => by simp at hf, fun o ho => by simp at ho⟩, heap_new1 _ _, HB3.out.trans (hal.mono hs3), hs3, fun b hb => ?_, fun b hb => by simp [Value.ownBlock] at hb⟩
      have hb3 := (HI3.out.foot hb).2
      refine ⟨?_, by omega⟩
      rcases hb with h | h | h | h
      · omega
      · omega
      · omega
      · simp [Value.ownBlock] at h
    have HLI := Lib.hid hli; clear hli
    go_wp2_with fail
    generalize w3.alloc (.cells (rcells room (.slice none 0 0) (.slice none 0 0) (-1) false) 31) = wx at *
    go_loopw [10] (fun i wr => ∃ (k ms mv : Nat) (uv : Value) (a1 a2 : Option Addr) (n1 c1 n2 c2 : Nat) (left : Int) (down : Bool) (sure : List AFile) (way : List AOp), k ≤ script.length ∧ k ≤ 30 ∧ i = .int .i64 k ∧ LI w.heap.size w3.heap.size w wr d ms mv uv (.slice a1 n1 c1) (.slice a2 n2 c2) room left down sure way k) (fun i _ => script.length - (intOf i).toNat)
    case atStart => exact ⟨0, ms, mv, .slice none 0 0, none, none, 0, 0, 0, 0, -1, false, [], [], Nat.zero_le _, by omega, rfl, HLI.out⟩
    case round =>
      obtain ⟨k, ms, mv, uv, a1, a2, n1, c1, n2, c2, left, down, sure, way, hk1, hk2, rfl, hli⟩ := hrel
      have hT := hli.lt
      have H := Lib.hid hli; clear hli
      by_cases hgo : k < script.length ∧ k < 30
      · obtain ⟨hlt, hlt2⟩ := hgo
        obtain ⟨x, hx⟩ : ∃ x, script[k]? = some x := ⟨_, List.getElem?_eq_getElem hlt⟩
        obtain ⟨b, off, rfl, hbl, hat⟩ := Sr.cells HS.out (by omega)
        have hat' : At wr b off (script.flatMap scells) := hat.keep (H.out.below.block b hbl)
        obtain ⟨bytes, keep, hbv, hkv⟩ := HIN.out x (List.mem_of_getElem? hx)
        obtain ⟨kind, at_, name, other, bv, kv⟩ := x
        dsimp only at hbv hkv
        obtain ⟨o0, o1, o2, o3, o4, o5⟩ := sc_cell hat' hx
        dsimp only at o0 o1 o2 o3 o4 o5
        have hbvlt : 0 < bytes.length → ∀ b', bv.ownBlock = some b' → ¬ Foot d ms mv uv b' := fun h0 b' hb' hf => by have := Sr.lt hbv h0 hb'; have := (H.out.ft b' hf).1; omega
        have hkvlt : 0 < keep.length → ∀ b', kv.ownBlock = some b' → ¬ Foot d ms mv uv b' := fun h0 b' hb' hf => by have := Sr.lt hkv h0 hb'; have := (H.out.ft b' hf).1; omega
        obtain ⟨ba, bc, rfl, _, _⟩ := Sr.shape hbv
        obtain ⟨ka, kc, rfl, _, _⟩ := Sr.shape hkv
        have HBV := Lib.hid hbv; have HKV := Lib.hid hkv; have HBF := Lib.hid hbvlt; have HKF := Lib.hid hkvlt
        obtain ⟨b1, z1⟩ := block_cells H.out.cell
        have t0 := b1 0; have t1 := b1 1; have t2 := b1 2; have t3 := b1 3; have t4 := b1 4
        simp only [List.getElem?_toArray, List.getElem?_cons_zero, List.getElem?_cons_succ] at t0 t1 t2 t3 t4
        clear hat hat' hx hbv hkv hbvlt hkvlt b1 z1
        by_cases g1 : 200 < bytes.length
        · go_wp2_with fail
          go_ret
          exact ⟨rfl, H.out.below⟩
        by_cases g2 : 100 < name.size
        · go_wp2_with fail
          go_ret
          exact ⟨rfl, H.out.below⟩
        by_cases g3 : 100 < other.size
        · go_wp2_with fail
          go_ret
          exact ⟨rfl, H.out.below⟩
        by_cases g4 : 1099511627776 < at_
        · go_wp2_with fail
          go_ret
          exact ⟨rfl, H.out.below⟩
        have hdr : Below wr.heap.size wr wr.drew := (Below.refl _ _).drew
        have hcall := step_any d ms mv uv (.slice a1 n1 c1) (.slice a2 n2 c2) (.slice ba bytes.length bc) (.slice ka keep.length kc) room left at_ kind down sure way k (200 * k) name other bytes keep wr.drew (H.out.inv.below hdr) (by omega) (by omega)
          (Sr.below (Sr.below HBV.out H.out.below) hdr) HBF.out (Sr.below (Sr.below HKV.out H.out.below) hdr) HKF.out (by omega) (by omega) (by omega) (by omega) hr
        have hstep : ∀ (e : Ending) (w4 : World), StepPost d ms mv uv (.slice a1 n1 c1) (.slice a2 n2 c2) room k (200 * k) wr.drew e w4 →
            ∃ (ms' mv' : Nat) (uv' : Value) (b1 b2 : Option Addr) (m1 e1 m2 e2 : Nat) (left' : Int) (down' : Bool) (sure' : List AFile) (way' : List AOp), e = .returned (.tuple #[.agg #[.int .i64 room, .slice b1 m1 e1, .slice b2 m2 e2, .int .i64 left', .bool down'], .bool true]) ∧
              Hid (After w.heap.size w3.heap.size w w4 d ms' mv' uv' (.slice b1 m1 e1) (.slice b2 m2 e2) room left' down' sure' way' (k + 1) (rcells room (.slice a1 n1 c1) (.slice a2 n2 c2) left down)) ∧
              (∀ j, w4.frozen? ⟨w3.heap.size, j, none⟩ = false) ∧ w4.cell? ⟨w3.heap.size, 0, none⟩ = some (.int .i64 room) ∧ w4.cell? ⟨w3.heap.size, 1, none⟩ = some (.slice a1 n1 c1) ∧ w4.cell? ⟨w3.heap.size, 2, none⟩ = some (.slice a2 n2 c2) ∧ w4.cell? ⟨w3.heap.size, 3, none⟩ = some (.int .i64 left) ∧ w4.cell? ⟨w3.heap.size, 4, none⟩ = some (.bool down) := by
          rintro e w4 ⟨ms', mv', uv', sv', ov', left', down', sure', way', rfl, hi, hk, hf, ho⟩
          have haf := H.out.after hi ((Keeps.refl _ _).drew.trans hk) hf ho
          obtain ⟨b1, z1⟩ := block_cells haf.cell
          obtain ⟨_, x1, x2, rfl, _, _, _⟩ := id hi.fs
          obtain ⟨_, y1, y2, rfl, _, _, _⟩ := id hi.os
          exact ⟨ms', mv', uv', x1, y1, _, x2, _, y2, left', down', sure', way', rfl, haf, z1, b1 0, b1 1, b1 2, b1 3, b1 4⟩
        have HCALL := Lib.hid hcall; have HST := Lib.hid hstep
        clear hcall hstep hdr
        go_wp2_with fail
        go_region_with (go_at_call 7; refine (HCALL.out.mono HST.out).mono ?_; rintro e w4 ⟨ms', mv', uv', b1, b2, m1, e1, m2, e2, left', down', sure', way', rfl, H4, z4, s0, s1, s2, s3, s4⟩)
        all_goals
          have hl := H4.out.store
          simp only [World.setCells, Nat.reduceAdd] at hl
          have HL := Lib.hid hl
          clear hl z4 s0 s1 s2 s3 s4 t0 t1 t2 t3 t4 o0 o1 o2 o3 o4 o5
          obtain ⟨b1', z1⟩ := block_cells HL.out.cell
          have t0 := b1' 0; have t1 := b1' 1; have t2 := b1' 2; have t3 := b1' 3; have t4 := b1' 4
          simp only [List.getElem?_toArray, List.getElem?_cons_zero, List.getElem?_cons_succ] at t0 t1 t2 t3 t4
          generalize ((((w4.setCell ⟨w3.heap.size, 0, none⟩ (.int .i64 room)).setCell ⟨w3.heap.size, 1, none⟩ (.slice b1 m1 e1)).setCell ⟨w3.heap.size, 2, none⟩ (.slice b2 m2 e2)).setCell ⟨w3.heap.size, 3, none⟩ (.int .i64 left')).setCell ⟨w3.heap.size, 4, none⟩ (.bool down') = w5 at *
          clear b1' z1
          go_wp2_with fail
          refine (like_any d ms' mv' uv' _ _ room left' down' sure' way' (k + 1) _ HL.out.inv.pd (by omega) HL.out.inv.fs HL.out.inv.os).mono ?_
          rintro e w6 ⟨rfl, hb6⟩
          have HL6 := Lib.hid (HL.out.on hb6)
          clear hb6 t0 t1 t2 t3 t4
          go_wp2_with fail
          go_roundw
          case rel =>
            exact ⟨k + 1, ms', mv', uv', b1, b2, m1, e1, m2, e2, left', down', sure', way', by omega, by omega, by go_num, HL6.out⟩
          case measure => simp [intOf]; omega
      · by_cases hlt : k < script.length
        · have hlt2 : ¬ k < 30 := by omega
          clear hgo
          go_wp2_with fail
          go_ret
          exact ⟨rfl, H.out.below⟩
        · clear hgo
          go_wp2_with fail
          go_ret
          exact ⟨rfl, H.out.below⟩

end Go.Proofs.Ytjejifbpidgnmaa
