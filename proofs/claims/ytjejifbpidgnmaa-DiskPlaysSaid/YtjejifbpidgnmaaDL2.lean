/-
  The law: what holds between the program's disk and the document's, step by step.
-/
import Derived.Test.YtjejifbpidgnmaaDL1
namespace Go.Proofs.Ytjejifbpidgnmaa
open Go.RowKit Go.Maps

def RAskPost (sv ov : Value) (room left : Int) (down : Bool) (way : List AOp) (E : Int) (o : AOp) (w : World) (e : Ending) (w' : World) : Prop :=
  ∃ ov', e = .returned (.tuple #[.agg #[.int .i64 room, sv, ov', .int .i64 (aask E way o left down).2.1, .bool (aask E way o left down).2.2.1], .int .i64 (aask E way o left down).2.2.2]) ∧ OpsAt w' ov' (aask E way o left down).1 ∧
    Fresh w.heap.size ov ov' ∧ Below w.heap.size w w'

set_option maxRecDepth 100000 in
set_option maxHeartbeats 1000000 in
theorem Ask_no (sv ov : Value) (room left : Int) (down : Bool) (sure : List AFile) (way : List AOp) (E : Int) (o : AOp) (oc : Array Value) (kind pos : Int) (name other b : ByteArray) (hoc : oc = #[.int .i64 kind, .string name, .string other, .int .i64 pos, .string b]) (w : World) (hs : FsAt w sv sure) (ho : OpsAt w ov way) (hE : E ≠ 0)
    (hf : ∀ w1, FsAt w1 sv sure → OpsAt w1 ov way → Calls Try.prog 31 #[.agg #[.int .i64 room, sv, ov, .int .i64 left, .bool down], .agg oc] w1 fun e w' => e = .returned (.int .i64 E) ∧ Below w1.heap.size w1 w') :
    Calls Try.prog 14 #[.agg #[.int .i64 room, sv, ov, .int .i64 left, .bool down], .agg oc] w (RAskPost sv ov room left down way E o w) := by
  subst hoc
  have HS := Lib.hid hs; have HO := Lib.hid ho; have HF := Lib.hid hf
  clear hs ho hf
  obtain ⟨_, asv, caps, rfl, _, _, _⟩ := HS.out
  obtain ⟨_, ao, capo, rfl, _, _, _⟩ := HO.out
  have HB3 : Hid (∀ o1 o2 o3, Below w.heap.size w (((w.alloc o1).alloc o2).alloc o3)) := Lib.hid fun o1 o2 o3 => (((Below.refl _ _).alloc (Nat.le_refl _) o1).alloc (by simp) o2).alloc (by simp; omega) o3
  have hne : (E != 0) = true := by simpa using hE
  go_enter Try.func14, Try.ntmps14
  go_wp2_with fail
  refine (HF.out _ (HS.out.below (HB3.out _ _ _)) (HO.out.below (HB3.out _ _ _))).mono ?_
  rintro e w1 ⟨rfl, hb1⟩
  simp only [World.size_alloc] at hb1
  obtain ⟨a1, z1⟩ := block_cells ((hb1.block w.heap.size (by omega)).trans (heap_new3 w _ _ _).1)
  obtain ⟨a3, z3⟩ := block_cells ((hb1.block (w.heap.size + 2) (by omega)).trans (heap_new3 w _ _ _).2.2)
  have p0 := a1 0; have p1 := a1 1; have p2 := a1 2; have p3 := a1 3; have p4 := a1 4
  have r0 := a3 0; have r1 := a3 1; have r2 := a3 2; have r3 := a3 3; have r4 := a3 4
  simp only [List.getElem?_toArray, List.getElem?_cons_zero, List.getElem?_cons_succ] at p0 p1 p2 p3 p4 r0 r1 r2 r3 r4
  have HB1 := Lib.hid hb1
  clear hb1 a1 a3
  go_wp2_with fail
  refine bodyPost_ret (v := .tuple #[.agg #[.int .i64 room, .slice asv sure.length caps, .slice ao way.length capo, .int .i64 left, .bool down], .int .i64 E]) (by simp [results, Try.results14, go_sem, r0, r1, r2, r3, r4]) rfl ?_
  have hbel : Below w.heap.size w ((((((w1.setCell ⟨w.heap.size + 1 + 1, 0, none⟩ (.int .i64 room)).setCell ⟨w.heap.size + 1 + 1, 1, none⟩ (.slice asv sure.length caps)).setCell ⟨w.heap.size + 1 + 1, 2, none⟩ (.slice ao way.length capo)).setCell ⟨w.heap.size + 1 + 1, 3, none⟩ (.int .i64 left)).setCell ⟨w.heap.size + 1 + 1, 4, none⟩ (.bool down))) := by
    have h0 := (HB3.out _ _ _).trans (HB1.out.mono (B' := w.heap.size) (by omega))
    repeat (first | exact h0 | refine Below.setCell ?_ (by simp; omega) _)
  exact ⟨_, by simp only [aask, if_pos hE], by simp only [aask, if_pos hE]; exact HO.out.below hbel, .inl rfl, hbel⟩

theorem RAsk_wr (sv ov : Value) (room left : Int) (down : Bool) (sure : List AFile) (way : List AOp) (name : ByteArray) (pos : Int) (bytes : List UInt8) (w : World) (hs : FsAt w sv sure) (ho : OpsAt w ov way) (hb : sure.length + way.length ≤ 1000000) (hl : -1 ≤ left) (hl2 : left ≤ 9223372036854775807)
    (hok : OkF 1000000000000 sure) (hoo : ∀ o ∈ way, OkO 1000000000000 o) (hp : pos ≤ ((aold (aseen sure way) name).length : Int) → pos + bytes.length ≤ 1000000000000) (hbs : bytes.length ≤ 1000000000000) :
    Calls Try.prog 14 #[.agg #[.int .i64 room, sv, ov, .int .i64 left, .bool down], .agg #[.int .i64 0, .string name, .string ⟨#[]⟩, .int .i64 pos, .string ⟨bytes.toArray⟩]] w
      (RAskPost sv ov room left down way (afits room down (aseen sure way) 0 name ⟨#[]⟩ pos bytes) ⟨0, name, ⟨#[]⟩, pos.toNat, bytes⟩ w) := by
  by_cases hneg : pos < 0
  · refine Ask_no sv ov room left down sure way _ _ _ _ _ _ _ _ rfl w hs ho ?_ (fun w1 h1 h2 => fits_wr sv ov room left down sure way name _ pos bytes w1 h1 h2 hb hok hoo hp hbs)
    unfold afits
    split
    · omega
    · rw [if_pos (.inr (.inl ⟨rfl, hneg⟩))]; omega
  · obtain ⟨p, rfl⟩ := Int.eq_ofNat_of_zero_le (by omega : 0 ≤ pos)
    exact Ask_core sv ov room left down sure way _ ⟨0, name, ⟨#[]⟩, p, bytes⟩ w hs ho (by omega) hl hl2 (fun w1 h1 h2 => fits_wr sv ov room left down sure way name _ p bytes w1 h1 h2 hb hok hoo hp hbs)

theorem RAsk_rn (sv ov : Value) (room left : Int) (down : Bool) (sure : List AFile) (way : List AOp) (name other : ByteArray) (w : World) (hs : FsAt w sv sure) (ho : OpsAt w ov way) (hb : sure.length + way.length ≤ 1000000) (hl : -1 ≤ left) (hl2 : left ≤ 9223372036854775807)
    (hok : OkF 1000000000000 sure) (hoo : ∀ o ∈ way, OkO 1000000000000 o) :
    Calls Try.prog 14 #[.agg #[.int .i64 room, sv, ov, .int .i64 left, .bool down], .agg #[.int .i64 1, .string name, .string other, .int .i64 0, .string ⟨#[]⟩]] w
      (RAskPost sv ov room left down way (afits room down (aseen sure way) 1 name other 0 []) ⟨1, name, other, 0, []⟩ w) :=
  Ask_core sv ov room left down sure way _ ⟨1, name, other, 0, []⟩ w hs ho (by omega) hl hl2 (fun w1 h1 h2 => fits_rn sv ov room left down sure way name other w1 h1 h2 hb hok hoo)

theorem RAsk_rm (sv ov : Value) (room left : Int) (down : Bool) (sure : List AFile) (way : List AOp) (name : ByteArray) (w : World) (hs : FsAt w sv sure) (ho : OpsAt w ov way) (hb : sure.length + way.length ≤ 1000000) (hl : -1 ≤ left) (hl2 : left ≤ 9223372036854775807)
    (hok : OkF 1000000000000 sure) (hoo : ∀ o ∈ way, OkO 1000000000000 o) :
    Calls Try.prog 14 #[.agg #[.int .i64 room, sv, ov, .int .i64 left, .bool down], .agg #[.int .i64 2, .string name, .string ⟨#[]⟩, .int .i64 0, .string ⟨#[]⟩]] w
      (RAskPost sv ov room left down way (afits room down (aseen sure way) 2 name ⟨#[]⟩ 0 []) ⟨2, name, ⟨#[]⟩, 0, []⟩ w) :=
  Ask_core sv ov room left down sure way _ ⟨2, name, ⟨#[]⟩, 0, []⟩ w hs ho (by omega) hl hl2 (fun w1 h1 h2 => fits_rm sv ov room left down sure way name w1 h1 h2 hb hok hoo)

/-- the program's disk and the document's are one -/
structure Inv (w : World) (d ms mv : Nat) (uv sv ov : Value) (room left : Int) (down : Bool) (sure : List AFile) (way : List AOp) (K M : Nat) : Prop where
  pd : PD w d ms mv uv room left down sure way K
  fs : FsAt w sv sure
  os : OpsAt w ov way
  dis : ∀ b, sv.ownBlock = some b ∨ ov.ownBlock = some b → ¬ Foot d ms mv uv b
  l1 : -1 ≤ left
  l2 : left ≤ 9223372036854775807
  ok : OkF M sure
  oo : ∀ o ∈ way, OkO M o

theorem Inv.below {w w' : World} {d ms mv : Nat} {uv sv ov : Value} {room left : Int} {down : Bool} {sure : List AFile} {way : List AOp} {K M : Nat} (h : Inv w d ms mv uv sv ov room left down sure way K M) (k : Below w.heap.size w w') : Inv w' d ms mv uv sv ov room left down sure way K M :=
  ⟨h.pd.below k, h.fs.below k, h.os.below k, h.dis, h.l1, h.l2, h.ok, h.oo⟩

def StepPost (d ms mv : Nat) (uv sv ov : Value) (room : Int) (K M : Nat) (w : World) (e : Ending) (w' : World) : Prop :=
  ∃ ms' mv' uv' sv' ov' left' down' sure' way', e = .returned (.tuple #[.agg #[.int .i64 room, sv', ov', .int .i64 left', .bool down'], .bool true]) ∧ Inv w' d ms' mv' uv' sv' ov' room left' down' sure' way' (K + 1) (M + 200) ∧
    Keeps (Foot d ms mv uv) w w' ∧ (∀ b, Foot d ms' mv' uv' b → Foot d ms mv uv b ∨ w.heap.size ≤ b) ∧ (∀ b, sv'.ownBlock = some b ∨ ov'.ownBlock = some b → (sv.ownBlock = some b ∨ ov.ownBlock = some b) ∨ w.heap.size ≤ b)

theorem Inv.step {w w0 w1 w2 w3 : World} {d ms mv ms' mv' : Nat} {uv sv ov uv' sv' ov' : Value} {room left left' : Int} {down down' : Bool} {sure sure' : List AFile} {way way' : List AOp} {K M : Nat} (h : Inv w d ms mv uv sv ov room left down sure way K M)
    (hb0 : Below w.heap.size w w0) (hs0 : w.heap.size + 3 ≤ w0.heap.size) (hpd : PD w1 d ms' mv' uv' room left' down' sure' way' (K + 1)) (hk : Keeps (Foot d ms mv uv) w0 w1) (hft : ∀ b, Foot d ms' mv' uv' b → Foot d ms mv uv b ∨ w0.heap.size ≤ b)
    (hb : Below w1.heap.size w1 w2) (hfs : FsAt w2 sv' sure') (hos : OpsAt w2 ov' way') (f1 : Fresh w1.heap.size sv sv') (f2 : Fresh w1.heap.size ov ov') (l1 : -1 ≤ left') (l2 : left' ≤ 9223372036854775807) (ok : OkF (M + 200) sure') (oo : ∀ o ∈ way', OkO (M + 200) o)
    (k3 : Keeps (fun b => w.heap.size ≤ b ∧ b < w.heap.size + 3) w2 w3) (hn0 : ∀ b, w.heap.size ≤ b ∧ b < w.heap.size + 3 → NoBytes w0 b) :
    StepPost d ms mv uv sv ov room K M w (.returned (.tuple #[.agg #[.int .i64 room, sv', ov', .int .i64 left', .bool down'], .bool true])) w3 := by
  have e1 := hk.size
  have e2 := hb.size
  have hF : ∀ b, Foot d ms mv uv b → b < w.heap.size := fun b hb => (h.pd.foot hb).2
  have hn : ∀ b, w.heap.size ≤ b ∧ b < w.heap.size + 3 → NoBytes w2 b := fun b hb' c fr e => hn0 b hb' c fr (by
    rw [hb.block b (by omega), hk.block b (by omega) (fun hf => by have := hF b hf; omega)] at e
    exact e)
  have hso : ∀ b, sv.ownBlock = some b ∨ ov.ownBlock = some b → b < w.heap.size := fun b hb => hb.elim (fun h' => Sl.lt h.fs h') (fun h' => Sl.lt h.os h')
  have hn' : ∀ b, sv'.ownBlock = some b ∨ ov'.ownBlock = some b → (sv.ownBlock = some b ∨ ov.ownBlock = some b) ∨ w1.heap.size ≤ b := by
    intro b hb
    rcases hb with hb | hb
    · rcases f1 with h | h
      · exact .inl (.inl (h ▸ hb))
      · exact .inr (h b hb)
    · rcases f2 with h | h
      · exact .inl (.inr (h ▸ hb))
      · exact .inr (h b hb)
  have hns : ∀ b, sv'.ownBlock = some b ∨ ov'.ownBlock = some b → ¬ (w.heap.size ≤ b ∧ b < w.heap.size + 3) := by
    intro b hb hc
    rcases hn' b hb with h' | h'
    · have := hso b h'; omega
    · omega
  refine ⟨ms', mv', uv', sv', ov', left', down', sure', way', rfl, ⟨(hpd.below hb).keep k3 (fun b hb hc => ?_) hn, Sl.keep hfs k3 (fun b hb => hns b (.inl hb)), Sl.keep hos k3 (fun b hb => hns b (.inr hb)), ?_, l1, l2, ok, oo⟩, ?_, ?_, fun b hb => (hn' b hb).imp id (fun h => by omega)⟩
  · rcases hft b hb with h' | h'
    · have := hF b h'; omega
    · omega
  · intro b hb hf
    have hlt := (hpd.foot hf).2
    rcases hn' b hb with h' | h'
    · rcases hft b hf with h'' | h''
      · exact h.dis b h' h''
      · have := hso b h'; omega
    · omega
  · exact ((keeps_of_below hb0 (Nat.le_refl _) _).trans hk).trans' ((keeps_of_below hb (Nat.le_refl _) (fun b => w.heap.size ≤ b ∧ b < w.heap.size + 3)).trans k3) (fun i hi hc => by omega)
  · intro b hb
    rcases hft b hb with h' | h'
    · exact .inl h'
    · exact .inr (by omega)

theorem aask_inv {E : Int} {way : List AOp} {o : AOp} {left : Int} {down : Bool} (l1 : -1 ≤ left) (l2 : left ≤ 9223372036854775807) : -1 ≤ (aask E way o left down).2.1 ∧ (aask E way o left down).2.1 ≤ 9223372036854775807 ∧ ∀ p ∈ (aask E way o left down).1, p ∈ way ∨ (E = 0 ∧ p = o) := by
  unfold aask
  by_cases hE : E = 0
  · rw [if_neg (by simpa using hE)]
    by_cases hl : left = 0
    · rw [if_pos hl]; exact ⟨l1, l2, fun p hp => .inl hp⟩
    · rw [if_neg hl]
      refine ⟨?_, ?_, fun p hp => ?_⟩
      · dsimp only; split <;> omega
      · dsimp only; split <;> omega
      · rcases List.mem_append.1 hp with hp | hp
        · exact .inl hp
        · exact .inr ⟨hE, List.mem_singleton.1 hp⟩
  · rw [if_pos hE]; exact ⟨l1, l2, fun p hp => .inl hp⟩

theorem Foot.more {d ms mv B : Nat} {uv uv' : Value} (hf : ∀ b, uv'.ownBlock = some b → uv.ownBlock = some b ∨ B ≤ b) : ∀ b, Foot d ms mv uv' b → Foot d ms mv uv b ∨ B ≤ b := by
  intro b hb
  rcases hb with h | h | h | h
  · exact .inl (.inl h)
  · exact .inl (.inr (.inl h))
  · exact .inl (.inr (.inr (.inl h)))
  · exact (hf b h).imp (fun h => .inr (.inr (.inr h))) id

theorem OkO.mono {M M' : Nat} {o : AOp} (h : OkO M o) (hM : M ≤ M') : OkO M' o := ⟨h.1, Nat.le_trans h.2 hM⟩
theorem OkF.mono {M M' : Nat} {l : List AFile} (h : OkF M l) (hM : M ≤ M') : OkF M' l := fun f hf => Nat.le_trans (h f hf) hM

theorem ask_end {w w0 w1 w2 : World} {d ms mv : Nat} {uv sv ov uv' ov' : Value} {room left left' er E : Int} {down down' : Bool} {sure : List AFile} {way way' : List AOp} {K M : Nat} {o : AOp} (h : Inv w d ms mv uv sv ov room left down sure way K M)
    (hb0 : Below w.heap.size w w0) (hs0 : w.heap.size + 3 ≤ w0.heap.size) (hn0 : ∀ b, w.heap.size ≤ b ∧ b < w.heap.size + 3 → NoBytes w0 b) (hr : (way', left', down', er) = aask E way o left down) (ho : E = 0 → OkO (M + 200) o)
    (hpd : PD w1 d ms mv uv' room left' down' sure way' (K + 1)) (hk : Keeps (Foot d ms mv uv) w0 w1) (hf : ∀ b, uv'.ownBlock = some b → uv.ownBlock = some b ∨ w0.heap.size ≤ b)
    (hos : OpsAt w2 ov' way') (f2 : Fresh w1.heap.size ov ov') (hb : Below w1.heap.size w1 w2) (obj : Obj) {cur : Array Value} (hT : w2.heap[w.heap.size + 1 + 1]? = some (.cells cur 31)) (vs : List Value) (hvs : cur.size = vs.length) :
    StepPost d ms mv uv sv ov room K M w (.returned (.tuple #[.agg #[.int .i64 room, sv, ov', .int .i64 left', .bool down'], .bool true])) ((w2.setCells (w.heap.size + 1 + 1) 0 vs).alloc obj) ∧
      ((w2.setCells (w.heap.size + 1 + 1) 0 vs).alloc obj).heap[w.heap.size + 1 + 1]? = some (.cells vs.toArray 31) := by
  obtain ⟨a1, a2, a3⟩ := aask_inv (E := E) (way := way) (o := o) (down := down) h.l1 h.l2
  rw [← hr] at a1 a2 a3
  obtain ⟨s1, _⟩ := setCells_whole hT vs hvs
  refine ⟨?_, (Below.heap_alloc _ _ _ (Array.getElem?_eq_some_iff.1 s1).1).trans s1⟩
  refine h.step (w2 := w2) hb0 hs0 hpd hk (Foot.more hf) hb ?_ hos (.inl rfl) f2 a1 a2 (h.ok.mono (by omega)) ?_ ((keeps_setCells (Keeps.refl _ _) (fun _ => by omega) _ _).alloc _) hn0
  · exact Sl.keep (h.fs.below hb0) (hk.trans (keeps_of_below hb (Nat.le_refl _) _)) (fun b hb => h.dis b (.inl hb))
  · intro p hp
    rcases a3 p hp with h1 | ⟨h1, rfl⟩
    · exact (h.oo p h1).mono (by omega)
    · exact ho h1

/-- what step hands back -/
theorem step_res {W : World} {tm : Array Value} {B : Nat} {v0 v1 v2 v3 v4 : Value} (hT : W.heap[B]? = some (.cells #[v0, v1, v2, v3, v4] 31)) (h6 : tm[6]?.getD undef = .pointer (some ⟨B, 0, none⟩)) (h7 : tm[7]?.getD undef = .bool true) :
    (results Try.f7 tm).run Try.prog W = .ok (.tuple #[.agg #[v0, v1, v2, v3, v4], .bool true]) W := by
  obtain ⟨a3, z3⟩ := block_cells hT
  have r0 := a3 0; have r1 := a3 1; have r2 := a3 2; have r3 := a3 3; have r4 := a3 4
  simp only [List.getElem?_toArray, List.getElem?_cons_zero, List.getElem?_cons_succ] at r0 r1 r2 r3 r4
  clear a3
  simp only [results]
  simp [Try.results7, go_sem, h6, h7, r0, r1, r2, r3, r4]

end Go.Proofs.Ytjejifbpidgnmaa
