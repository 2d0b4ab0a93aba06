/-
  The walks of the program's disk: Sync and New.
-/
import Derived.Test.YtjejifbpidgnmaaDP7
import Derived.Test.YtjejifbpidgnmaaDRef9
import Derived.Test.YtjejifbpidgnmaaLay
namespace Go.Proofs.Ytjejifbpidgnmaa
open Go.RowKit Go.Maps

theorem CloneMap {w : World} {m n : Nat} {fs : List AFile} (h : MapFs w m n fs) :
    Calls Try.prog 29 #[.map (some m)] w fun e w' => e = .returned (.map (some w.heap.size)) ∧ MapFs w' w.heap.size n fs ∧ Below w.heap.size w w' := by
  obtain ⟨es, h1, h2⟩ := h
  have hc := AnyW.maps_Clone_owns Try.lClone 9 RS m n (.map es) w h1
  change Calls Try.prog 29 _ _ _ at hc
  refine hc.mono ?_
  rintro e w' ⟨rfl, g1, _, g3⟩
  exact ⟨rfl, ⟨es, g1, h2.mono fun _ _ e => by obtain ⟨a, v, b, c⟩ := e; exact ⟨a, v, b, c.below g3⟩⟩, g3⟩

theorem World.sz_setCell (w : World) (a : Addr) (v : Value) : (w.setCell a v).heap.size = w.heap.size := by simp [World.setCell]

theorem PD.fresh {w : World} {d ms mv : Nat} {room left : Int} {down : Bool} {sure : List AFile} {K n m : Nat} (hd : w.heap[d]? = some (.cells (dcells room ms mv (.slice none 0 0) left down) 52)) (hs : MapFs w ms n sure) (hv : MapFs w mv m sure) (hne : ms ≠ mv)
    (hK : sure.length ≤ K) (ok : OkF 1000000000000 sure) : PD w d ms mv (.slice none 0 0) room left down sure [] K :=
  ⟨hd, hs.tight, hv.tight, hne, ⟨[], rfl, Own.nil _ _ _, by simp⟩, fun b hb => by simp [Value.ownBlock] at hb, by simpa using hK, ok, by simp⟩

theorem MapFs.notCells {w : World} {m n : Nat} {fs : List AFile} (h : MapFs w m n fs) {c : Array Value} {e : TypeId} {fr : Nat × Nat} {d : Nat} (hd : w.heap[d]? = some (.cells c e fr)) : ¬ m = d := fun e' => by
  subst e'; obtain ⟨_, ⟨_, _, hb, _⟩, _⟩ := h; rw [hd] at hb; cases hb

theorem sync_end {w1 w2 : World} {d ms mv : Nat} {uv : Value} {room left : Int} {down : Bool} {sure : List AFile} {way : List AOp} {K n : Nat} (h : PD w1 d ms mv uv room left down sure way K) (hc : MapFs w2 w1.heap.size n (aseen sure way)) (hb : Below w1.heap.size w1 w2) :
    PD ((w2.setCell ⟨d, 1, none⟩ (.map (some w1.heap.size))).setCell ⟨d, 3, none⟩ (.slice none 0 0)) d w1.heap.size mv (.slice none 0 0) room left down (aseen sure way) [] K ∧
      Keeps (· = d) w1 ((w2.setCell ⟨d, 1, none⟩ (.map (some w1.heap.size))).setCell ⟨d, 3, none⟩ (.slice none 0 0)) := by
  have h2 := h.below hb
  have hk : Keeps (· = d) w2 ((w2.setCell ⟨d, 1, none⟩ (.map (some w1.heap.size))).setCell ⟨d, 3, none⟩ (.slice none 0 0)) := (keeps_cell w2 d 1 _).trans (keeps_cell _ d 3 _)
  have hn : NoBytes w2 d := noBytes_cells h2.hd (by decide)
  have hS : ∀ b, b = d → NoBytes w2 b := fun b e => by subst e; exact hn
  refine ⟨PD.fresh (heap_setCell_at (heap_setCell_at h2.hd 1 _) 3 _) (hc.keep hk (hc.notCells h2.hd) hS) (h2.hv.keep hk (h2.hv.notCells h2.hd) hS) ?_ ?_ (h.ok.seen (fun o ho => (h.oo o ho).1)), (keeps_of_below hb (Nat.le_refl _) _).trans hk⟩
  · have := h.hv.lt; omega
  · have h1 := h.hK; have h3 := length_aseen way sure; omega

/-- what Sync leaves -/
def SyncPost (d ms mv : Nat) (uv : Value) (room left : Int) (down : Bool) (sure : List AFile) (way : List AOp) (K : Nat) (w : World) (e : Ending) (w' : World) : Prop :=
  ∃ ms' uv', e = .returned (.int .i64 (async sure way left down).2.2.2.2) ∧ PD w' d ms' mv uv' room (async sure way left down).2.2.1 (async sure way left down).2.2.2.1 (async sure way left down).1 (async sure way left down).2.1 K ∧ Keeps (Foot d ms mv uv) w w' ∧
    (ms' = ms ∨ w.heap.size ≤ ms') ∧ (∀ b, uv'.ownBlock = some b → uv.ownBlock = some b)

set_option maxRecDepth 100000 in
set_option maxHeartbeats 600000 in
theorem Sync_any (d ms mv : Nat) (uv : Value) (room left : Int) (down : Bool) (sure : List AFile) (way : List AOp) (K : Nat) (w : World) (h : PD w d ms mv uv room left down sure way K) (hl : -1 ≤ left) (hl2 : left ≤ 9223372036854775807) :
    Calls Try.prog 13 #[.pointer (some ⟨d, 0, none⟩)] w (SyncPost d ms mv uv room left down sure way K w) := by
  have H := Lib.hid h; clear h
  cases down
  case true =>
    go_enter Try.func13, Try.ntmps13
    go_wp2_with fail
    refine (up_any _ _ _ _ _ _ _ _ H.out.hd).mono ?_
    rintro e w1 ⟨rfl, rfl⟩
    go_wp2_with fail
    go_ret
    exact ⟨ms, uv, rfl, H.out, Keeps.refl _ _, .inl rfl, fun b hb => hb⟩
  case false =>
    by_cases hl0 : left = 0
    · subst hl0
      have hst := stops_any d room 0 ms mv uv w H.out.hd (by omega) (by omega)
      simp only [Int.lt_irrefl, if_false, decide_true] at hst
      have HST := Lib.hid hst; clear hst
      go_enter Try.func13, Try.ntmps13
      go_wp2_with fail
      refine (up_any _ _ _ _ _ _ _ _ H.out.hd).mono ?_
      rintro e w1 ⟨rfl, rfl⟩
      go_wp2_with fail
      refine HST.out.mono ?_
      rintro e w1 ⟨rfl, hg1, hk1⟩
      have HG1 := Lib.hid hg1; have HK1 := Lib.hid hk1; clear hg1 hk1
      go_wp2_with fail
      go_ret
      refine ⟨ms, uv, rfl, ?_, HK1.out.mono (fun i _ hi => .inl hi), .inl rfl, fun b hb => hb⟩
      simp only [async, Bool.false_eq_true, if_false, if_true]
      exact H.out.turn HK1.out HG1.out
    · have hld : decide (left = 0) = false := decide_eq_false hl0
      have hst := stops_any d room left ms mv uv w H.out.hd hl hl2
      obtain ⟨left', hleft⟩ : ∃ l, l = (if 0 < left then left - 1 else left) := ⟨_, rfl⟩
      rw [← hleft, hld] at hst
      have HST := Lib.hid hst; have HL := Lib.hid hleft; have HL0 := Lib.hid hl0; clear hst hleft hld hl0
      go_enter Try.func13, Try.ntmps13
      go_wp2_with fail
      refine (up_any _ _ _ _ _ _ _ _ H.out.hd).mono ?_
      rintro e w1 ⟨rfl, rfl⟩
      go_wp2_with fail
      refine HST.out.mono ?_
      rintro e w1 ⟨rfl, hg1, hk1⟩
      have hpd1 := H.out.turn hk1 hg1
      obtain ⟨a1, z1⟩ := block_cells hg1
      have p2 := a1 2
      simp only [List.getElem?_toArray, List.getElem?_cons_zero, List.getElem?_cons_succ] at p2
      have HP1 := Lib.hid hpd1; have HK1 := Lib.hid hk1
      clear hpd1 hk1 hg1 a1 z1
      go_wp2_with fail
      refine (CloneMap HP1.out.hv).mono ?_
      rintro e w2 ⟨rfl, hm2, hb2⟩
      obtain ⟨hpd3, hk3⟩ := sync_end HP1.out hm2 hb2
      obtain ⟨a1, z1⟩ := block_cells (HP1.out.below hb2).hd
      have p1 := a1 1; have p3 := a1 3
      simp only [List.getElem?_toArray, List.getElem?_cons_zero, List.getElem?_cons_succ] at p1 p3
      have HP3 := Lib.hid hpd3; have HK3 := Lib.hid hk3
      have HSZ : Hid (w.heap.size ≤ w1.heap.size) := Lib.hid HK1.out.size
      clear hpd3 hk3 hm2 hb2 a1
      go_wp2_with fail
      go_ret
      refine ⟨w1.heap.size, .slice none 0 0, ?_, ?_, (HK1.out.trans HK3.out).mono (fun i _ hi => .inl hi), .inr HSZ.out, fun b hb => by simp [Value.ownBlock] at hb⟩
      · simp only [async, Bool.false_eq_true, if_false, if_neg HL0.out]; rfl
      · simp only [async, Bool.false_eq_true, if_false, if_neg HL0.out, ← HL.out]
        exact HP3.out

def NewPost (room : Int) (w : World) (e : Ending) (w' : World) : Prop :=
  (room < 0 ∨ 16777216 < room → e = .returned (.tuple #[.pointer none, .int .i64 1])) ∧ (¬ (room < 0 ∨ 16777216 < room) → ∃ d ms mv, e = .returned (.tuple #[.pointer (some ⟨d, 0, none⟩), .int .i64 0]) ∧ PD w' d ms mv (.slice none 0 0) room (-1) false [] [] 0 ∧ w.heap.size ≤ d ∧ w.heap.size ≤ ms ∧ w.heap.size ≤ mv) ∧ Below w.heap.size w w'

theorem MapFs.fresh {w : World} {m : Nat} (h : w.heap[m]? = some (.map #[] 0)) : MapFs w m 0 [] :=
  ⟨[], ⟨#[], 0, h, ⟨by simp, MapKept.stamped_empty 0, by simp⟩, Nat.le_refl _, rfl⟩, .nil⟩

set_option maxRecDepth 100000 in
theorem New_any (room : Int) (w : World) : Calls Try.prog 5 #[.int .i64 room] w (NewPost room w) := by
  have hmm := @run_makeMap Try.prog
  by_cases h1 : room < 0 ∨ 16777216 < room
  · have HH := Lib.hid h1
    by_cases h0 : room < 0
    · clear h1
      go_enter Try.func5, Try.ntmps5
      go_wp2_with fail
      go_ret2
      exact ⟨fun _ => rfl, fun h => absurd HH.out h, Below.refl _ _⟩
    · have h2 : 16777216 < room := by omega
      clear h1
      go_enter Try.func5, Try.ntmps5
      go_wp2_with fail
      go_ret2
      exact ⟨fun _ => rfl, fun h => absurd HH.out h, Below.refl _ _⟩
  · have HH := Lib.hid h1
    have h0 : ¬ room < 0 := by omega
    have h2 : ¬ 16777216 < room := by omega
    clear h1
    go_enter Try.func5, Try.ntmps5
    go_wp2_with fail
    go_ret2
    obtain ⟨n1, n2, n3⟩ := heap_new3 w (.map #[] 0) (.map #[] 0) (.cells (dcells room w.heap.size (w.heap.size + 1) (.slice none 0 0) (-1) false) 52)
    refine ⟨fun h => absurd h HH.out, fun _ => ⟨w.heap.size + 1 + 1, w.heap.size, w.heap.size + 1, rfl, ?_, by omega, by omega, by omega⟩, ?_⟩
    · exact PD.fresh n3 (MapFs.fresh n1) (MapFs.fresh n2) (by omega) (by simp) (fun f hf => by simp at hf)
    · exact (((Below.refl _ _).alloc (Nat.le_refl _) _).alloc (by simp) _).alloc (by simp; omega) _

end Go.Proofs.Ytjejifbpidgnmaa
