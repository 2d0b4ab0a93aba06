/-
  The walks of the program's disk, first part: size, may, up, stops.
-/
import Derived.Test.YtjejifbpidgnmaaDMap
namespace Go.Proofs.Ytjejifbpidgnmaa
open Go.RowKit Go.Maps

/-- bytes of the files that are still to come -/
def lsum (left : Lit → Bool) : List AFile → Nat
  | [] => 0
  | f :: fs => (if left (klit f.1) = true then f.2.length else 0) + lsum left fs

theorem lsum_none {left : Lit → Bool} (h : ∀ k, left k = false) : ∀ fs : List AFile, lsum left fs = 0
  | [] => rfl
  | f :: fs => by simp [lsum, h, lsum_none h fs]

theorem lsum_congr {left left' : Lit → Bool} : ∀ {fs : List AFile}, (∀ f ∈ fs, left (klit f.1) = left' (klit f.1)) → lsum left fs = lsum left' fs
  | [], _ => rfl
  | f :: fs, h => by simp only [lsum, h f (by simp), lsum_congr (fs := fs) (fun g hg => h g (by simp [hg]))]

theorem lsum_step {left : Lit → Bool} {f : AFile} : ∀ {fs : List AFile}, fs.Pairwise (fun a b => a.1 ≠ b.1) → f ∈ fs → left (klit f.1) = true →
    lsum left fs = f.2.length + lsum (fun z => left z && !z.sameKey (klit f.1)) fs
  | g :: fs, hp, hf, hl => by
    obtain ⟨h1, h2⟩ := List.pairwise_cons.1 hp
    rcases List.mem_cons.1 hf with rfl | hf
    · have e2 : lsum (fun z => left z && !z.sameKey (klit f.1)) fs = lsum left fs :=
        lsum_congr (fun x hx => by rw [sameKey_klit, decide_eq_false (fun e => h1 x hx e.symm)]; simp)
      simp only [lsum, hl, e2, sameKey_klit]; simp
    · have hne : g.1 ≠ f.1 := h1 f hf
      have ih := lsum_step (left := left) h2 hf hl
      simp only [lsum, ih, sameKey_klit, decide_eq_false hne]
      simp; omega

theorem lsum_le (left : Lit → Bool) : ∀ fs : List AFile, lsum left fs ≤ asize fs
  | [] => Nat.le_refl _
  | f :: fs => by
    have ih := lsum_le left fs
    simp only [lsum, asize, List.map_cons, List.sum_cons] at ih ⊢
    split <;> omega

theorem lsum_all {left : Lit → Bool} : ∀ {fs : List AFile}, (∀ f ∈ fs, left (klit f.1) = true) → lsum left fs = asize fs
  | [], _ => rfl
  | f :: fs, h => by
    have ih := lsum_all (left := left) (fs := fs) (fun g hg => h g (by simp [hg]))
    simp only [asize, List.map_cons, List.sum_cons] at ih ⊢
    simp only [lsum, h f (by simp), if_true, ih]

theorem fa2_apart {w : World} {fs : List AFile} {es : List (Lit × DataW Value)} (h : Fa2 (Ent w) fs es) (hp : es.Pairwise (fun p q => p.1 ≠ q.1)) : fs.Pairwise (fun a b => a.1 ≠ b.1) := by
  induction h with
  | nil => exact .nil
  | cons h1 h2 ih =>
    obtain ⟨hp1, hp2⟩ := List.pairwise_cons.1 hp
    refine List.pairwise_cons.2 ⟨fun g hg => ?_, ih hp2⟩
    obtain ⟨q, hq, he⟩ := h2.mem_left g hg
    intro e
    have := hp1 q hq
    rw [h1.1, he.1, e] at this
    exact this rfl

theorem MapFs.apart {w : World} {m n : Nat} {fs : List AFile} (h : MapFs w m n fs) : fs.Pairwise (fun a b => a.1 ≠ b.1) := by
  obtain ⟨es, h1, h2⟩ := h
  obtain ⟨es', he, hp, _⟩ := h1.entries lawStr
  cases he
  exact fa2_apart h2 hp

theorem lsum_has {w : World} {fs : List AFile} {es : List (Lit × DataW Value)} (h : Fa2 (Ent w) fs es) : lsum (Maps.has (.map es)) fs = asize fs :=
  lsum_all (fun f hf => by
    obtain ⟨p, hp, he⟩ := h.mem_left f hf
    rw [Maps.has_eq, List.any_eq_true]
    exact ⟨p, hp, by rw [he.1, sameKey_klit]; simp⟩)

theorem asize_mem {fs : List AFile} {f : AFile} (h : f ∈ fs) : f.2.length ≤ asize fs := by
  induction fs with
  | nil => cases h
  | cons g fs ih =>
    simp only [asize, List.map_cons, List.sum_cons] at ih ⊢
    rcases List.mem_cons.1 h with rfl | h
    · omega
    · have := ih h; omega

set_option maxRecDepth 100000 in
set_option maxHeartbeats 600000 in
theorem size_any (m n : Nat) (fs : List AFile) (w : World) (h : MapFs w m n fs) (hb : asize fs ≤ 1000000000000000000) :
    Calls Try.prog 25 #[.map (some m)] w fun e w' => e = .returned (.int .i64 (asize fs)) ∧ Below w.heap.size w w' := by
  have hap := h.apart
  obtain ⟨es, hown, hfa⟩ := h
  have HFA := Lib.hid hfa; have HAP := Lib.hid hap; have HB := Lib.hid hb; clear hfa hap hb
  go_enter Try.func25, Try.ntmps25
  go_wp2_with (first
    | (at_range; refine wpList_range_own _ rfl _ 49 rfl 9 34 lawStr Try.underlying49 RS m n _ rfl hown ?_; intro w0 hrg0 hg0 hs0)
    | fail)
  go_frame
  go_loopw [3] (fun s wr => ∃ (left : Lit → Bool) (cnt tot : Nat), wr.ranges Try.prog 9 RS m w.heap.size n (.map es) left cnt ∧ Below w.heap.size w wr ∧ s = .int .i64 tot ∧ tot + lsum left fs = asize fs)
    (fun _ wr => wr.rangeLeft m w.heap.size)
  case atStart => exact ⟨_, _, 0, hrg0, Keeps.below (Keeps.ofGrown hg0 (fun _ h => by cases h)) (Nat.le_refl _) (fun _ _ h => h), rfl, by rw [lsum_has HFA.out]; simp⟩
  case round =>
    obtain ⟨left, cnt, tot, hrg, hbw, rfl, htot⟩ := hrel
    have HBW := Lib.hid hbw; have HT := Lib.hid htot; clear hbw htot
    go_wp2_with (at_next; refine halt1 ?_)
    refine on1 (wpList_next_ranges _ rfl _ rfl 9 lawStr RS encStr (fun p : Option Addr × Nat × Nat => .slice p.1 p.2.1 p.2.2) (fun key kl hkey => by obtain ⟨x, hx, _⟩ := Maps.keyOf_str Try.underlying9 hkey; exact ⟨x, hx⟩)
          (fun v y hv => by obtain ⟨a, k, c, rfl, _⟩ := RS_inv hv; exact ⟨(a, k, c), rfl⟩) m w.heap.size n _ left cnt rfl hrg ?_ ?_)
    · intro _ hl0
      have ht := HT.out
      rw [lsum_none hl0, Nat.add_zero] at ht
      subst ht
      go_wp2_with fail
      go_ret
      exact ⟨rfl, HBW.out⟩
    · rintro x ⟨va, vn, vc⟩ kl y w1 cnt1 hkey hlx hv hat hrg1 hlt hg1 hs1 hen
      obtain rfl : y = (.held (.slice va vn vc), []) := by simpa [RS] using hv.symm
      obtain ⟨l, hl1, rfl, _⟩ := Maps.keyOf_str Try.underlying9 hkey
      have hkl : Lit.string l = klit ⟨l.toArray⟩ := by simp [klit]
      obtain ⟨f, hf, hfn, hfl⟩ : ∃ f ∈ fs, klit f.1 = Lit.string l ∧ f.2.length = vn := by
        rw [hkl] at hat
        rcases fa2_find HFA.out ⟨l.toArray⟩ with ⟨_, _, h3⟩ | ⟨f, v, h1, _, h3, h4⟩
        · have := hat .nil; rw [h3] at this; cases this
        · have e := hat .nil
          rw [h3] at e
          cases e
          obtain ⟨a, c, e, _⟩ := h4.shape
          injection e with e1 e2 e3
          exact ⟨f, (afind_mem h1).1, by rw [(afind_mem h1).2, hkl], e2.symm⟩
      have hstep := lsum_step (left := left) HAP.out hf (by rw [hfn]; exact hlx)
      rw [hfn] at hstep
      have hle := HT.out
      have hsum : tot + vn ≤ 9223372036854775807 := by have := HB.out; omega
      have HSTEP := Lib.hid hstep; have HFL := Lib.hid hfl; have HG := Lib.hid hg1; have HS1 := Lib.hid hs1; have HRG := Lib.hid hrg1; have HRG0 := Lib.hid hrg
      clear hle hstep hfl hg1 hs1 hat hkl hf hfn hkey hv hl1 hrg1 hrg
      go_wp2_with fail
      go_roundw
      case rel =>
        refine ⟨_, cnt1, tot + vn, HRG.out, ?_, by go_num, ?_⟩
        · exact HBW.out.grown HG.out HBW.out.size (fun k hk => by cases hk; exact Nat.le_refl _)
        · have h1 := HT.out; have h2 := HSTEP.out; have h3 := HFL.out; omega
      case measure => rw [HRG.out.left_eq, HRG0.out.left_eq]; exact hlt

set_option maxHeartbeats 400000 in
theorem may_any (s : ByteArray) (w : World) :
    Calls Try.prog 24 #[.string s] w fun e w' => e = .returned (.bool (decide (1 ≤ s.size ∧ s.size ≤ 32))) ∧ w = w' := by
  by_cases h1 : 1 ≤ s.size <;> by_cases h2 : s.size ≤ 32
  all_goals
    go_enter Try.func24, Try.ntmps24
    go_wp2
    all_goals
      go_ret
      refine ⟨?_, rfl⟩
      first
        | rfl
        | (show Ending.returned (.bool _) = Ending.returned (.bool _)
           congr 2
           rw [Bool.eq_iff_iff, decide_eq_true_iff, decide_eq_true_iff]
           omega)

/-- the block of a disk -/
abbrev dcells (room : Int) (ms mv : Nat) (uv : Value) (left : Int) (down : Bool) : Array Value := #[.int .i64 room, .map (some ms), .map (some mv), uv, .int .i64 left, .bool down]

theorem up_any (d : Nat) (room left : Int) (ms mv : Nat) (uv : Value) (down : Bool) (w : World) (h : w.heap[d]? = some (.cells (dcells room ms mv uv left down) 52)) :
    Calls Try.prog 23 #[.pointer (some ⟨d, 0, none⟩)] w fun e w' => e = .returned (.int .i64 (if down then 20 else 0)) ∧ w = w' := by
  obtain ⟨a1, z1⟩ := block_cells h
  have p5 := a1 5
  simp only [List.getElem?_toArray, List.getElem?_cons_zero, List.getElem?_cons_succ] at p5
  clear a1 z1 h
  cases down
  all_goals
    go_enter Try.func23, Try.ntmps23
    go_wp2
    go_ret
    exact ⟨rfl, rfl⟩

set_option maxRecDepth 100000 in
theorem stops_any (d : Nat) (room left : Int) (ms mv : Nat) (uv : Value) (w : World) (h : w.heap[d]? = some (.cells (dcells room ms mv uv left false) 52)) (hl : -1 ≤ left) (hl2 : left ≤ 9223372036854775807) :
    Calls Try.prog 30 #[.pointer (some ⟨d, 0, none⟩)] w fun e w' => e = .returned (.bool (decide (left = 0))) ∧
      w'.heap[d]? = some (.cells (dcells room ms mv uv (if 0 < left then left - 1 else left) (decide (left = 0))) 52) ∧ Keeps (· = d) w w' := by
  obtain ⟨a1, z1⟩ := block_cells h
  have p4 := a1 4; have p5 := a1 5
  simp only [List.getElem?_toArray, List.getElem?_cons_zero, List.getElem?_cons_succ] at p4 p5
  have H := Lib.hid h
  clear a1 h
  by_cases h0 : left = 0
  · subst h0
    go_enter Try.func30, Try.ntmps30
    go_wp2
    go_ret
    exact ⟨rfl, heap_setCell_at H.out 5 (.bool true), keeps_cell _ _ _ _⟩
  · have e0 : (left == 0) = false := by simpa using h0
    have HD := Lib.hid (decide_eq_false h0)
    by_cases h1 : 0 < left
    · have HI := Lib.hid (if_pos h1 : (if 0 < left then left - 1 else left) = left - 1)
      go_enter Try.func30, Try.ntmps30
      go_wp2
      go_ret
      try rw [HD.out]
      try rw [HI.out]
      exact ⟨rfl, heap_setCell_at H.out 4 (.int .i64 (left - 1)), keeps_cell _ _ _ _⟩
    · have HI := Lib.hid (if_neg h1 : (if 0 < left then left - 1 else left) = left)
      go_enter Try.func30, Try.ntmps30
      go_wp2
      go_ret
      try rw [HD.out]
      try rw [HI.out]
      exact ⟨rfl, H.out, Keeps.refl _ _⟩

end Go.Proofs.Ytjejifbpidgnmaa
