/-
  Memory words of my own, over any program: a readable slice (Sl), a slice of the call's own (Own), what a call keeps (Keeps); append, copy and make by them.
-/
import Derived.WalkKit
import Derived.WalkSpells
import Derived.WalkLawsBesides
import Derived.Lib.Hide
import Derived.Deep.AppendSrc
namespace Go.Proofs.Ytjejifbpidgnmaa
open Go.RowKit

/-- Of the blocks that were there, only those of S may have turned; the streams are as they were. -/
structure Keeps (S : Nat → Prop) (w w' : World) : Prop where
  os : w'.os = w.os
  tape : w'.tape = w.tape
  output : w'.output = w.output
  size : w.heap.size ≤ w'.heap.size
  block : ∀ k, k < w.heap.size → ¬ S k → w'.heap[k]? = w.heap[k]?

section
variable {S T : Nat → Prop} {a b c w w' : World}
theorem Keeps.refl (S : Nat → Prop) (w : World) : Keeps S w w := ⟨rfl, rfl, rfl, Nat.le_refl _, fun _ _ _ => rfl⟩
theorem Keeps.trans (h : Keeps S a b) (k : Keeps S b c) : Keeps S a c :=
  ⟨k.os.trans h.os, k.tape.trans h.tape, k.output.trans h.output, Nat.le_trans h.size k.size,
   fun i hi hn => (k.block i (Nat.lt_of_lt_of_le hi h.size) hn).trans (h.block i hi hn)⟩
/-- Behind a first step, what may turn besides is what is new. -/
theorem Keeps.trans' (h : Keeps S a b) (k : Keeps T b c) (hT : ∀ i, i < a.heap.size → T i → S i) : Keeps S a c :=
  ⟨k.os.trans h.os, k.tape.trans h.tape, k.output.trans h.output, Nat.le_trans h.size k.size,
   fun i hi hn => (k.block i (Nat.lt_of_lt_of_le hi h.size) (fun t => hn (hT i hi t))).trans (h.block i hi hn)⟩
theorem Keeps.mono (h : Keeps S a b) (hS : ∀ i, i < a.heap.size → S i → T i) : Keeps T a b :=
  ⟨h.os, h.tape, h.output, h.size, fun i hi hn => h.block i hi (fun s => hn (hS i hi s))⟩
theorem keeps_of_below {B : Nat} (h : Below B a b) (hB : a.heap.size ≤ B) (S : Nat → Prop) : Keeps S a b :=
  ⟨h.os, h.tape, h.output, h.size, fun i hi _ => h.block i (Nat.lt_of_lt_of_le hi hB)⟩
theorem Keeps.below {B : Nat} (h : Keeps S a b) (hB : B ≤ a.heap.size) (hS : ∀ i, i < B → ¬ S i) : Below B a b :=
  ⟨h.os, h.tape, h.output, h.size, fun i hi => h.block i (Nat.lt_of_lt_of_le hi hB) (hS i hi)⟩
theorem Keeps.ofGrown {row : Option Nat} (h : a.grownBy b row) (hr : ∀ k, row = some k → S k) : Keeps S a b :=
  ⟨h.os, h.tape, h.output, h.size, fun i hi hn => h.block i hi (fun e => hn (hr i e.symm))⟩
theorem Keeps.alloc (h : Keeps S a b) (o : Obj) : Keeps S a (b.alloc o) :=
  h.trans ⟨rfl, rfl, rfl, by simp, fun k hk _ => Below.heap_alloc _ _ _ hk⟩
theorem Keeps.setCell (h : Keeps S a b) {p : Addr} (hp : p.block < a.heap.size → S p.block) (u : Value) : Keeps S a (b.setCell p u) :=
  ⟨h.os, h.tape, h.output, by simpa [World.setCell] using h.size, fun k hk hn => by
    rw [Below.heap_setCell _ _ _ _ (fun e => hn (by rw [e]; exact hp (by rw [← e]; exact hk)))]; exact h.block k hk hn⟩
theorem Keeps.drew (h : Keeps S a b) : Keeps S a b.drew := ⟨h.os, h.tape, h.output, h.size, h.block⟩
theorem Keeps.cell (h : Keeps S w w') {p : Addr} (hp : p.block < w.heap.size) (hs : ¬ S p.block) : w'.cell? p = w.cell? p := World.cell?_of_block (w := w) (h.block p.block hp hs)
theorem Keeps.frozen (h : Keeps S w w') {p : Addr} (hp : p.block < w.heap.size) (hs : ¬ S p.block) : w'.frozen? p = w.frozen? p := World.frozen?_of_block (w := w) (h.block p.block hp hs)
end

/-- The cells cs lie in block b from off on. -/
def At (w : World) (b off : Nat) (cs : List Value) : Prop := ∀ j u, cs[j]? = some u → w.cell? ⟨b, off + j, none⟩ = some u

theorem At.keep {w w' : World} {b off : Nat} {cs : List Value} (h : At w b off cs) (hb : w'.heap[b]? = w.heap[b]?) : At w' b off cs :=
  fun j u hj => (World.cell?_of_block (w := w) hb).trans (h j u hj)

theorem addr_add (b o j : Nat) : (⟨b, o, none⟩ : Addr).add j = ⟨b, o + j, none⟩ := by unfold Addr.add; split <;> simp_all

/-- A slice that can be read: n elements of 'size' cells each: cs. -/
def Sl (w : World) (v : Value) (n size : Nat) (cs : List Value) : Prop :=
  cs.length = n * size ∧ ∃ a cap, v = .slice a n cap ∧ n ≤ cap ∧ cap ≤ maxLen ∧
    ((a = none ∧ n = 0 ∧ cap = 0) ∨ ∃ b off, a = some ⟨b, off, none⟩ ∧ b < w.heap.size ∧ At w b off cs)

theorem Sl.nil (w : World) (size : Nat) : Sl w (.slice none 0 0) 0 size [] := ⟨by simp, none, 0, rfl, Nat.le_refl _, by simp [maxLen], .inl ⟨rfl, rfl, rfl⟩⟩

theorem Sl.keep {S : Nat → Prop} {w w' : World} {v : Value} {n size : Nat} {cs : List Value} (h : Sl w v n size cs) (k : Keeps S w w') (hs : ∀ b, v.ownBlock = some b → ¬ S b) : Sl w' v n size cs := by
  obtain ⟨hl, a, cap, rfl, h1, h2, h3⟩ := h
  refine ⟨hl, a, cap, rfl, h1, h2, ?_⟩
  rcases h3 with h3 | ⟨b, off, rfl, hb, hat⟩
  · exact .inl h3
  · exact .inr ⟨b, off, rfl, Nat.lt_of_lt_of_le hb k.size, hat.keep (k.block b hb (hs b rfl))⟩

theorem Sl.below {w w' : World} {v : Value} {n size : Nat} {cs : List Value} (h : Sl w v n size cs) (k : Below w.heap.size w w') : Sl w' v n size cs :=
  h.keep (keeps_of_below k (Nat.le_refl _) (fun _ => False)) (fun _ _ => id)

theorem Sl.le {w : World} {v : Value} {n size : Nat} {cs : List Value} (h : Sl w v n size cs) : n ≤ maxLen := by
  obtain ⟨_, a, cap, rfl, h1, h2, _⟩ := h; exact Nat.le_trans h1 h2

/-- A slice's own block is there. -/
theorem Sl.lt {w : World} {v : Value} {n size : Nat} {cs : List Value} (h : Sl w v n size cs) {b : Nat} (hb : v.ownBlock = some b) : b < w.heap.size := by
  obtain ⟨hl, a, cap, rfl, h1, h2, h3⟩ := h
  rcases h3 with ⟨rfl, _⟩ | ⟨b', off, rfl, hb', _⟩
  · simp [Value.ownBlock] at hb
  · simp [Value.ownBlock] at hb; omega

theorem Sl.src {P : Program} {w : World} {v : Value} {n size : Nat} {cs : List Value} (h : Sl w v n size cs) {tx e' : TypeId} (hk : P.underlying tx = some (.slice e')) (h1 : ∀ u ∈ cs, u.oneCell' = true) : Src P size tx v n cs w := by
  obtain ⟨hl, a, cap, rfl, _, _, h3⟩ := h
  rcases h3 with ⟨rfl, rfl, rfl⟩ | ⟨b, off, rfl, hb, hat⟩
  · obtain rfl : cs = [] := List.eq_nil_of_length_eq_zero (by simpa using hl)
    exact Src.ofNil w hk 0
  · exact Src.ofSlice w hk _ n cap cs hl (fun j u hj => by rw [addr_add]; exact hat j u hj) h1

/-- A slice whose row is the call's own (S says which blocks are): it can be written, up to its capacity. -/
def Own (S : Nat → Prop) (w : World) (v : Value) (n size : Nat) (xs : List Value) : Prop :=
  xs.length = n * size ∧ ∃ a cap, v = .slice a n cap ∧ n ≤ cap ∧ cap ≤ maxLen ∧
    ((a = none ∧ n = 0 ∧ cap = 0) ∨ ∃ b off, a = some ⟨b, off, none⟩ ∧ S b ∧ b < w.heap.size ∧ At w b off xs ∧
      ∀ j, j < cap * size → (w.cell? ⟨b, off + j, none⟩).isSome = true ∧ w.frozen? ⟨b, off + j, none⟩ = false)

theorem Own.nil (S : Nat → Prop) (w : World) (size : Nat) : Own S w (.slice none 0 0) 0 size [] := ⟨by simp, none, 0, rfl, Nat.le_refl _, by simp [maxLen], .inl ⟨rfl, rfl, rfl⟩⟩

section
variable {S T : Nat → Prop} {w w' : World} {v : Value} {n size : Nat} {xs : List Value}

theorem Own.sl (h : Own S w v n size xs) : Sl w v n size xs := by
  obtain ⟨hl, a, cap, rfl, h1, h2, h3⟩ := h
  refine ⟨hl, a, cap, rfl, h1, h2, ?_⟩
  rcases h3 with h3 | ⟨b, off, rfl, _, hb, hat, _⟩
  · exact .inl h3
  · exact .inr ⟨b, off, rfl, hb, hat⟩

theorem Own.mono (h : Own S w v n size xs) (hT : ∀ b, b < w.heap.size → S b → T b) : Own T w v n size xs := by
  obtain ⟨hl, a, cap, rfl, h1, h2, h3⟩ := h
  refine ⟨hl, a, cap, rfl, h1, h2, ?_⟩
  rcases h3 with h3 | ⟨b, off, rfl, hs, hb, hat, hf⟩
  · exact .inl h3
  · exact .inr ⟨b, off, rfl, hT b hb hs, hb, hat, hf⟩

theorem Own.keep (h : Own S w v n size xs) (k : Keeps T w w') (hs : ∀ b, v.ownBlock = some b → ¬ T b) : Own S w' v n size xs := by
  obtain ⟨hl, a, cap, rfl, h1, h2, h3⟩ := h
  refine ⟨hl, a, cap, rfl, h1, h2, ?_⟩
  rcases h3 with h3 | ⟨b, off, rfl, hs', hb, hat, hf⟩
  · exact .inl h3
  · have hh := k.block b hb (hs b rfl)
    exact .inr ⟨b, off, rfl, hs', Nat.lt_of_lt_of_le hb k.size, hat.keep hh, fun j hj => by
      rw [World.cell?_of_block (w := w) (a := ⟨b, off + j, none⟩) hh, World.frozen?_of_block (w := w) (a := ⟨b, off + j, none⟩) hh]; exact hf j hj⟩

theorem Own.below (h : Own S w v n size xs) (k : Below w.heap.size w w') : Own S w' v n size xs :=
  h.keep (keeps_of_below k (Nat.le_refl _) (fun _ => False)) (fun _ _ => id)

theorem Own.sure (h : Own S w v n size xs) {b : Nat} (hb : v.ownBlock = some b) : S b := by
  obtain ⟨hl, a, cap, rfl, h1, h2, h3⟩ := h
  rcases h3 with ⟨rfl, _⟩ | ⟨b', off, rfl, hs, _⟩
  · simp [Value.ownBlock] at hb
  · simp [Value.ownBlock] at hb; subst hb; exact hs
end

/-- A new row of cells: its head is a slice of the call's own. -/
theorem Own.made (S : Nat → Prop) (w : World) (cur : Array Value) (e : TypeId) (fr : Nat × Nat) (n cap size : Nat) (xs : List Value) (hS : S w.heap.size) (hn : n ≤ cap) (hcap : cap ≤ maxLen) (hsz : cap * size ≤ cur.size)
    (hfr : ∀ j, j < cap * size → ¬ (fr.1 ≤ j ∧ j < fr.2)) (hx : cur.toList.take (n * size) = xs) :
    Own S (w.alloc (.cells cur e fr)) (.slice (some ⟨w.heap.size, 0, none⟩) n cap) n size xs := by
  have hh : (w.alloc (.cells cur e fr)).heap[w.heap.size]? = some (.cells cur e fr) := heap_alloc_new w _
  have hc : ∀ j, (w.alloc (.cells cur e fr)).cell? ⟨w.heap.size, j, none⟩ = cur[j]? := fun j => by
    simp only [World.cell?, hh]; rfl
  have hnc : n * size ≤ cap * size := Nat.mul_le_mul_right _ hn
  subst hx
  refine ⟨by simp; omega, _, cap, rfl, hn, hcap, .inr ⟨w.heap.size, 0, rfl, hS, by simp, fun j u hj => ?_, fun j hj => ⟨?_, ?_⟩⟩⟩
  · simp only [Nat.zero_add]
    rw [hc]
    rw [List.getElem?_take] at hj
    split at hj
    · simpa using hj
    · cases hj
  · simp only [Nat.zero_add]
    rw [hc, Array.getElem?_eq_getElem (by omega)]; rfl
  · simp only [Nat.zero_add, World.frozen?, hh]
    have := hfr j hj
    simp only [Bool.and_eq_false_iff, decide_eq_false_iff_not]
    omega

theorem at_append {w : World} {b off : Nat} {xs ys : List Value} (h1 : At w b off xs) (h2 : At w b (off + xs.length) ys) : At w b off (xs ++ ys) := by
  intro j u hj
  rw [List.getElem?_append] at hj
  split at hj
  · exact h1 j u hj
  · have := h2 (j - xs.length) u hj
    rwa [show off + xs.length + (j - xs.length) = off + j by omega] at this

theorem heap_setCells_other (b : Nat) : ∀ (vs : List Value) (o : Nat) (w : World) (k : Nat), k ≠ b → (w.setCells b o vs).heap[k]? = w.heap[k]?
  | [], _, _, _, _ => rfl
  | v :: r, o, w, k, hk => by
    rw [World.setCells, heap_setCells_other b r (o + 1) _ k hk]
    exact Below.heap_setCell _ _ _ _ hk

theorem heap_setCells_size (b : Nat) : ∀ (vs : List Value) (o : Nat) (w : World), (w.setCells b o vs).heap.size = w.heap.size
  | [], _, _ => rfl
  | v :: r, o, w => by rw [World.setCells, heap_setCells_size b r (o + 1)]; simp [World.setCell]

theorem setCells_streams (b : Nat) : ∀ (vs : List Value) (o : Nat) (w : World), (w.setCells b o vs).os = w.os ∧ (w.setCells b o vs).tape = w.tape ∧ (w.setCells b o vs).output = w.output
  | [], _, _ => ⟨rfl, rfl, rfl⟩
  | v :: r, o, w => by rw [World.setCells]; exact setCells_streams b r (o + 1) (w.setCell ⟨b, o, none⟩ v)

theorem grownBy_setCells (w : World) (b o : Nat) (vs : List Value) : w.grownBy (w.setCells b o vs) (some b) :=
  let h := setCells_streams b vs o w
  ⟨h.1, h.2.1, h.2.2, by rw [heap_setCells_size]; exact Nat.le_refl _, fun k _ hk => heap_setCells_other b vs o w k (fun e => hk (by rw [e]))⟩

/-- The cells of a row behind a store of cells into it. -/
theorem Own.splice {S : Nat → Prop} {w : World} {b off n cap size : Nat} {xs : List Value} (h : Own S w (.slice (some ⟨b, off, none⟩) n cap) n size xs) (o m : Nat) (vs : List Value) (hm : m ≤ cap)
    (ho : o ≤ xs.length) (hlen : o + vs.length ≤ m * size) (hcover : m * size ≤ max xs.length (o + vs.length)) :
    Own S (w.setCells b (off + o) vs) (.slice (some ⟨b, off, none⟩) m cap) m size ((xs.take o ++ vs ++ xs.drop (o + vs.length)).take (m * size)) := by
  obtain ⟨hl, a, cap', hv, h1, h2, h3⟩ := h
  cases hv
  rcases h3 with ⟨h3, _⟩ | ⟨b', off', hv, hs, hb, hat, hf⟩
  · cases h3
  cases hv
  have hmc : m * size ≤ cap * size := Nat.mul_le_mul_right _ hm
  have hin := World.cell?_setCells_in b vs (off + o) w (fun j hj => by
    have := (hf (o + j) (by omega)).1; rwa [← Nat.add_assoc] at this)
  have hout := World.cell?_setCells_out b vs (off + o) w
  have htot : ((xs.take o ++ vs ++ xs.drop (o + vs.length)).take (m * size)).length = m * size := by
    simp only [List.length_take, List.length_append, List.length_drop]
    omega
  refine ⟨htot, _, cap, rfl, hm, h2, .inr ⟨b, off, rfl, hs, by rw [heap_setCells_size]; exact hb, fun j u hj => ?_, fun j hj => ⟨?_, ?_⟩⟩⟩
  · rw [List.getElem?_take] at hj
    split at hj
    · rename_i hjm
      by_cases hj1 : j < o
      · rw [hout _ (fun _ _ => .inl (by simp; omega))]
        rw [List.append_assoc, List.getElem?_append_left (by simp; omega), List.getElem?_take, if_pos hj1] at hj
        exact hat j u hj
      · by_cases hj2 : j < o + vs.length
        · rw [List.append_assoc, List.getElem?_append_right (by simp; omega), List.getElem?_append_left (by simp; omega)] at hj
          simp only [List.length_take, Nat.min_eq_left ho] at hj
          have hlt : j - o < vs.length := by omega
          have := hin (j - o) hlt
          rw [show off + o + (j - o) = off + j by omega] at this
          rw [this]
          rw [List.getElem?_eq_getElem hlt] at hj
          exact hj
        · rw [hout _ (fun _ _ => .inr (by simp; omega))]
          rw [List.getElem?_append_right (by simp; omega), List.getElem?_drop] at hj
          simp only [List.length_append, List.length_take, Nat.min_eq_left ho] at hj
          rw [show o + vs.length + (j - (o + vs.length)) = j by omega] at hj
          exact hat j u hj
    · cases hj
  · by_cases hj1 : o ≤ j ∧ j < o + vs.length
    · have := hin (j - o) (by omega)
      rw [show off + o + (j - o) = off + j by omega] at this
      rw [this]; rfl
    · rw [hout _ (fun _ _ => by simp; omega)]
      exact (hf j hj).1
  · rw [World.frozen?_setCells]
    exact (hf j hj).2


/-- the block of a slice is a row of cells of this type -/
def Typed (w : World) (e : TypeId) (v : Value) : Prop := ∀ b, v.ownBlock = some b → ∃ c fr, w.heap[b]? = some (.cells c e fr)

theorem typed_setCells {b : Nat} {e : TypeId} {fr : Nat × Nat} : ∀ (vs : List Value) (o : Nat) (w : World) (c : Array Value), w.heap[b]? = some (.cells c e fr) → ∃ c', (w.setCells b o vs).heap[b]? = some (.cells c' e fr)
  | [], _, _, c, h => ⟨c, h⟩
  | v :: r, o, w, c, h => by
    have h1 : (w.setCell ⟨b, o, none⟩ v).heap[b]? = some (.cells (c.setIfInBounds o v) e fr) := by simp only [World.setCell, Array.getElem?_modify, if_true, h]; rfl
    exact typed_setCells r (o + 1) _ _ h1

/-- append onto a slice of the call's own, from whatever source. -/
theorem run_append_o {P : Program} {w : World} {S : Nat → Prop} (t tx ty e : TypeId) (i : TypeInfo) (z : Value) (ht : P.underlying t = some (.slice e)) (hi : P.info? e = some i) (hz : i.zero = some z)
    (hzs : z.cells.size = i.size) (hS : ∀ b, w.heap.size ≤ b → S b) {v : Value} {n : Nat} {xs : List Value} (hown : Own S w v n i.size xs) {x : Value} {m : Nat} {news : List Value} (hs : Src P i.size tx x m news w)
    (h63 : n + m ≤ maxLen) (hbytes : (n + m) * i.bytes ≤ 140737488355328) :
    ∃ v' w', (Builtin.append_ #[t, tx] ty #[v, x]).run P w = .ok v' w' ∧ Own S w' v' (n + m) i.size (xs ++ news) ∧ w.grownBy w' v.ownBlock ∧ ((v'.ownBlock = v.ownBlock ∨ v'.ownBlock = some w.heap.size) ∧ (Typed w e v → Typed w' e v')) := by
  have hown0 := hown
  obtain ⟨hl, a, cap, rfl, h1, h2, h3⟩ := hown
  have hsm : n + m ≤ 9223372036854775807 := by simp only [maxLen] at h63; omega
  have hnl := hs.newsLen
  by_cases hroom : n + m ≤ cap
  · rcases h3 with ⟨rfl, rfl, rfl⟩ | ⟨b, off, rfl, hsb, hb, hat, hf⟩
    · obtain rfl : m = 0 := by omega
      obtain rfl : news = [] := List.eq_nil_of_length_eq_zero (by simpa using hnl)
      obtain rfl : xs = [] := List.eq_nil_of_length_eq_zero (by simpa using hl)
      refine ⟨.slice none 0 0, w, ?_, Own.nil S w _, ⟨rfl, rfl, rfl, Nat.le_refl _, fun _ _ _ => rfl⟩, .inl rfl, id⟩
      have hc := hs.cells
      have hln := hs.len
      rcases hs.kind with ⟨e', hk⟩ | hk <;> simp [Builtin.append_, run_underlying ht, run_underlying hk, sizeOf, typeInfo, hi, hln, hc]
    · have hcap : (n + m) * i.size ≤ cap * i.size := Nat.mul_le_mul_right _ hroom
      have hadd : (n + m) * i.size = n * i.size + m * i.size := Nat.add_mul _ _ _
      have hr := run_append_room_src (P := P) w t tx ty e i ht hi b off n cap x m news hs hroom
        (fun j hj => by have := (hf (n * i.size + j) (by omega)).1; rwa [← Nat.add_assoc] at this)
        (fun j hj => by have := (hf (n * i.size + j) (by omega)).2; rwa [← Nat.add_assoc] at this)
      refine ⟨_, _, hr, ?_, grownBy_setCells _ _ _ _, .inl rfl, fun ht b' hb' => ?_⟩
      rotate_left
      · cases hb'; obtain ⟨c, fr, hc⟩ := ht b rfl; obtain ⟨c', h'⟩ := typed_setCells news (off + n * i.size) w c hc; exact ⟨c', fr, h'⟩
      have hsp := Own.splice hown0 (n * i.size) (n + m) news hroom (by omega) (by omega) (by omega)
      have e1 : (xs.take (n * i.size) ++ news ++ xs.drop (n * i.size + news.length)).take ((n + m) * i.size) = xs ++ news := by
        rw [List.take_of_length_le (by omega : xs.length ≤ n * i.size), List.drop_eq_nil_of_le (by omega), List.append_nil, List.take_of_length_le (by simp; omega)]
      rw [e1] at hsp
      exact hsp
  · have hge : n + m ≤ grownCap w (n + m) cap e := grownCap_ge w (n + m) cap e
    have hcm : grownCap w (n + m) cap e ≤ maxLen := grownCap_le_maxLen w (n + m) cap e h63
    have hold : (Builtin.firstCells i.size n (.slice a n cap)).run P w.drew = .ok xs.toArray w.drew := by
      rcases h3 with ⟨rfl, rfl, rfl⟩ | ⟨b, off, rfl, hsb, hb, hat, hf⟩
      · obtain rfl : xs = [] := List.eq_nil_of_length_eq_zero (by simpa using hl)
        exact run_firstCells_none _ _ _ _ _
      · exact run_firstCells_some w.drew i.size n ⟨b, off, none⟩ n cap xs hl (fun j u hj => by rw [addr_add]; exact hat j u hj)
    have hr := run_append_grow_src (P := P) w t tx ty e i z ht hi hz a n cap xs hold x m news hs (by omega) (by omega) (growslice_fits (by omega) hbytes)
    refine ⟨_, _, hr, ?_, ⟨rfl, rfl, rfl, by simp, fun k hk _ => Below.heap_alloc w.drew _ k hk⟩, .inr rfl, fun _ b' hb' => by cases hb'; exact ⟨_, _, heap_alloc_new w.drew _⟩⟩
    have hsz : ((xs ++ news).toArray ++ Builtin.zeroCells z.cells (grownCap w (n + m) cap e - (n + m))).size = grownCap w (n + m) cap e * i.size := by
      simp only [Array.size_append, List.size_toArray, size_zeroCells, hzs, List.length_append, hl, hnl, ← Nat.add_mul]
      congr 1; omega
    refine Own.made S w.drew _ e (0, 0) (n + m) _ i.size _ (hS _ (Nat.le_refl _)) hge hcm (by omega) (fun j _ => by simp) ?_
    rw [Array.toList_append, List.take_append_of_le_length (by simp [hl, hnl, Nat.add_mul])]
    exact List.take_of_length_le (by simp [hl, hnl, Nat.add_mul])

/-- .. at the operation. -/
theorem wpList_append_o {P : Program} {w : World} {ops : Array Oper} {rest : List Oper} {o : Oper} {ac : Act} {Q : Exit → Act → World → Prop} (S : Nat → Prop) (hgd : o.guard = none) (s x : Operand) (t tx : TypeId)
    (ho : o.op = .call { callee := .builtin .append, args := #[s, x], argTypes := #[t, tx] }) {e : TypeId} {i : TypeInfo} {z : Value} {size bytes : Nat} (ht : P.underlying t = some (.slice e)) (hi : P.info? e = some i)
    (hz : i.zero = some z) (hsize : i.size = size) (hby : i.bytes = bytes) (hzs : z.cells.size = size) {v : Value} {n : Nat} {xs : List Value} {xv : Value} {m : Nat} {news : List Value}
    (hv : ac.eval s = v) (hx : ac.eval x = xv) (hS : ∀ b, w.heap.size ≤ b → S b) (hown : Own S w v n size xs) (hs : Src P size tx xv m news w) (h63 : n + m ≤ maxLen) (hbytes : (n + m) * bytes ≤ 140737488355328)
    (h : ∀ v' w', Own S w' v' (n + m) size (xs ++ news) → w.grownBy w' v.ownBlock → ((v'.ownBlock = v.ownBlock ∨ v'.ownBlock = some w.heap.size) ∧ (Typed w e v → Typed w' e v')) → wpList P ops Q rest (ac.put o.dst v') w') : wpList P ops Q (o :: rest) ac w := by
  subst hsize; subst hby
  refine wpList_plain hgd fun K' hK' => ?_
  obtain ⟨v', w', hr, h2, h3, h4⟩ := run_append_o (P := P) t tx o.type e i z ht hi hz hzs hS hown hs h63 hbytes
  unfold Oper.wp execOp
  simp only [ho, resolve, invoke, builtin, Sem.run_bind, Sem.run_pure, Result.andThen_ok, List.map_toArray, List.map_cons, List.map_nil, hv, hx, hr]
  exact hK' _ _ (h v' w' h2 h3 h4)

theorem Own.alloc {S : Nat → Prop} {w : World} {v : Value} {n size : Nat} {xs : List Value} (h : Own S w v n size xs) (o : Obj) : Own S (w.alloc o) v n size xs :=
  h.keep ((Keeps.refl (fun _ => False) w).alloc o) (fun _ _ => id)
theorem Sl.alloc {w : World} {v : Value} {n size : Nat} {xs : List Value} (h : Sl w v n size xs) (o : Obj) : Sl (w.alloc o) v n size xs :=
  h.keep ((Keeps.refl (fun _ => False) w).alloc o) (fun _ _ => id)
theorem Own.drew {S : Nat → Prop} {w : World} {v : Value} {n size : Nat} {xs : List Value} (h : Own S w v n size xs) : Own S w.drew v n size xs :=
  h.keep ((Keeps.refl (fun _ => False) w).drew) (fun _ _ => id)
theorem Sl.drew {w : World} {v : Value} {n size : Nat} {xs : List Value} (h : Sl w v n size xs) : Sl w.drew v n size xs :=
  h.keep ((Keeps.refl (fun _ => False) w).drew) (fun _ _ => id)

/-- A row that was just laid, as an append's source ('append(xs, x)'). -/
theorem src_new {P : Program} (w : World) (size : Nat) {tx e' : TypeId} (hk : P.underlying tx = some (.slice e')) (m c : Nat) (cs : List Value) (e : TypeId) (fr : Nat × Nat) (hl : cs.length = m * size) (h1 : ∀ u ∈ cs, u.oneCell' = true) :
    Src P size tx (.slice (some ⟨w.heap.size, 0, none⟩) m c) m cs (w.alloc (.cells cs.toArray e fr)) :=
  Src.ofSlice _ hk _ m c cs hl (fun j u hj => by
    have hh : (w.alloc (.cells cs.toArray e fr)).heap[w.heap.size]? = some (.cells cs.toArray e fr) := heap_alloc_new w _
    rw [addr_add]
    simp only [World.cell?, hh]
    simpa using hj) h1

/-- The walk stands still at what is named so. -/
def Halt1 (p : Prop) : Prop := p
theorem halt1 {p : Prop} (h : Halt1 p) : p := h
theorem on1 {p : Prop} (h : p) : Halt1 p := h

/-- A new block's cells. -/
theorem cell_new (w : World) (cs : Array Value) (e : TypeId) (fr : Nat × Nat) (j : Nat) : (w.alloc (.cells cs e fr)).cell? ⟨w.heap.size, j, none⟩ = cs[j]? := by
  have hh : (w.alloc (.cells cs e fr)).heap[w.heap.size]? = some (.cells cs e fr) := heap_alloc_new w _
  simp only [World.cell?, hh]; rfl
/-- .. behind a call that made memory. -/
theorem cell_new_below {w w' : World} {cs : Array Value} {e : TypeId} {fr : Nat × Nat} (h : Below (w.heap.size + 1) (w.alloc (.cells cs e fr)) w') (j : Nat) : w'.cell? ⟨w.heap.size, j, none⟩ = cs[j]? := by
  rw [← cell_new w cs e fr j]; exact h.cell (Nat.lt_succ_self _)
theorem cell_below {B : Nat} {w w' : World} (h : Below B w w') {b o : Nat} {v : Value} (hb : b < B) (hc : w.cell? ⟨b, o, none⟩ = some v) : w'.cell? ⟨b, o, none⟩ = some v := (h.cell hb).trans hc

theorem At.take {w : World} {b off : Nat} {cs : List Value} (h : At w b off cs) (m : Nat) : At w b off (cs.take m) := fun j u hj => by
  rw [List.getElem?_take] at hj
  split at hj
  · exact h j u hj
  · cases hj
theorem At.drop {w : World} {b off : Nat} {cs : List Value} (h : At w b off cs) (m : Nat) : At w b (off + m) (cs.drop m) := fun j u hj => by
  rw [List.getElem?_drop] at hj
  have := h _ u hj
  rwa [← Nat.add_assoc] at this
theorem Sl.upto {w : World} {a : Option Addr} {cap n size : Nat} {cs : List Value} (h : Sl w (.slice a n cap) n size cs) {k : Nat} (hk : k ≤ n) : Sl w (.slice a k cap) k size (cs.take (k * size)) := by
  obtain ⟨hl, a', cap', hv, h1, h2, h3⟩ := h
  cases hv
  have hmul : k * size ≤ n * size := Nat.mul_le_mul_right _ hk
  refine ⟨by simp; omega, a, cap, rfl, by omega, h2, ?_⟩
  rcases h3 with ⟨rfl, rfl, rfl⟩ | ⟨b, off, rfl, hb, hat⟩
  · exact .inl ⟨rfl, by omega, rfl⟩
  · exact .inr ⟨b, off, rfl, hb, hat.take _⟩
theorem Sl.from {w : World} {b off cap n size : Nat} {cs : List Value} (h : Sl w (.slice (some ⟨b, off, none⟩) n cap) n size cs) {k : Nat} (hk : k ≤ n) :
    Sl w (.slice (some ⟨b, off + k * size, none⟩) (n - k) (cap - k)) (n - k) size (cs.drop (k * size)) := by
  obtain ⟨hl, a', cap', hv, h1, h2, h3⟩ := h
  cases hv
  rcases h3 with ⟨h3, _⟩ | ⟨b', off', hv, hb, hat⟩
  · cases h3
  cases hv
  refine ⟨by simp [hl, Nat.sub_mul], _, _, rfl, by omega, by omega, .inr ⟨b, _, rfl, hb, hat.drop _⟩⟩
/-- nothing of a slice: at whatever address -/
theorem Sl.none_left {w : World} {a : Option Addr} {cap size : Nat} (ha : (a = none ∧ cap = 0) ∨ ∃ b off, a = some ⟨b, off, none⟩ ∧ b < w.heap.size) (hc : cap ≤ maxLen) : Sl w (.slice a 0 cap) 0 size [] := by
  refine ⟨by simp, a, cap, rfl, Nat.zero_le _, hc, ?_⟩
  rcases ha with ⟨h, h'⟩ | ⟨b, off, rfl, hb⟩
  · exact .inl ⟨h, rfl, h'⟩
  · exact .inr ⟨b, off, rfl, hb, fun j u hj => by simp at hj⟩

/-- 's[k:]' as the walk writes it: at k = cap the address stays. -/
theorem Sl.from' {w : World} {b off off' cap n size : Nat} {cs : List Value} (h : Sl w (.slice (some ⟨b, off, none⟩) n cap) n size cs) {k : Nat} (hk : k ≤ n) (ho : off' = off + k * size ∨ cap = k) :
    Sl w (.slice (some ⟨b, off', none⟩) (n - k) (cap - k)) (n - k) size (cs.drop (k * size)) := by
  rcases ho with rfl | rfl
  · exact h.from hk
  · obtain ⟨hl, a', cap', hv, h1, h2, h3⟩ := h
    cases hv
    rcases h3 with ⟨h3, _⟩ | ⟨b', off', hv, hb, hat⟩
    · cases h3
    cases hv
    have e : n = cap := by omega
    subst e
    refine ⟨by simp [hl], _, _, rfl, by omega, by omega, .inr ⟨b, _, rfl, hb, ?_⟩⟩
    rw [List.drop_eq_nil_of_le (by omega)]
    intro j u hj; simp at hj

theorem flat_take {α β : Type} (f : α → List β) (m : Nat) (hf : ∀ x, (f x).length = m) : ∀ (l : List α) (k : Nat), (l.flatMap f).take (k * m) = (l.take k).flatMap f
  | [], k => by simp
  | x :: l, 0 => by simp
  | x :: l, k + 1 => by
    rw [List.flatMap_cons, List.take_succ_cons, List.flatMap_cons, List.take_append, hf, List.take_of_length_le (by rw [hf, Nat.add_mul]; omega), show (k + 1) * m - m = k * m by rw [Nat.add_mul]; omega, flat_take f m hf l k]
theorem flat_drop {α β : Type} (f : α → List β) (m : Nat) (hf : ∀ x, (f x).length = m) : ∀ (l : List α) (k : Nat), (l.flatMap f).drop (k * m) = (l.drop k).flatMap f
  | [], k => by simp
  | x :: l, 0 => by simp
  | x :: l, k + 1 => by
    rw [List.flatMap_cons, List.drop_succ_cons, List.drop_append, hf, List.drop_eq_nil_of_le (by rw [hf, Nat.add_mul]; omega), show (k + 1) * m - m = k * m by rw [Nat.add_mul]; omega, flat_drop f m hf l k, List.nil_append]

theorem Sl.from0 {w : World} {b off cap n size : Nat} {cs : List Value} (h : Sl w (.slice (some ⟨b, off, none⟩) n cap) n size cs) {k : Nat} (hk : k ≤ n) (hc : cap = k) :
    Sl w (.slice (some ⟨b, off, none⟩) (n - k) 0) (n - k) size (cs.drop (k * size)) := by
  have := h.from' (off' := off) hk (.inr hc)
  rwa [hc, Nat.sub_self] at this

/-- One cell of a row of the call's own, stored. -/
theorem Own.set {S : Nat → Prop} {w : World} {b off n cap size : Nat} {xs : List Value} (h : Own S w (.slice (some ⟨b, off, none⟩) n cap) n size xs) {j : Nat} (hj : j < xs.length) (u : Value) :
    Own S (w.setCell ⟨b, off + j, none⟩ u) (.slice (some ⟨b, off, none⟩) n cap) n size (xs.set j u) := by
  obtain ⟨hl, hrest⟩ := id h
  have hn : n ≤ cap := by obtain ⟨a, c, hv, h1, _⟩ := hrest; cases hv; exact h1
  have := h.splice j n [u] hn (by omega) (by simp; omega) (by simp; omega)
  have e : (xs.take j ++ [u] ++ xs.drop (j + [u].length)).take (n * size) = xs.set j u := by
    rw [List.take_of_length_le (by simp; omega), List.set_eq_take_append_cons_drop, if_pos hj]; simp
  rw [e] at this
  exact this

theorem Own.cellAt {S : Nat → Prop} {w : World} {b off n cap size : Nat} {xs : List Value} (h : Own S w (.slice (some ⟨b, off, none⟩) n cap) n size xs) {j : Nat} (hj : j < xs.length) :
    w.cell? ⟨b, off + j, none⟩ = some xs[j] ∧ w.frozen? ⟨b, off + j, none⟩ = false := by
  obtain ⟨hl, a, cap', hv, h1, h2, h3⟩ := h
  cases hv
  rcases h3 with ⟨h3, _⟩ | ⟨b', off', hv, hs, hb, hat, hf⟩
  · cases h3
  cases hv
  have : n * size ≤ cap * size := Nat.mul_le_mul_right _ h1
  exact ⟨hat j _ (List.getElem?_eq_getElem hj), (hf j (by omega)).2⟩

theorem Own.some {S : Nat → Prop} {w : World} {v : Value} {n size : Nat} {xs : List Value} (h : Own S w v n size xs) (hn : 0 < n) : ∃ b off cap, v = .slice (some ⟨b, off, none⟩) n cap ∧ S b ∧ b < w.heap.size ∧ n ≤ cap ∧ cap ≤ maxLen := by
  obtain ⟨hl, a, cap', rfl, h1, h2, h3⟩ := h
  rcases h3 with ⟨_, h3, _⟩ | ⟨b', off', rfl, hs, hb, hat, hf⟩
  · omega
  · exact ⟨b', off', cap', rfl, hs, hb, h1, h2⟩

theorem Own.shape {S : Nat → Prop} {w : World} {v : Value} {n size : Nat} {xs : List Value} (h : Own S w v n size xs) : ∃ a cap, v = .slice a n cap ∧ n ≤ cap ∧ cap ≤ maxLen := by
  obtain ⟨hl, a, cap', rfl, h1, h2, h3⟩ := h
  exact ⟨a, cap', rfl, h1, h2⟩

theorem halt_convert {P : Program} {w : World} {ops : Array Oper} {rest : List Oper} {o : Oper} {ac : Act} {Q : Exit → Act → World → Prop} {s d : TypeId} {x : Operand} (_ho : o.op = .convert s d x)
    (h : Halt1 (wpList P ops Q (o :: rest) ac w)) : wpList P ops Q (o :: rest) ac w := h

/-- a list of bytes as cells -/
abbrev bcells (l : List UInt8) : List Value := l.map fun b => Value.int .u8 b.toNat
theorem bcells_one (l : List UInt8) : ∀ u ∈ bcells l, u.oneCell' = true := by
  intro u hu; obtain ⟨b, _, rfl⟩ := List.mem_map.1 hu; rfl

/-- '[]byte(s)'. -/
theorem wpList_convert_sb {P : Program} {w : World} {ops : Array Oper} {rest : List Oper} {o : Oper} {ac : Act} {Q : Exit → Act → World → Prop} (S : Nat → Prop) (hgd : o.guard = none) {src dst e : TypeId} {x : Operand}
    (ho : o.op = .convert src dst x) (hs : P.underlying src = some .string) (hd : P.underlying dst = some (.slice e)) (he : P.underlying e = some (.int .u8)) {l : List UInt8} (hx : ac.eval x = .string ⟨l.toArray⟩)
    (hS : S w.heap.size) (hl : l.length ≤ maxLen)
    (h : ∀ v' w', Own S w' v' l.length 1 (bcells l) → Below w.heap.size w w' → v'.ownBlock = some w.heap.size → wpList P ops Q rest (ac.put o.dst v') w') : wpList P ops Q (o :: rest) ac w := by
  refine wpList_plain hgd fun K' hK' => ?_
  have hr := run_bytes_of_string (P := P) w src dst e ⟨l.toArray⟩ hs hd he
  unfold Oper.wp execOp
  simp only [ho, hx, hr, Sem.run_bind, Sem.run_pure, Result.andThen_ok]
  refine hK' _ _ (h _ _ ?_ ?_ rfl)
  · have hge := grownCap_ge w l.length 0 e
    have hc := grownCap_le_maxLen w l.length 0 e hl
    have hsz : (⟨l.toArray⟩ : ByteArray).size = l.length := by simp [ByteArray.size]
    rw [hsz]
    have hrow : (bytesRow ⟨l.toArray⟩ (grownCap w l.length 0 e)).size = grownCap w l.length 0 e := by simp [bytesRow, hsz]; omega
    refine Own.made S w.drew _ e _ l.length _ 1 _ hS hge hc (by omega) (fun j hj => by rw [hrow]; omega) ?_
    simp [bytesRow, bcells]
  · exact ((Below.refl _ w).drew).alloc (Nat.le_refl _) _

/-- 'string(b)'. -/
theorem run_convert_bs {P : Program} {w : World} {src dst e : TypeId} {v : Value} {n : Nat} {l : List UInt8} (hs : P.underlying src = some (.slice e)) (hd : P.underlying dst = some .string) (he : P.underlying e = some (.int .u8))
    (h : Sl w v n 1 (bcells l)) : (convert src dst v).run P w = .ok (.string ⟨l.toArray⟩) w := by
  obtain ⟨hl, a, cap, rfl, h1, h2, h3⟩ := h
  rcases h3 with ⟨rfl, rfl, rfl⟩ | ⟨b, off, rfl, hb, hat⟩
  · have : l = [] := by simpa using hl
    subst this
    rw [run_convert_bytes_nil w src e hs he _ _ dst hd]; rfl
  · have hlen : l.length = n := by simpa using hl
    rw [run_convert_bytes_arg w src e hs he b off n cap (l.map fun b => (b.toNat : Int)) (by simp [hlen]) (fun i hi => by
      rw [hat i (.int .u8 (l[i]).toNat) (by simp [bcells, List.getElem?_eq_getElem (show i < l.length by omega)])]
      simp [List.getD, List.getElem?_eq_getElem (show i < l.length by omega)]) dst hd]
    congr 2
    simp only [strOfNums, List.map_map]
    congr 1
    rw [show ((fun n : Int => UInt8.ofNat n.toNat) ∘ fun b : UInt8 => (b.toNat : Int)) = id from funext fun b => by simp, List.map_id]
theorem wpList_convert_bs {P : Program} {w : World} {ops : Array Oper} {rest : List Oper} {o : Oper} {ac : Act} {Q : Exit → Act → World → Prop} (hgd : o.guard = none) {src dst e : TypeId} {x : Operand}
    (ho : o.op = .convert src dst x) (hs : P.underlying src = some (.slice e)) (hd : P.underlying dst = some .string) (he : P.underlying e = some (.int .u8)) {v : Value} {n : Nat} {l : List UInt8} (hx : ac.eval x = v)
    (hv : Sl w v n 1 (bcells l)) (h : wpList P ops Q rest (ac.put o.dst (.string ⟨l.toArray⟩)) w) : wpList P ops Q (o :: rest) ac w := by
  refine wpList_plain hgd fun K' hK' => ?_
  have hr := run_convert_bs (P := P) (w := w) (src := src) (dst := dst) hs hd he hv
  unfold Oper.wp execOp
  simp only [ho, hx, hr, Sem.run_bind, Sem.run_pure, Result.andThen_ok]
  exact hK' _ _ h

/-- The cells of two new blocks behind a call that made memory. -/
theorem cells_two {w w' : World} {c1 c2 : Array Value} {e1 e2 : TypeId} {f1 f2 : Nat × Nat} (h : Below (w.heap.size + 1 + 1) ((w.alloc (.cells c1 e1 f1)).alloc (.cells c2 e2 f2)) w') :
    (∀ j, w'.cell? ⟨w.heap.size, j, none⟩ = c1[j]?) ∧ (∀ j, w'.cell? ⟨w.heap.size + 1, j, none⟩ = c2[j]?) := by
  have ha : (w.alloc (.cells c1 e1 f1)).heap.size = w.heap.size + 1 := by simp
  refine ⟨fun j => ?_, fun j => ?_⟩
  · rw [h.cell (show (⟨w.heap.size, j, none⟩ : Addr).block < w.heap.size + 1 + 1 by simp; omega)]
    rw [← cell_new w c1 e1 f1 j]
    exact ((Below.refl (w.heap.size + 1) (w.alloc (.cells c1 e1 f1))).alloc (by simp) _).cell (Nat.lt_succ_self _)
  · rw [h.cell (show (⟨w.heap.size + 1, j, none⟩ : Addr).block < w.heap.size + 1 + 1 by simp)]
    have := cell_new (w.alloc (.cells c1 e1 f1)) c2 e2 f2 j
    rw [ha] at this
    exact this

/-- A block that is known whole, behind what leaves it alone. -/
theorem block_cells {w' : World} {b : Nat} {c : Array Value} {e : TypeId} (hh : w'.heap[b]? = some (.cells c e)) :
    (∀ j, w'.cell? ⟨b, j, none⟩ = c[j]?) ∧ (∀ j, w'.frozen? ⟨b, j, none⟩ = false) := by
  refine ⟨fun j => ?_, fun j => ?_⟩
  · simp only [World.cell?, hh]; rfl
  · simp only [World.frozen?, hh]; simp
theorem heap_new1 (w : World) (A : Obj) : (w.alloc A).heap[w.heap.size]? = some A := heap_alloc_new w A
theorem heap_new2 (w : World) (A B : Obj) : ((w.alloc A).alloc B).heap[w.heap.size]? = some A ∧ ((w.alloc A).alloc B).heap[w.heap.size + 1]? = some B := by
  refine ⟨?_, ?_⟩
  · rw [Below.heap_alloc _ _ _ (by simp), heap_new1]
  · have := heap_new1 (w.alloc A) B
    simpa using this
theorem heap_new3 (w : World) (A B C : Obj) : (((w.alloc A).alloc B).alloc C).heap[w.heap.size]? = some A ∧ (((w.alloc A).alloc B).alloc C).heap[w.heap.size + 1]? = some B ∧ (((w.alloc A).alloc B).alloc C).heap[w.heap.size + 2]? = some C := by
  refine ⟨?_, ?_, ?_⟩
  · rw [Below.heap_alloc _ _ _ (by simp; omega), (heap_new2 w A B).1]
  · rw [Below.heap_alloc _ _ _ (by simp), (heap_new2 w A B).2]
  · have := heap_new1 ((w.alloc A).alloc B) C
    simpa using this

theorem heap_setCell_at {w : World} {b : Nat} {cur : Array Value} {e : TypeId} {fr : Nat × Nat} (h : w.heap[b]? = some (.cells cur e fr)) (o : Nat) (v : Value) : (w.setCell ⟨b, o, none⟩ v).heap[b]? = some (.cells (cur.setIfInBounds o v) e fr) := by
  simp only [World.setCell, Array.getElem?_modify, if_true, h]; rfl
theorem heap_setCells_at {b : Nat} {e : TypeId} {fr : Nat × Nat} : ∀ (vs : List Value) (o : Nat) (w : World) (cur : List Value), w.heap[b]? = some (.cells cur.toArray e fr) → o + vs.length ≤ cur.length →
    (w.setCells b o vs).heap[b]? = some (.cells (cur.take o ++ vs ++ cur.drop (o + vs.length)).toArray e fr)
  | [], o, w, cur, h, _ => by simpa [World.setCells] using h
  | v :: r, o, w, cur, h, hl => by
    rw [World.setCells]
    have h1 := heap_setCell_at h o v
    rw [List.setIfInBounds_toArray] at h1
    have ih := heap_setCells_at r (o + 1) _ _ h1 (by simp at hl ⊢; omega)
    rw [ih]
    simp only [List.length_cons] at hl ⊢
    have e1 : (cur.set o v).drop (o + 1 + r.length) = cur.drop (o + (r.length + 1)) := by
      rw [List.drop_set_of_lt (by omega), show o + 1 + r.length = o + (r.length + 1) by omega]
    have e2 : (cur.set o v).take (o + 1) = cur.take o ++ [v] := by
      rw [List.take_add_one, List.getElem?_set_self (by omega), List.take_set_of_le (Nat.le_refl _)]; rfl
    rw [e1, e2]; simp
/-- A block of cells, stored whole. -/
theorem setCells_whole {w : World} {b : Nat} {cur : Array Value} {e : TypeId} {fr : Nat × Nat} (h : w.heap[b]? = some (.cells cur e fr)) (vs : List Value) (hl : cur.size = vs.length) :
    (w.setCells b 0 vs).heap[b]? = some (.cells vs.toArray e fr) ∧ Keeps (· = b) w (w.setCells b 0 vs) := by
  refine ⟨?_, Keeps.ofGrown (grownBy_setCells w b 0 vs) (fun k hk => by cases hk; rfl)⟩
  have := heap_setCells_at vs 0 w cur.toList (by simpa using h) (by simp [hl])
  rw [this]
  simp [hl]

theorem below_setCells {B : Nat} {a w : World} (h : Below B a w) {b : Nat} (hb : B ≤ b) (o : Nat) (vs : List Value) : Below B a (w.setCells b o vs) :=
  let s := setCells_streams b vs o w
  h.trans ⟨s.1, s.2.1, s.2.2, by rw [heap_setCells_size]; exact Nat.le_refl _, fun k hk => heap_setCells_other b vs o w k (by omega)⟩
theorem keeps_setCells {S : Nat → Prop} {a w : World} (h : Keeps S a w) {b : Nat} (hb : b < a.heap.size → S b) (o : Nat) (vs : List Value) : Keeps S a (w.setCells b o vs) :=
  let s := setCells_streams b vs o w
  ⟨s.1.trans h.os, s.2.1.trans h.tape, s.2.2.trans h.output, by rw [heap_setCells_size]; exact h.size, fun k hk hn => (heap_setCells_other b vs o w k (fun e => hn (e ▸ hb (e ▸ hk)))).trans (h.block k hk hn)⟩

theorem keeps_cell (w : World) (d o : Nat) (v : Value) : Keeps (· = d) w (w.setCell ⟨d, o, none⟩ v) := Keeps.setCell (p := ⟨d, o, none⟩) (Keeps.refl (· = d) w) (fun _ => rfl) v

/-- copy into a row of the call's own, from its place k on ('copy(b[k:], src)'). -/
theorem run_copy_o {P : Program} {w : World} {S : Nat → Prop} {b off off' n cap dc k : Nat} {xs : List Value} (hown : Own S w (.slice (some ⟨b, off, none⟩) n cap) n 1 xs) (hk : k ≤ n) (hoff : off' = off + k ∨ k = n)
    {sv : Value} {m : Nat} {cs : List Value} (hs : Sl w sv m 1 cs) (h1 : ∀ u ∈ cs, u.oneCell' = true) (dT sT ty elem : TypeId) (hu : P.underlying dT = some (.slice elem)) (hsz : (P.info? elem).map (·.size) = some 1) (e : TypeId) :
    ∃ w', (Builtin.copy_ #[dT, sT] ty #[.slice (some ⟨b, off', none⟩) (n - k) dc, sv]).run P w = .ok (goInt ((min m (n - k) : Nat) : Int)) w' ∧
      Own S w' (.slice (some ⟨b, off, none⟩) n cap) n 1 (xs.take k ++ cs.take (min m (n - k)) ++ xs.drop (k + min m (n - k))) ∧ w.grownBy w' (some b) ∧
      (Typed w e (.slice (some ⟨b, off, none⟩) n cap) → Typed w' e (.slice (some ⟨b, off, none⟩) n cap)) := by
  have hxl : xs.length = n := by have := hown.1; omega
  obtain ⟨hcl, sa, sc, rfl, hmc, _, hcase⟩ := id hs
  have hcl' : cs.length = m := by omega
  by_cases h0 : min m (n - k) = 0
  · refine ⟨w, ?_, ?_, ⟨rfl, rfl, rfl, Nat.le_refl _, fun _ _ _ => rfl⟩, id⟩
    · rw [h0]
      exact run_copy_none (P := P) w dT sT ty elem (some ⟨b, off', none⟩) sa (n - k) dc m sc hu hsz h0
    · rw [h0]
      simpa using hown
  · have ho : off' = off + k := by rcases hoff with h | h; exact h; omega
    subst ho
    have hlen : (cs.take (min m (n - k))).length = min m (n - k) := by simp; omega
    rcases hcase with ⟨rfl, hm0, _⟩ | ⟨sb, so, rfl, hsb, hat⟩
    · omega
    obtain ⟨_, a', c', hv, hnc, hcm, hc2⟩ := id hown
    cases hv
    rcases hc2 with ⟨h, _⟩ | ⟨b', o', hv, hsS, hbb, hatb, hf⟩
    · cases h
    cases hv
    have hr := run_copy_cells (P := P) w dT sT ty elem b (off + k) (n - k) dc ⟨sb, so, none⟩ m sc (cs.take (min m (n - k))) hu hsz hlen
      (fun j v hj => by rw [addr_add]; exact hat.take _ j v hj)
      (fun j hj => by have := (hf (k + j) (by omega)).1; rwa [← Nat.add_assoc] at this)
      (fun j hj => by have := (hf (k + j) (by omega)).2; rwa [← Nat.add_assoc] at this) (fun u hu => h1 u (List.mem_of_mem_take hu))
    rw [hlen] at hr
    refine ⟨_, hr, ?_, grownBy_setCells _ _ _ _, fun ht b' hb' => ?_⟩
    · have := hown.splice k n (cs.take (min m (n - k))) hnc (by omega) (by omega) (by omega)
      rw [hlen] at this
      have e0 : (xs.take k ++ cs.take (min m (n - k)) ++ xs.drop (k + min m (n - k))).take (n * 1) = xs.take k ++ cs.take (min m (n - k)) ++ xs.drop (k + min m (n - k)) :=
        List.take_of_length_le (by simp only [List.length_append, hlen, List.length_take, List.length_drop, hxl]; omega)
      rw [e0] at this
      exact this
    · cases hb'; obtain ⟨c, fr, hc⟩ := ht b rfl; obtain ⟨c', h'⟩ := typed_setCells (cs.take (min m (n - k))) (off + k) w c hc; exact ⟨c', fr, h'⟩

theorem wp_copy_o {P : Program} {w : World} {o : Oper} {ac : Act} {K : Act → World → Prop} {Q : Exit → Act → World → Prop} {S : Nat → Prop} (d s : Operand) (dT sT : TypeId)
    (ho : o.op = .call { callee := .builtin .copy, args := #[d, s], argTypes := #[dT, sT] }) {elem : TypeId} (hu : P.underlying dT = some (.slice elem)) (hsz : (P.info? elem).map (·.size) = some 1)
    {b off off' n cap dc k dn : Nat} {xs : List Value} {sv : Value} {m : Nat} {cs : List Value} (hd : ac.eval d = .slice (some ⟨b, off', none⟩) dn dc) (hdn : dn = n - k) (hx : ac.eval s = sv)
    (hown : Own S w (.slice (some ⟨b, off, none⟩) n cap) n 1 xs) (hk : k ≤ n) (hoff : off' = off + k ∨ k = n) (hs : Sl w sv m 1 cs) (h1 : ∀ u ∈ cs, u.oneCell' = true) (e : TypeId)
    (h : ∀ w', Own S w' (.slice (some ⟨b, off, none⟩) n cap) n 1 (xs.take k ++ cs.take (min m (n - k)) ++ xs.drop (k + min m (n - k))) → w.grownBy w' (some b) →
      (Typed w e (.slice (some ⟨b, off, none⟩) n cap) → Typed w' e (.slice (some ⟨b, off, none⟩) n cap)) → K (ac.put o.dst (goInt ((min m (n - k) : Nat) : Int))) w') : o.wp P ac w K Q := by
  subst hdn
  obtain ⟨w', hr, h2, h3, h4⟩ := run_copy_o (P := P) (dc := dc) hown hk hoff hs h1 dT sT o.type elem hu hsz e
  unfold Oper.wp execOp
  simp only [ho, resolve, invoke, builtin, Sem.run_bind, Sem.run_pure, Result.andThen_ok, List.map_toArray, List.map_cons, List.map_nil, hd, hx, hr]
  exact h w' h2 h3 h4

/-- a law of Oper.wp as a step of a region that draws -/
theorem step_of_wp {P : Program} {ops : Array Oper} {o : Oper} {a : Act} {w : World} {K : Act → World → Prop} {Q : Exit → Act → World → Prop} {E : Prop} (hg : o.guard = none) (h : o.wp P a w K Q) :
    if Region.wanted o (yielded ops a.tmps) = true then Oper.wp P o a w K Q else E := by
  rw [if_pos (by simp [Region.wanted, hg])]; exact h
theorem list_of_wp {P : Program} {ops : Array Oper} {rest : List Oper} {o : Oper} {a : Act} {w : World} {Q : Exit → Act → World → Prop} (hg : o.guard = none) (h : o.wp P a w (wpList P ops Q rest) Q) : wpList P ops Q (o :: rest) a w := by
  unfold wpList
  rw [if_pos (by simp [Region.wanted, hg])]
  exact .inl h

theorem wp_append_o {P : Program} {w : World} {o : Oper} {ac : Act} {K : Act → World → Prop} {Q : Exit → Act → World → Prop} (S : Nat → Prop) (s x : Operand) (t tx : TypeId)
    (ho : o.op = .call { callee := .builtin .append, args := #[s, x], argTypes := #[t, tx] }) {e : TypeId} {i : TypeInfo} {z : Value} {size bytes : Nat} (ht : P.underlying t = some (.slice e)) (hi : P.info? e = some i)
    (hz : i.zero = some z) (hsize : i.size = size) (hby : i.bytes = bytes) (hzs : z.cells.size = size) {v : Value} {n : Nat} {xs : List Value} {xv : Value} {m : Nat} {news : List Value}
    (hv : ac.eval s = v) (hx : ac.eval x = xv) (hS : ∀ b, w.heap.size ≤ b → S b) (hown : Own S w v n size xs) (hs : Src P size tx xv m news w) (h63 : n + m ≤ maxLen) (hbytes : (n + m) * bytes ≤ 140737488355328)
    (h : ∀ v' w', Own S w' v' (n + m) size (xs ++ news) → w.grownBy w' v.ownBlock → ((v'.ownBlock = v.ownBlock ∨ v'.ownBlock = some w.heap.size) ∧ (Typed w e v → Typed w' e v')) → K (ac.put o.dst v') w') : o.wp P ac w K Q := by
  subst hsize; subst hby
  obtain ⟨v', w', hr, h2, h3, h4⟩ := run_append_o (P := P) t tx o.type e i z ht hi hz hzs hS hown hs h63 hbytes
  unfold Oper.wp execOp
  simp only [ho, resolve, invoke, builtin, Sem.run_bind, Sem.run_pure, Result.andThen_ok, List.map_toArray, List.map_cons, List.map_nil, hv, hx, hr]
  exact h v' w' h2 h3 h4

/-- A row of the kit's, as one of mine. -/
theorem Own.ofRow {w : World} {base : Nat} {e : TypeId} {size : Nat} {v : Value} {n : Nat} {xs : List Value} (h : w.ownsRow base e size v n xs) : Own (base ≤ ·) w v n size xs ∧ Typed w e v := by
  obtain ⟨hl, h⟩ := h
  rcases h with ⟨rfl, rfl⟩ | ⟨g, cap, cur, rfl, hb, hg, hn, hc, hsz, hx⟩
  · refine ⟨⟨hl, none, 0, rfl, Nat.le_refl _, by simp [maxLen], .inl ⟨rfl, rfl, rfl⟩⟩, fun b hb => by simp [Value.ownBlock] at hb⟩
  · obtain ⟨a1, z1⟩ := block_cells hg
    refine ⟨⟨hl, _, cap, rfl, hn, hc, .inr ⟨g, 0, rfl, hb, (Array.getElem?_eq_some_iff.1 hg).1, fun j u hj => ?_, fun j hj => ⟨?_, z1 _⟩⟩⟩, fun b hb => by cases hb; exact ⟨_, _, hg⟩⟩
    · rw [Nat.zero_add, a1]
      rw [← hx, List.getElem?_take] at hj
      split at hj
      · simpa using hj
      · cases hj
    · rw [Nat.zero_add, a1, Array.getElem?_eq_getElem (by omega)]; rfl

theorem halt_copy {P : Program} {w : World} {ops : Array Oper} {rest : List Oper} {o : Oper} {ac : Act} {Q : Exit → Act → World → Prop} {d s : Operand} {t1 t2 : TypeId} (_ho : o.op = .call { callee := .builtin .copy, args := #[d, s], argTypes := #[t1, t2] })
    (h : Halt1 (wpList P ops Q (o :: rest) ac w)) : wpList P ops Q (o :: rest) ac w := h
theorem halt_make {P : Program} {w : World} {ops : Array Oper} {rest : List Oper} {o : Oper} {ac : Act} {Q : Exit → Act → World → Prop} {t : TypeId} {l c : Operand} (_ho : o.op = .makeSlice t l c)
    (h : Halt1 (wpList P ops Q (o :: rest) ac w)) : wpList P ops Q (o :: rest) ac w := h

end Go.Proofs.Ytjejifbpidgnmaa
