/-
  The program's disk: files as a map from names to slices of bytes; the map's words against the list of files.
-/
import Derived.Test.YtjejifbpidgnmaaRows
import Derived.Test.YtjejifbpidgnmaaMem
import Derived.Test.YtjejifbpidgnmaaDPlain
import Derived.Maps.OwnSet
import Derived.Maps.RangeWalk
import Derived.Maps.Ext
import Derived.Sort.KeysCollected
namespace Go.Proofs.Ytjejifbpidgnmaa
open Go.RowKit Go.Maps

inductive Fa2 {α β : Type} (R : α → β → Prop) : List α → List β → Prop
  | nil : Fa2 R [] []
  | cons {a : α} {b : β} {l : List α} {m : List β} : R a b → Fa2 R l m → Fa2 R (a :: l) (b :: m)

section
variable {α β : Type} {R R' : α → β → Prop}
theorem Fa2.mono (h : ∀ a b, R a b → R' a b) : ∀ {l : List α} {m : List β}, Fa2 R l m → Fa2 R' l m
  | _, _, .nil => .nil
  | _, _, .cons h1 h2 => .cons (h _ _ h1) (h2.mono h)
theorem Fa2.length : ∀ {l : List α} {m : List β}, Fa2 R l m → l.length = m.length
  | _, _, .nil => rfl
  | _, _, .cons _ h => by simp [h.length]
theorem Fa2.filter {p : α → Bool} {q : β → Bool} (h : ∀ a b, R a b → p a = q b) : ∀ {l : List α} {m : List β}, Fa2 R l m → Fa2 R (l.filter p) (m.filter q)
  | _, _, .nil => .nil
  | _, _, .cons (a := a) (b := b) h1 h2 => by
    have e := h _ _ h1
    have ih := h2.filter h
    cases hq : q b
    · rw [List.filter_cons_of_neg (by simp [e, hq]), List.filter_cons_of_neg (by simp [hq])]; exact ih
    · rw [List.filter_cons_of_pos (by simp [e, hq]), List.filter_cons_of_pos (by simp [hq])]; exact .cons h1 ih
theorem Fa2.find {p : α → Bool} {q : β → Bool} (h : ∀ a b, R a b → p a = q b) : ∀ {l : List α} {m : List β}, Fa2 R l m → (l.find? p = none ∧ m.find? q = none) ∨ ∃ a b, l.find? p = some a ∧ m.find? q = some b ∧ R a b
  | _, _, .nil => .inl ⟨rfl, rfl⟩
  | _, _, .cons (a := a) (b := b) h1 h2 => by
    have e := h _ _ h1
    cases hq : q b
    · rw [List.find?_cons_of_neg (by simp [e, hq]), List.find?_cons_of_neg (by simp [hq])]; exact h2.find h
    · rw [List.find?_cons_of_pos (by simp [e, hq]), List.find?_cons_of_pos (by simp [hq])]; exact .inr ⟨_, _, rfl, rfl, h1⟩
theorem Fa2.any {p : α → Bool} {q : β → Bool} (h : ∀ a b, R a b → p a = q b) : ∀ {l : List α} {m : List β}, Fa2 R l m → l.any p = m.any q
  | _, _, .nil => rfl
  | _, _, .cons h1 h2 => by simp [h _ _ h1, h2.any h]
theorem Fa2.mem_right : ∀ {l : List α} {m : List β}, Fa2 R l m → ∀ b ∈ m, ∃ a ∈ l, R a b
  | _, _, .cons h1 h2, b, hb => by
    rcases List.mem_cons.1 hb with rfl | hb
    · exact ⟨_, by simp, h1⟩
    · obtain ⟨a, ha, hr⟩ := h2.mem_right b hb; exact ⟨a, by simp [ha], hr⟩
theorem Fa2.mem_left : ∀ {l : List α} {m : List β}, Fa2 R l m → ∀ a ∈ l, ∃ b ∈ m, R a b
  | _, _, .cons h1 h2, b, hb => by
    rcases List.mem_cons.1 hb with rfl | hb
    · exact ⟨_, by simp, h1⟩
    · obtain ⟨a, ha, hr⟩ := h2.mem_left b hb; exact ⟨a, by simp [ha], hr⟩
theorem Fa2.map_eq {γ : Type} {f : α → γ} {g : β → γ} (h : ∀ a b, R a b → f a = g b) : ∀ {l : List α} {m : List β}, Fa2 R l m → l.map f = m.map g
  | _, _, .nil => rfl
  | _, _, .cons h1 h2 => by simp [h _ _ h1, h2.map_eq h]
end

/-! ### the order of names -/
theorem before_eq : ∀ x y : List UInt8, bytesBefore x y = Op.bytesLess x y
  | [], [] => rfl
  | [], _ :: _ => rfl
  | _ :: _, [] => rfl
  | a :: r, b :: s => by simp only [bytesBefore, Op.bytesLess, before_eq r s]

abbrev klit (n : ByteArray) : Lit := .string n.data.toList

theorem klit_inj {a b : ByteArray} (h : a.data.toList = b.data.toList) : a = b := ByteArray.ext (Array.toList_inj.1 h)
theorem sameKey_klit (a b : ByteArray) : (klit a).sameKey (klit b) = decide (a = b) := by
  show (a.data.toList == b.data.toList) = _
  by_cases h : a = b
  · subst h; simp
  · have : a.data.toList ≠ b.data.toList := fun e => h (klit_inj e)
    rw [decide_eq_false h]; exact beq_eq_false_iff_ne.2 this
theorem before_klit (a b : ByteArray) : (klit a).before (klit b) = bl a b := by
  show bytesBefore a.data.toList b.data.toList = Op.bytesLess a.toList b.toList
  rw [before_eq, ByteArray.toList_eq, ByteArray.toList_eq]
/-- of two other names one is less -/
theorem bl_flip {a b : ByteArray} (h : a ≠ b) : bl a b = !bl b a := by
  have hne : a.data.toList ≠ b.data.toList := fun e => h (klit_inj e)
  rw [← before_klit, ← before_klit]
  show bytesBefore a.data.toList b.data.toList = !bytesBefore b.data.toList a.data.toList
  rcases WideAt.bytes_total _ _ hne with h1 | h1
  · cases h2 : bytesBefore b.data.toList a.data.toList
    · rw [h1]; rfl
    · have := WideShapes.bytes_trans _ _ _ h1 h2
      rw [WideAt.bytes_irrefl] at this; cases this
  · cases h2 : bytesBefore a.data.toList b.data.toList
    · rw [h1]; rfl
    · have := WideShapes.bytes_trans _ _ _ h1 h2
      rw [WideAt.bytes_irrefl] at this; cases this

/-! ### a map of slices -/
/-- how an element reads: as itself -/
def RS : Value → Option (DataW Value × List MemPlace)
  | .slice a n c => some (.held (.slice a n c), [])
  | _ => none
theorem RS_inv {v : Value} {y : DataW Value × List MemPlace} (h : RS v = some y) : ∃ a n c, v = .slice a n c ∧ y = (.held (.slice a n c), []) := by
  unfold RS at h
  split at h
  · cases h; exact ⟨_, _, _, rfl, rfl⟩
  · cases h

/-- bytes in memory, in a row of bytes -/
def Bs (w : World) (v : Value) (l : List UInt8) : Prop := Sl w v l.length 1 (bcells l) ∧ ∀ b, v.ownBlock = some b → ∃ c fr, w.heap[b]? = some (.cells c 5 fr)
/-- no row of bytes -/
def NoBytes (w : World) (b : Nat) : Prop := ∀ c fr, w.heap[b]? ≠ some (.cells c 5 fr)

theorem Bs.keep {S : Nat → Prop} {w w' : World} {v : Value} {l : List UInt8} (h : Bs w v l) (k : Keeps S w w') (hS : ∀ b, S b → NoBytes w b) : Bs w' v l := by
  have hn : ∀ b, v.ownBlock = some b → ¬ S b := fun b hb hs => by obtain ⟨c, fr, hc⟩ := h.2 b hb; exact hS b hs c fr hc
  refine ⟨h.1.keep k hn, fun b hb => ?_⟩
  obtain ⟨c, fr, hc⟩ := h.2 b hb
  exact ⟨c, fr, (k.block b (Sl.lt h.1 hb) (hn b hb)).trans hc⟩
theorem Bs.below {w w' : World} {v : Value} {l : List UInt8} (h : Bs w v l) (k : Below w.heap.size w w') : Bs w' v l :=
  h.keep (keeps_of_below k (Nat.le_refl _) (fun _ => False)) (fun _ h => h.elim)
theorem Bs.shape {w : World} {v : Value} {l : List UInt8} (h : Bs w v l) : ∃ a c, v = .slice a l.length c ∧ l.length ≤ c ∧ c ≤ maxLen := by
  obtain ⟨⟨_, a, c, hv, h1, h2, _⟩, _⟩ := h; exact ⟨a, c, hv, h1, h2⟩

/-- an entry is a file -/
def Ent (w : World) (f : AFile) (p : Lit × DataW Value) : Prop := p.1 = klit f.1 ∧ ∃ v, p.2 = .held v ∧ Bs w v f.2
/-- block m is a map that holds these files -/
def MapFs (w : World) (m n : Nat) (fs : List AFile) : Prop := ∃ es, w.ownsMap Try.prog 9 RS m n (.map es) ∧ Fa2 (Ent w) fs es

theorem Ent.keep {S : Nat → Prop} {w w' : World} {f : AFile} {p : Lit × DataW Value} (h : Ent w f p) (k : Keeps S w w') (hS : ∀ b, S b → NoBytes w b) : Ent w' f p := by
  obtain ⟨h1, v, h2, h3⟩ := h; exact ⟨h1, v, h2, h3.keep k hS⟩

theorem MapFs.lt {w : World} {m n : Nat} {fs : List AFile} (h : MapFs w m n fs) : m < w.heap.size := by obtain ⟨es, h, _⟩ := h; exact h.lt
theorem ownsMap_keep {S : Nat → Prop} {w w' : World} {m n : Nat} {D : DataW Value} (h : w.ownsMap Try.prog 9 RS m n D) (k : Keeps S w w') (hm : ¬ S m) : w'.ownsMap Try.prog 9 RS m n D := by
  have hlt := h.lt
  obtain ⟨es, clock, hb, F, hs, hD⟩ := h
  exact ⟨es, clock, (k.block m hlt hm).trans hb, F, hs, hD⟩
theorem MapFs.keep {S : Nat → Prop} {w w' : World} {m n : Nat} {fs : List AFile} (h : MapFs w m n fs) (k : Keeps S w w') (hm : ¬ S m) (hS : ∀ b, S b → NoBytes w b) : MapFs w' m n fs := by
  obtain ⟨es, h1, h2⟩ := h
  exact ⟨es, ownsMap_keep h1 k hm, h2.mono fun _ _ e => e.keep k hS⟩
theorem MapFs.below {w w' : World} {m n : Nat} {fs : List AFile} (h : MapFs w m n fs) (k : Below w.heap.size w w') : MapFs w' m n fs :=
  h.keep (keeps_of_below k (Nat.le_refl _) (fun _ => False)) id (fun _ h => h.elim)
theorem MapFs.noBytes {w : World} {m n : Nat} {fs : List AFile} (h : MapFs w m n fs) : NoBytes w m := by
  obtain ⟨_, ⟨_, _, hb, _⟩, _⟩ := h
  intro c fr e; rw [hb] at e; cases e

theorem ent_key {w : World} (n : ByteArray) : ∀ f p, Ent w f p → decide (f.1 = n) = p.1.sameKey (klit n) := fun f p h => by rw [h.1, sameKey_klit]

/-- what is found at a name -/
theorem fa2_find {w : World} {fs : List AFile} {es : List (Lit × DataW Value)} (h : Fa2 (Ent w) fs es) (n : ByteArray) :
    (afind fs n = none ∧ Maps.has (.map es) (klit n) = false ∧ ∀ z, (DataW.map es).atKey (klit n) z = z) ∨
    ∃ f v, afind fs n = some f ∧ Maps.has (.map es) (klit n) = true ∧ (∀ z, (DataW.map es).atKey (klit n) z = .held v) ∧ Bs w v f.2 := by
  rcases h.find (ent_key n) with ⟨h1, h2⟩ | ⟨f, p, h1, h2, h3⟩
  · refine .inl ⟨h1, ?_, fun z => by simp [DataW.atKey, h2]⟩
    rw [Maps.has_eq, List.any_eq_false]
    intro x hx; have := List.find?_eq_none.1 h2 x hx; simpa using this
  · obtain ⟨_, v, hv, hb⟩ := h3
    refine .inr ⟨f, v, h1, ?_, fun z => by simp [DataW.atKey, h2, hv], hb⟩
    rw [Maps.has_eq, List.any_eq_true]
    exact ⟨p, List.mem_of_find?_eq_some h2, by have := List.find?_some h2; exact this⟩

theorem fa2_del {w : World} {fs : List AFile} {es : List (Lit × DataW Value)} (h : Fa2 (Ent w) fs es) (n : ByteArray) : Fa2 (Ent w) (awithout fs n) (es.filter fun p => !p.1.sameKey (klit n)) :=
  h.filter (fun f p hp => by rw [← ent_key n f p hp]; simp)

theorem fa2_insert {w : World} (f : AFile) (p : Lit × DataW Value) (hp : Ent w f p) : ∀ {fs : List AFile} {es : List (Lit × DataW Value)}, Fa2 (Ent w) fs es → (∀ g ∈ fs, g.1 ≠ f.1) →
    Fa2 (Ent w) (fs.takeWhile (fun g => bl g.1 f.1) ++ f :: fs.dropWhile (fun g => bl g.1 f.1)) (DataW.insert p es)
  | _, _, .nil, _ => .cons hp .nil
  | _, _, .cons (a := g) (b := q) (l := fs) (m := es) h1 h2, hne => by
    have hk : p.1.before q.1 = bl f.1 g.1 := by rw [hp.1, h1.1, before_klit]
    have hfl := bl_flip (hne g (by simp))
    unfold DataW.insert
    rw [hk]
    cases hb : bl f.1 g.1
    · rw [hb] at hfl
      rw [List.takeWhile_cons_of_pos (by simpa using hfl), List.dropWhile_cons_of_pos (by simpa using hfl), if_neg (by simp)]
      exact .cons h1 (fa2_insert f p hp h2 (fun x hx => hne x (by simp [hx])))
    · rw [hb] at hfl
      rw [List.takeWhile_cons_of_neg (by simp [hfl]), List.dropWhile_cons_of_neg (by simp [hfl]), if_pos rfl]
      exact .cons hp (.cons h1 h2)

theorem fa2_put {w : World} {fs : List AFile} {es : List (Lit × DataW Value)} (h : Fa2 (Ent w) fs es) (f : AFile) (v : Value) (hv : Bs w v f.2) :
    ∃ es', (DataW.map es).put (klit f.1) (.held v) = .map es' ∧ Fa2 (Ent w) (awith fs f) es' := by
  refine ⟨_, rfl, ?_⟩
  exact fa2_insert f (klit f.1, .held v) ⟨rfl, v, rfl, hv⟩ (fa2_del h f.1) (fun g hg => by simpa using (List.mem_filter.1 hg).2)

theorem lawStr : Keyed Try.prog 9 := string_keyed Try.underlying9

/-- all bytes of all files -/
theorem size_fold {w : World} {fs : List AFile} {es : List (Lit × DataW Value)} (h : Fa2 (Ent w) fs es) : (Maps.size (.map es)) = fs.length := by rw [Maps.size_eq, h.length]

end Go.Proofs.Ytjejifbpidgnmaa
