/-
  The document's disk as plain lists: files in order, operations, what is seen. No program in sight.
-/
import Derived.WalkKit
namespace Go.Proofs.Ytjejifbpidgnmaa

/-- a file: its name, its bytes -/
abbrev AFile := ByteArray × List UInt8

structure AOp where
  kind : Nat
  name : ByteArray
  other : ByteArray
  pos : Nat
  bytes : List UInt8

abbrev bl (a b : ByteArray) : Bool := Op.bytesLess a.toList b.toList

def afind (l : List AFile) (n : ByteArray) : Option AFile := l.find? (fun f => decide (f.1 = n))
def awithout (l : List AFile) (n : ByteArray) : List AFile := l.filter (fun f => decide (f.1 ≠ n))
def awith (l : List AFile) (f : AFile) : List AFile :=
  (awithout l f.1).takeWhile (fun g => bl g.1 f.1) ++ f :: (awithout l f.1).dropWhile (fun g => bl g.1 f.1)
def aoverlay (old : List UInt8) (pos : Nat) (b : List UInt8) : List UInt8 :=
  (old ++ List.replicate (pos + b.length - old.length) 0).take pos ++ b ++ (old ++ List.replicate (pos + b.length - old.length) 0).drop (pos + b.length)
def aold (l : List AFile) (n : ByteArray) : List UInt8 := ((afind l n).map (·.2)).getD []
def ado (l : List AFile) (o : AOp) : List AFile :=
  if o.kind = 0 then awith l (o.name, aoverlay (aold l o.name) o.pos o.bytes)
  else match afind l o.name with
    | none => l
    | some f => if o.kind = 1 then awith (awithout l o.name) (o.other, f.2) else awithout l o.name
def aseen (sure : List AFile) (way : List AOp) : List AFile := way.foldl ado sure
def asize (l : List AFile) : Nat := (l.map (·.2.length)).sum

theorem length_awithout (l : List AFile) (n : ByteArray) : (awithout l n).length ≤ l.length := List.length_filter_le _ _
theorem length_awith (l : List AFile) (f : AFile) : (awith l f).length = (awithout l f.1).length + 1 := by
  unfold awith
  have h := congrArg List.length (List.takeWhile_append_dropWhile (p := fun g : AFile => bl g.1 f.1) (l := awithout l f.1))
  simp only [List.length_append] at h
  simp only [List.length_append, List.length_cons]
  omega
theorem length_ado (l : List AFile) (o : AOp) : (ado l o).length ≤ l.length + 1 := by
  unfold ado
  have h1 := length_awithout l o.name
  split
  · rw [length_awith]; exact Nat.succ_le_succ (length_awithout _ _)
  · split
    · omega
    · split
      · rw [length_awith]; have := length_awithout (awithout l o.name) o.other; simp only; omega
      · omega
theorem length_aseen (way : List AOp) : ∀ sure : List AFile, (aseen sure way).length ≤ sure.length + way.length := by
  induction way with
  | nil => intro sure; simp [aseen]
  | cons o way ih => intro sure; have := ih (ado sure o); have h2 := length_ado sure o; simp only [aseen, List.foldl_cons, List.length_cons] at *; omega

theorem length_aoverlay (old : List UInt8) (pos : Nat) (b : List UInt8) : (aoverlay old pos b).length = max old.length (pos + b.length) := by
  simp only [aoverlay, List.length_append, List.length_take, List.length_drop, List.length_replicate]; omega

theorem afind_mem {l : List AFile} {n : ByteArray} {f : AFile} (h : afind l n = some f) : f ∈ l ∧ f.1 = n :=
  ⟨List.mem_of_find?_eq_some h, by have := List.find?_some h; simpa using this⟩

/-- no file has more bytes than so many -/
def OkF (M : Nat) (l : List AFile) : Prop := ∀ f ∈ l, f.2.length ≤ M
def OkO (M : Nat) (o : AOp) : Prop := o.kind ≤ 2 ∧ o.pos + o.bytes.length ≤ M

theorem OkF.without {M : Nat} {l : List AFile} (h : OkF M l) (n : ByteArray) : OkF M (awithout l n) := fun f hf => h f ((List.mem_filter.1 hf).1)
theorem mem_awith {l : List AFile} {f g : AFile} (h : g ∈ awith l f) : g = f ∨ g ∈ l := by
  unfold awith at h
  rcases List.mem_append.1 h with h | h
  · exact .inr ((List.mem_filter.1 (List.takeWhile_subset _ h)).1)
  · rcases List.mem_cons.1 h with h | h
    · exact .inl h
    · exact .inr ((List.mem_filter.1 (List.dropWhile_subset _ h)).1)
theorem OkF.aold {M : Nat} {l : List AFile} (h : OkF M l) (n : ByteArray) : (aold l n).length ≤ M := by
  unfold Proofs.Ytjejifbpidgnmaa.aold
  cases hf : afind l n with
  | none => simp
  | some f => exact h f (afind_mem hf).1
theorem OkF.do {M : Nat} {l : List AFile} (h : OkF M l) {o : AOp} (ho : OkO M o) : OkF M (ado l o) := by
  unfold ado
  split
  · intro g hg
    rcases mem_awith hg with rfl | hg
    · have := h.aold o.name; have h2 := ho.2; simp only [length_aoverlay]; omega
    · exact h g hg
  · cases hf : afind l o.name with
    | none => exact h
    | some f =>
      dsimp only
      split
      · intro g hg
        rcases mem_awith hg with rfl | hg
        · exact h f (afind_mem hf).1
        · exact h.without _ g hg
      · exact h.without _
theorem OkF.seen {M : Nat} : ∀ {way : List AOp} {l : List AFile}, OkF M l → (∀ o ∈ way, OkO M o) → OkF M (aseen l way)
  | [], _, h, _ => h
  | o :: way, l, h, ho => OkF.seen (way := way) (l := ado l o) (h.do (ho o (by simp))) (fun p hp => ho p (by simp [hp]))

theorem asize_take_succ {l : List AFile} {k : Nat} {f : AFile} (hk : l[k]? = some f) : asize (l.take (k + 1)) = asize (l.take k) + f.2.length := by
  rw [List.take_add_one, hk]; simp [asize]
theorem asize_le {M : Nat} : ∀ {l : List AFile}, OkF M l → asize l ≤ l.length * M
  | [], _ => by simp [asize]
  | f :: l, h => by
    have h1 := h f (by simp)
    have h2 := asize_le (l := l) (fun g hg => h g (by simp [hg]))
    simp only [asize, List.map_cons, List.sum_cons, List.length_cons, Nat.add_mul] at *
    omega

end Go.Proofs.Ytjejifbpidgnmaa
