/-
  What comes of what is asked of the program's disk.
-/
import Derived.Test.YtjejifbpidgnmaaDP5
import Derived.Test.YtjejifbpidgnmaaDRef7
namespace Go.Proofs.Ytjejifbpidgnmaa
open Go.RowKit Go.Maps

theorem asize_append (a b : List AFile) : asize (a ++ b) = asize a + asize b := by simp [asize]
theorem asize_awith (l : List AFile) (f : AFile) : asize (awith l f) = asize (awithout l f.1) + f.2.length := by
  unfold awith
  have h := congrArg asize (List.takeWhile_append_dropWhile (p := fun g : AFile => bl g.1 f.1) (l := awithout l f.1))
  rw [asize_append] at h
  rw [asize_append]
  have h2 : asize (f :: (awithout l f.1).dropWhile (fun g => bl g.1 f.1)) = f.2.length + asize ((awithout l f.1).dropWhile (fun g => bl g.1 f.1)) := by simp [asize]
  omega
theorem asize_without {l : List AFile} (hp : l.Pairwise (fun a b => a.1 ≠ b.1)) (n : ByteArray) : asize l = asize (awithout l n) + (aold l n).length := by
  induction l with
  | nil => rfl
  | cons f l ih =>
    obtain ⟨h1, h2⟩ := List.pairwise_cons.1 hp
    by_cases hf : f.1 = n
    · have e1 : awithout (f :: l) n = l := by
        unfold awithout
        rw [List.filter_cons_of_neg (by simp [hf])]
        exact List.filter_eq_self.2 (fun x hx => by have := h1 x hx; rw [hf] at this; simpa using this.symm)
      have e2 : aold (f :: l) n = f.2 := by simp [aold, afind, hf]
      rw [e1, e2]; simp [asize]; omega
    · have e1 : awithout (f :: l) n = f :: awithout l n := by unfold awithout; rw [List.filter_cons_of_pos (by simp [hf])]
      have e2 : aold (f :: l) n = aold l n := by simp [aold, afind, hf]
      rw [e1, e2]
      have := ih h2
      simp only [asize, List.map_cons, List.sum_cons] at this ⊢; omega
theorem asize_write {l : List AFile} (hp : l.Pairwise (fun a b => a.1 ≠ b.1)) (name other : ByteArray) (pos : Nat) (bytes : List UInt8) :
    asize (ado l ⟨0, name, other, pos, bytes⟩) = asize l + (max (pos + bytes.length) (aold l name).length - (aold l name).length) := by
  have h := asize_without hp name
  simp only [ado, if_true, asize_awith, length_aoverlay]
  omega

def AskPost (d ms mv : Nat) (uv : Value) (room left : Int) (down : Bool) (sure : List AFile) (way : List AOp) (K : Nat) (E : Int) (o : AOp) (w : World) (e : Ending) (w' : World) : Prop :=
  ∃ uv', e = .returned (.int .i64 (aask E way o left down).2.2.2) ∧ PD w' d ms mv uv' room (aask E way o left down).2.1 (aask E way o left down).2.2.1 sure (aask E way o left down).1 (K + 1) ∧ Keeps (Foot d ms mv uv) w w' ∧
    (∀ b, uv'.ownBlock = some b → uv.ownBlock = some b ∨ w.heap.size ≤ b)

/-- nothing was done -/
theorem AskPost.no {d ms mv : Nat} {uv : Value} {room left : Int} {down : Bool} {sure : List AFile} {way : List AOp} {K : Nat} {E : Int} {o : AOp} {w w' : World} (hE : E ≠ 0) (h : PD w' d ms mv uv room left down sure way K) (k : Keeps (Foot d ms mv uv) w w') :
    AskPost d ms mv uv room left down sure way K E o w (.returned (.int .i64 E)) w' := by
  refine ⟨uv, ?_, ?_, k, fun b hb => .inl hb⟩
  · simp only [aask, if_pos hE]
  · simp only [aask, if_pos hE]; exact h.mono (Nat.le_succ _)

/-- it was done -/
theorem AskPost.yes {d ms mv : Nat} {uv : Value} {room left : Int} {sure : List AFile} {way : List AOp} {K : Nat} {o : AOp} {w w1 w' : World} {e : Ending} (h : DonePost d ms mv uv room left sure way K o w1 e w') (k : Keeps (Foot d ms mv uv) w w1) :
    AskPost d ms mv uv room left false sure way K 0 o w e w' := by
  obtain ⟨uv', rfl, h1, h2, h3⟩ := h
  have hs := k.size
  refine ⟨uv', ?_, ?_, k.trans h2, fun b hb => (h3 b hb).imp id (fun h => by omega)⟩
  · simp only [aask, ne_eq, not_true, if_false]; split <;> rfl
  · simp only [aask, ne_eq, not_true, if_false]
    by_cases hl : left = 0
    · subst hl; simpa using h1
    · simpa [hl] using h1

end Go.Proofs.Ytjejifbpidgnmaa
