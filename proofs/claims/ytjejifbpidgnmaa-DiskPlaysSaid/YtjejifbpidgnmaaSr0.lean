/-
  A slice that may be read: one that lies in memory, or one without a place in it.
-/
import Derived.Test.YtjejifbpidgnmaaMem
namespace Go.Proofs.Ytjejifbpidgnmaa
open Go.RowKit

/-- a slice that can be read, or an empty one without a capacity, wherever it points -/
def Sr (w : World) (v : Value) (n size : Nat) (cs : List Value) : Prop := Sl w v n size cs ∨ (n = 0 ∧ cs = [] ∧ ∃ a, v = .slice (some a) 0 0)

theorem Sr.shape {w : World} {v : Value} {n size : Nat} {cs : List Value} (h : Sr w v n size cs) : ∃ a c, v = .slice a n c ∧ n ≤ c ∧ c ≤ maxLen := by
  rcases h with ⟨_, a, c, hv, h1, h2, _⟩ | ⟨rfl, _, a, hv⟩
  · exact ⟨a, c, hv, h1, h2⟩
  · exact ⟨some a, 0, hv, Nat.le_refl _, Nat.zero_le _⟩

/-- what it leans on, where it has elements -/
theorem Sr.keep {S : Nat → Prop} {w w' : World} {v : Value} {n size : Nat} {cs : List Value} (h : Sr w v n size cs) (k : Keeps S w w') (hs : 0 < n → ∀ b, v.ownBlock = some b → ¬ S b) : Sr w' v n size cs := by
  rcases h with h | ⟨h1, h2, a, h3⟩
  · by_cases hn : 0 < n
    · exact .inl (Sl.keep h k (hs hn))
    · obtain ⟨hl, a, c, hv, h1, h2, h3⟩ := h
      obtain rfl : n = 0 := by omega
      obtain rfl : cs = [] := List.eq_nil_of_length_eq_zero (by rw [hl, Nat.zero_mul])
      have := k.size
      refine .inl ⟨by simp, a, c, hv, h1, h2, h3.imp id ?_⟩
      rintro ⟨b, off, e, hb, _⟩
      exact ⟨b, off, e, by omega, fun j u hj => by simp at hj⟩
  · exact .inr ⟨h1, h2, a, h3⟩
theorem Sr.below {w w' : World} {v : Value} {n size : Nat} {cs : List Value} (h : Sr w v n size cs) (k : Below w.heap.size w w') : Sr w' v n size cs :=
  h.keep (keeps_of_below k (Nat.le_refl _) (fun _ => False)) (fun _ _ _ => id)

theorem Sr.cells {w : World} {a : Option Addr} {n c size : Nat} {cs : List Value} (h : Sr w (.slice a n c) n size cs) (hn : 0 < n) : ∃ b off, a = some ⟨b, off, none⟩ ∧ b < w.heap.size ∧ At w b off cs := by
  rcases h with ⟨_, a', c', hv, _, _, h3⟩ | ⟨h1, _⟩
  · cases hv
    rcases h3 with ⟨_, h0, _⟩ | h3
    · omega
    · exact h3
  · omega

theorem Sr.lt {w : World} {v : Value} {n size : Nat} {cs : List Value} (h : Sr w v n size cs) (hn : 0 < n) {b : Nat} (hb : v.ownBlock = some b) : b < w.heap.size := by
  rcases h with h | ⟨h1, _⟩
  · exact Sl.lt h hb
  · omega

theorem Sr.convert {P : Program} {w : World} {src dst e : TypeId} {v : Value} {n : Nat} {l : List UInt8} (hs : P.underlying src = some (.slice e)) (hd : P.underlying dst = some .string) (he : P.underlying e = some (.int .u8))
    (h : Sr w v n 1 (bcells l)) : (convert src dst v).run P w = .ok (.string ⟨l.toArray⟩) w := by
  rcases h with h | ⟨_, h2, a, rfl⟩
  · exact run_convert_bs hs hd he h
  · obtain rfl : l = [] := by simpa using h2
    exact (run_convert_bytes_string w src dst e (some a) 0 0 hs he hd).trans (run_bytesToString w a 0 0 [] (by first | rfl | simp [loadCells]))

theorem wpList_convert_sr {P : Program} {w : World} {ops : Array Oper} {rest : List Oper} {o : Oper} {ac : Act} {Q : Exit → Act → World → Prop} (hgd : o.guard = none) {src dst e : TypeId} {x : Operand}
    (ho : o.op = .convert src dst x) (hs : P.underlying src = some (.slice e)) (hd : P.underlying dst = some .string) (he : P.underlying e = some (.int .u8)) {v : Value} {n : Nat} {l : List UInt8} (hx : ac.eval x = v)
    (hv : Sr w v n 1 (bcells l)) (h : wpList P ops Q rest (ac.put o.dst (.string ⟨l.toArray⟩)) w) : wpList P ops Q (o :: rest) ac w := by
  refine wpList_plain hgd fun K' hK' => ?_
  have hr := Sr.convert (P := P) (w := w) (src := src) (dst := dst) hs hd he hv
  unfold Oper.wp execOp
  simp only [ho, hx, hr, Sem.run_bind, Sem.run_pure, Result.andThen_ok]
  exact hK' _ _ h

end Go.Proofs.Ytjejifbpidgnmaa
