/-
  The program's disk in memory, and done.
-/
import Derived.Test.YtjejifbpidgnmaaDP3
namespace Go.Proofs.Ytjejifbpidgnmaa
open Go.RowKit Go.Maps

/-- an operation's cells, as the program's value -/
def pcell (p : AOp × Value) : List Value := [.int .i64 p.1.kind, .string p.1.name, .string p.1.other, .int .i64 p.1.pos, p.2]

/-- the blocks of a disk -/
def Foot (d ms mv : Nat) (uv : Value) (b : Nat) : Prop := b = d ∨ b = ms ∨ b = mv ∨ uv.ownBlock = some b

/-- block d is the program's disk of these files and operations -/
structure PD (w : World) (d ms mv : Nat) (uv : Value) (room left : Int) (down : Bool) (sure : List AFile) (way : List AOp) (K : Nat) : Prop where
  hd : w.heap[d]? = some (.cells (dcells room ms mv uv left down) 52)
  hs : MapFs w ms sure.length sure
  hv : MapFs w mv (aseen sure way).length (aseen sure way)
  hne : ms ≠ mv
  hu : ∃ ps : List (AOp × Value), way = ps.map (·.1) ∧ Own (fun _ => True) w uv ps.length 5 (ps.flatMap pcell) ∧ ∀ p ∈ ps, Bs w p.2 p.1.bytes
  hty : Typed w 72 uv
  hK : sure.length + way.length ≤ K
  ok : OkF 1000000000000 sure
  oo : ∀ o ∈ way, OkO 1000000000000 o ∧ OkN o

theorem MapFs.tight {w : World} {m n : Nat} {fs : List AFile} (h : MapFs w m n fs) : MapFs w m fs.length fs := by
  obtain ⟨es, h1, h2⟩ := h
  refine ⟨es, ?_, h2⟩
  obtain ⟨ar, clock, hb, Ft, hs, hD⟩ := h1
  refine ⟨ar, clock, hb, Ft, ?_, hD⟩
  have hl : es.length = ar.size := by
    have e := hD
    simp only [DataW.map.injEq] at e
    rw [e, length_read]
  rw [h2.length, hl]
  exact Nat.le_refl _

theorem noBytes_cells {w : World} {b : Nat} {c : Array Value} {e : TypeId} {fr : Nat × Nat} (h : w.heap[b]? = some (.cells c e fr)) (he : e ≠ 5) : NoBytes w b := by
  intro c' fr' h'
  rw [h] at h'
  cases h'
  exact he rfl

theorem PD.foot {w : World} {d ms mv : Nat} {uv : Value} {room left : Int} {down : Bool} {sure : List AFile} {way : List AOp} {K : Nat} (h : PD w d ms mv uv room left down sure way K) {b : Nat} (hb : Foot d ms mv uv b) : NoBytes w b ∧ b < w.heap.size := by
  rcases hb with rfl | rfl | rfl | hb
  · exact ⟨noBytes_cells h.hd (by decide), (Array.getElem?_eq_some_iff.1 h.hd).1⟩
  · exact ⟨h.hs.noBytes, h.hs.lt⟩
  · exact ⟨h.hv.noBytes, h.hv.lt⟩
  · obtain ⟨c, fr, hc⟩ := h.hty b hb
    exact ⟨noBytes_cells hc (by decide), (Array.getElem?_eq_some_iff.1 hc).1⟩

/-- a disk stays what it is while none of its blocks turns -/
theorem PD.keep {S : Nat → Prop} {w w' : World} {d ms mv : Nat} {uv : Value} {room left : Int} {down : Bool} {sure : List AFile} {way : List AOp} {K : Nat} (h : PD w d ms mv uv room left down sure way K) (k : Keeps S w w')
    (hF : ∀ b, Foot d ms mv uv b → ¬ S b) (hS : ∀ b, S b → NoBytes w b) : PD w' d ms mv uv room left down sure way K := by
  have hdlt := (h.foot (.inl rfl)).2
  refine ⟨(k.block d hdlt (hF d (.inl rfl))).trans h.hd, h.hs.keep k (hF _ (.inr (.inl rfl))) hS, h.hv.keep k (hF _ (.inr (.inr (.inl rfl)))) hS, h.hne, ?_, ?_, h.hK, h.ok, h.oo⟩
  · obtain ⟨ps, h1, h2, h3⟩ := h.hu
    exact ⟨ps, h1, h2.keep k (fun b hb => hF b (.inr (.inr (.inr hb)))), fun p hp => (h3 p hp).keep k hS⟩
  · intro b hb
    obtain ⟨c, fr, hc⟩ := h.hty b hb
    exact ⟨c, fr, (k.block b (h.foot (.inr (.inr (.inr hb)))).2 (hF b (.inr (.inr (.inr hb))))).trans hc⟩

theorem PD.below {w w' : World} {d ms mv : Nat} {uv : Value} {room left : Int} {down : Bool} {sure : List AFile} {way : List AOp} {K : Nat} (h : PD w d ms mv uv room left down sure way K) (k : Below w.heap.size w w') :
    PD w' d ms mv uv room left down sure way K :=
  h.keep (keeps_of_below k (Nat.le_refl _) (fun _ => False)) (fun _ _ => id) (fun _ h => h.elim)

theorem PD.mono {w : World} {d ms mv : Nat} {uv : Value} {room left : Int} {down : Bool} {sure : List AFile} {way : List AOp} {K K' : Nat} (h : PD w d ms mv uv room left down sure way K) (hK : K ≤ K') : PD w d ms mv uv room left down sure way K' :=
  ⟨h.hd, h.hs, h.hv, h.hne, h.hu, h.hty, Nat.le_trans h.hK hK, h.ok, h.oo⟩

/-- only the numbers of the disk's own block have turned -/
theorem PD.turn {w w' : World} {d ms mv : Nat} {uv : Value} {room left left' : Int} {down down' : Bool} {sure : List AFile} {way : List AOp} {K : Nat} (h : PD w d ms mv uv room left down sure way K) (k : Keeps (· = d) w w')
    (hd : w'.heap[d]? = some (.cells (dcells room ms mv uv left' down') 52)) : PD w' d ms mv uv room left' down' sure way K := by
  have hS : ∀ b, b = d → NoBytes w b := fun b hb => by subst hb; exact (h.foot (.inl rfl)).1
  have hdm : ∀ {m n fs}, MapFs w m n fs → ¬ m = d := fun {m n fs} hm e => by
    subst e; obtain ⟨_, ⟨_, _, hb, _⟩, _⟩ := hm; rw [h.hd] at hb; cases hb
  have hdu : ∀ b, uv.ownBlock = some b → ¬ b = d := fun b hb e => by
    subst e; obtain ⟨c, fr, hc⟩ := h.hty b hb; rw [h.hd] at hc; cases hc
  refine ⟨hd, h.hs.keep k (hdm h.hs) hS, h.hv.keep k (hdm h.hv) hS, h.hne, ?_, ?_, h.hK, h.ok, h.oo⟩
  · obtain ⟨ps, h1, h2, h3⟩ := h.hu
    exact ⟨ps, h1, h2.keep k hdu, fun p hp => (h3 p hp).keep k hS⟩
  · intro b hb
    obtain ⟨c, fr, hc⟩ := h.hty b hb
    exact ⟨c, fr, (k.block b (Array.getElem?_eq_some_iff.1 hc).1 (hdu b hb)).trans hc⟩

theorem infoOp : (Try.prog.info? 72).map (fun i => (i.zero, i.size, i.bytes)) = some (some (.agg #[.int .i64 0, .string ⟨#[]⟩, .string ⟨#[]⟩, .int .i64 0, .slice none 0 0]), 5, 72) := by kernel_rfl

end Go.Proofs.Ytjejifbpidgnmaa
