/-
  What is done, opened: the script as it comes.
-/
import Derived.Test.YtjejifbpidgnmaaDAct
import Derived.ProofKit
import Derived.ChangeSlices
import Derived.Deep.Slices
import Derived.DataReads
namespace Go.Proofs.Ytjejifbpidgnmaa
open Go.ChangeShapes Go.WideShapes Go.ChangeAt Go.RowKit Go.Deep

theorem sr_of {W : World} {a : Addr} {len cap size : Nat} {cs : List Value} (hl : cs.length = len * size) (hcap : len ≤ cap) (hm : cap ≤ maxLen) (hc0 : 0 < cap → ∃ u, W.cell? (a.add 0) = some u) (hcell : ∀ j u, cs[j]? = some u → W.cell? (a.add j) = some u) :
    Sr W (.slice (some a) len cap) len size cs := by
  by_cases h0 : cap = 0
  · obtain rfl : len = 0 := by omega
    subst h0
    exact .inr ⟨rfl, List.eq_nil_of_length_eq_zero (by rw [hl, Nat.zero_mul]), a, rfl⟩
  · obtain ⟨u, hu⟩ := hc0 (by omega)
    obtain ⟨b, off, spot⟩ := a
    have hspot : spot = none := by simpa [Addr.add] using World.cell?_spot hu
    subst hspot
    rw [addr_add] at hu
    have hlt : b < W.heap.size := by
      unfold World.cell? at hu
      dsimp only at hu
      split at hu
      · rename_i h; exact (Array.getElem?_eq_some_iff.1 h).1
      · cases hu
    exact .inl ⟨hl, _, _, rfl, hcap, hm, .inr ⟨b, off, rfl, hlt, fun j u hj => by have := hcell j u hj; rwa [addr_add] at this⟩⟩

theorem cells4 : Try.prog.cellsOf 4 = 1 := by kernel_rfl
theorem cells5 : Try.prog.cellsOf 5 = 1 := by kernel_rfl
theorem cellsA : Try.prog.cellsOf 37 = 6 := by kernel_rfl

section
variable {H : Type} {enc : TypeId × Value → H} {W : World}

theorem bytes_open {n : Nat} {v : Value} {y : DataW H × List MemPlace} (h : DataW.trod enc Try.prog W 0 (fun _ => true) true n 34 [v] = some y) : ∃ bytes, Sr W v bytes.length 1 (bcells bytes) := by
  rcases open_ints Try.underlying34 Try.underlying5 cells5 h with ⟨hcs, _⟩ | ⟨a, len, cap, zs, hcs, _, hl, hm, hz, _, hcell, hwz⟩
  · cases hcs
    exact ⟨[], .inl (Sl.nil _ _)⟩
  · cases hcs
    simp only [if_true] at hz
    have hb : ∀ z ∈ zs, ((UInt8.ofNat z.toNat).toNat : Int) = z := by
      intro z hz
      have := hwz z hz
      simp [Lit.wf, IntKind.min, IntKind.max, IntKind.bits, IntKind.signed] at this
      have h1 : z.toNat < 256 := by omega
      rw [UInt8.toNat_ofNat_of_lt' (by simpa using h1)]
      omega
    refine ⟨(zs.take len).map (fun z => UInt8.ofNat z.toNat), ?_⟩
    have hlen : ((zs.take len).map (fun z => UInt8.ofNat z.toNat)).length = len := by simp; omega
    rw [hlen]
    refine sr_of (by simp; omega) hl hm (fun h0 => ⟨_, hcell 0 (by omega)⟩) (fun j u hj => ?_)
    simp only [bcells, List.map_map, List.getElem?_map, Option.map_eq_some_iff] at hj
    obtain ⟨z, hz', rfl⟩ := hj
    have hj2 : j < len := by have := (List.getElem?_eq_some_iff.1 hz').1; simp at this; omega
    rw [List.getElem?_take_of_lt hj2] at hz'
    rw [hcell j (by omega), List.getD, hz', Option.getD_some]
    simp only [Function.comp]
    rw [hb z (List.mem_of_getElem? hz')]

theorem keep_open {n : Nat} {v : Value} {y : DataW H × List MemPlace} (h : DataW.trod enc Try.prog W 0 (fun _ => true) true n 35 [v] = some y) : ∃ keep, KeepAt W v keep := by
  rcases open_slice1 Try.underlying35 cells4 h with ⟨hcs, _⟩ | ⟨a, len, cap, m, n', V, D, Pl, hcs, _, hl, hm, hz, _, hcell⟩
  · cases hcs
    exact ⟨[], .inl (Sl.nil _ _)⟩
  · cases hcs
    simp only [if_true] at hz
    obtain ⟨f, hf⟩ := choose_lt (α := Bool) (p := fun i b => V i = .bool b) (fun i (hi : i < m) => by
      obtain ⟨b, hb, _⟩ := DataW.trod_bool Try.underlying4 (hcell i hi).2
      exact ⟨b, by simpa using hb⟩)
    refine ⟨(List.range len).map f, ?_⟩
    have hlen : ((List.range len).map f).length = len := by simp
    unfold KeepAt
    rw [hlen]
    refine sr_of (by simp) hl hm (fun h0 => ⟨_, (hcell 0 (by omega)).1⟩) (fun j u hj => ?_)
    simp only [List.map_map, List.getElem?_map, Option.map_eq_some_iff] at hj
    obtain ⟨z, hz', rfl⟩ := hj
    obtain ⟨hj2, rfl⟩ : j < len ∧ z = j := by
      have h1 := List.getElem?_eq_some_iff.1 hz'
      obtain ⟨h1, h2⟩ := h1
      simp at h1 h2
      exact ⟨h1, h2.symm⟩
    rw [(hcell _ (by omega)).1, hf _ (by omega)]
    rfl

set_option maxRecDepth 100000 in
theorem act_open {n : Nat} {cs : List Value} {y : DataW H × List MemPlace} (h : DataW.trod enc Try.prog W 0 (fun _ => true) true n 37 cs = some y) : ∃ x : Act1, cs = scells x ∧ ActIn W x := by
  obtain ⟨xs, m, _, rfl, hl, hlen, hf⟩ := DataW.trod_struct Try.underlying37 h
  rw [cellsA] at hl
  match cs, hl with
  | [c0, c1, c2, c3, c4, c5], _ =>
    match xs, hlen with
    | [y0, y1, y2, y3, y4, y5], _ =>
      have g0 := hf 0 _ rfl; have g1 := hf 1 _ rfl; have g2 := hf 2 _ rfl; have g3 := hf 3 _ rfl; have g4 := hf 4 _ rfl; have g5 := hf 5 _ rfl
      simp only [List.drop_zero, List.drop_succ_cons, List.take_succ_cons, List.take_zero, List.getElem?_cons_zero, List.getElem?_cons_succ] at g0 g1 g2 g3 g4 g5
      obtain ⟨kind, e0, _⟩ := DataW.trod_int Try.underlying3 g0
      obtain ⟨name, e1, _⟩ := DataW.trod_string Try.underlying9 g1
      obtain ⟨other, e2, _⟩ := DataW.trod_string Try.underlying9 g2
      obtain ⟨at_, e3, _⟩ := DataW.trod_int Try.underlying3 g3
      obtain ⟨bytes, hb⟩ := bytes_open g4
      obtain ⟨keep, hk⟩ := keep_open g5
      cases e0; cases e1; cases e2; cases e3
      exact ⟨⟨kind, at_, name, other, c4, c5⟩, rfl, bytes, keep, hb, hk⟩

instance : Inhabited Act1 := ⟨⟨0, 0, ⟨#[]⟩, ⟨#[]⟩, .slice none 0 0, .slice none 0 0⟩⟩

theorem script_open {n : Nat} {v : Value} {y : DataW H × List MemPlace} (h : DataW.trod enc Try.prog W 0 (fun _ => true) true n 22 [v] = some y) : ∃ script : List Act1, Sr W v script.length 6 (script.flatMap scells) ∧ ∀ a ∈ script, ActIn W a := by
  rcases open_slice Try.underlying22 h with ⟨hcs, _⟩ | ⟨a, len, cap, m, n', D, Pl, hcs, _, hl, hm, hz, _, hcell⟩
  · cases hcs
    exact ⟨[], .inl (Sl.nil _ _), by simp⟩
  · cases hcs
    simp only [if_true] at hz
    rw [cellsA] at hcell
    obtain ⟨f, hf⟩ := choose_lt (α := Act1) (p := fun i x => (∀ j, j < 6 → W.cell? (a.add (i * 6 + j)) = (scells x)[j]?) ∧ ActIn W x) (fun i (hi : i < m) => by
      obtain ⟨cs', h1, h2⟩ := hcell i hi
      obtain ⟨x, rfl, hx⟩ := act_open h2
      exact ⟨x, fun j hj => by rw [← Deep.add_add]; exact (World.cells?_some h1).2.2 j hj, hx⟩)
    refine ⟨(List.range len).map f, ?_, fun x hx => ?_⟩
    · have hlen : ((List.range len).map f).length = len := by simp
      rw [hlen]
      refine sr_of ?_ hl hm (fun h0 => ?_) (fun j u hj => ?_)
      · have : ∀ l : List Act1, (l.flatMap scells).length = l.length * 6 := by
          intro l
          induction l with
          | nil => rfl
          | cons x l ih =>
            have e : (scells x).length = 6 := rfl
            rw [List.flatMap_cons, List.length_append, ih, e]
            simp only [List.length_cons]
            omega
        rw [this]; simp
      · have := (hf 0 (by omega)).1 0 (by omega)
        exact ⟨_, this⟩
      · have hj6 : j = j / 6 * 6 + j % 6 := by omega
        rw [hj6] at hj ⊢
        rw [flat_get scells 6 (fun _ => rfl) _ _ _ (by omega)] at hj
        obtain ⟨x, hx1, hx2⟩ := Option.bind_eq_some_iff.1 hj
        simp only [List.getElem?_map, Option.map_eq_some_iff] at hx1
        obtain ⟨z, hz', rfl⟩ := hx1
        obtain ⟨hj2, rfl⟩ : j / 6 < len ∧ z = j / 6 := by
          obtain ⟨h1, h2⟩ := List.getElem?_eq_some_iff.1 hz'
          simp at h1 h2
          exact ⟨h1, h2.symm⟩
        rw [(hf _ (by omega)).1 _ (by omega)]
        exact hx2
    · obtain ⟨i, hi, rfl⟩ := List.mem_map.1 hx
      exact (hf i (by have := List.mem_range.1 hi; omega)).2
end

end Go.Proofs.Ytjejifbpidgnmaa
