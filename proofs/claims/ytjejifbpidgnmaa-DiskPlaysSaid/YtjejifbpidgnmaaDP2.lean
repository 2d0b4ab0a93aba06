/-
  The walks of the program's disk, second part: slices.Clone at bytes; do.
-/
import Derived.Test.YtjejifbpidgnmaaDP1
import Derived.Test.YtjejifbpidgnmaaDRef3
namespace Go.Proofs.Ytjejifbpidgnmaa
open Go.RowKit Go.Maps

theorem Own.bs {S : Nat → Prop} {w : World} {v : Value} {l : List UInt8} (h : Own S w v l.length 1 (bcells l)) (ht : Typed w 5 v) : Bs w v l := ⟨h.sl, ht⟩

set_option maxRecDepth 100000 in
set_option maxHeartbeats 400000 in
theorem Clone_any (v : Value) (l : List UInt8) (w : World) (h : Sl w v l.length 1 (bcells l)) (hb : l.length ≤ 1000000000000) :
    Calls Try.prog 27 #[v] w fun e w' => ∃ v', e = .returned v' ∧ Bs w' v' l ∧ (∀ b, v'.ownBlock = some b → w.heap.size ≤ b) ∧ Below w.heap.size w w' := by
  obtain ⟨i0, hi, hz0, hz1, hz2⟩ := info_parts infoU8
  have hI := Lib.hid hi; have hZ0 := Lib.hid hz0; have hZ1 := Lib.hid hz1; have hZ2 := Lib.hid hz2; clear hi hz0 hz1 hz2
  have HBD := Lib.hid hb; clear hb
  have H := Lib.hid h
  obtain ⟨_, a, cap, rfl, _, _, hcase⟩ := h
  rcases hcase with ⟨rfl, h0, rfl⟩ | ⟨b, off, rfl, hbl, hat⟩
  · have hq := fun w => Lib.run_eql_slice_nil (P := Try.prog) w 34 5 none 0 0 0 0 Try.underlying34
    have hl : l = [] := List.eq_nil_of_length_eq_zero h0
    subst hl
    go_enter Try.func27, Try.ntmps27
    go_wp2_with fail
    go_ret
    exact ⟨_, rfl, ⟨Sl.nil _ 1, fun b hb => by simp [Value.ownBlock] at hb⟩, fun b hb => by simp [Value.ownBlock] at hb, Below.refl _ _⟩
  · have hq := fun w => Lib.run_eql_slice_nil (P := Try.prog) w 34 5 (some ⟨b, off, none⟩) l.length cap 0 0 Try.underlying34
    clear hat
    go_enter Try.func27, Try.ntmps27
    go_wp2_with (at_builtin; refine halt1 ?_)
    refine on1 (wpList_append_o (w.heap.size ≤ ·) rfl _ _ 34 34 rfl Try.underlying34 hI.out hZ0.out hZ1.out hZ2.out rfl (v := .slice (some ⟨w.heap.size, 0, none⟩) 0 0) rfl rfl ?_ (Own.made _ w #[] 5 (0, 0) 0 0 1 [] (Nat.le_refl _) (Nat.le_refl _) (by simp [maxLen]) (by simp) (by simp) (by simp)) ((H.out.alloc _).src Try.underlying34 (bcells_one l)) ?_ ?_ ?_)
    · intro b hb; simp at hb; omega
    · have := HBD.out; unfold maxLen; omega
    · have := HBD.out; omega
    intro v' w' hown hgr hty
    have hT : Typed (w.alloc (.cells #[] 5)) 5 (.slice (some ⟨w.heap.size, 0, none⟩) 0 0) := fun b hb => by cases hb; exact ⟨_, _, heap_new1 w _⟩
    have HT := Lib.hid (hty.2 hT)
    rw [Nat.zero_add, List.nil_append] at hown
    have HO := Lib.hid hown
    have HB : Hid (Below w.heap.size w w') := Lib.hid (((Below.refl _ _).alloc (Nat.le_refl _) _).grown hgr (by simp) (fun k hk => by cases hk; exact Nat.le_refl _))
    clear hown hgr hty hT
    go_wp2_with fail
    go_ret
    exact ⟨_, rfl, Own.bs HO.out HT.out, fun b hb => HO.out.sure hb, HB.out⟩

theorem zeroB (w : World) : (zeroValue 34).run Try.prog w = .ok (.slice none 0 0) w := by kernel_rfl

/-- what is found at a name, where the program looks: its slice, nil where there is none -/
theorem map_look {w : World} {m n : Nat} {fs : List AFile} (h : MapFs w m n fs) (nm : ByteArray) : ∃ es v, w.ownsMap Try.prog 9 RS m n (.map es) ∧ Fa2 (Ent w) fs es ∧ Bs w v (aold fs nm) ∧
    (DataW.map es).atKey (klit nm) (.held (.slice none 0 0)) = .held v ∧ Maps.has (.map es) (klit nm) = (afind fs nm).isSome := by
  obtain ⟨es, h1, h2⟩ := h
  rcases fa2_find h2 nm with ⟨e1, e2, e3⟩ | ⟨f, v, e1, e2, e3, e4⟩
  · exact ⟨es, .slice none 0 0, h1, h2, by simp only [aold, e1]; exact ⟨Sl.nil _ 1, fun b hb => by simp [Value.ownBlock] at hb⟩, e3 _, by rw [e2, e1]; rfl⟩
  · exact ⟨es, v, h1, h2, by simpa [aold, e1] using e4, e3 _, by rw [e2, e1]; rfl⟩

/-- the step of a look-up with ok -/
theorem wp_lookup_ok {w : World} {ops : Array Oper} {rest : List Oper} {o : Oper} {a : Act} {Q : Exit → Act → World → Prop} (hg : o.guard = none) (mo x : Operand) (hop : o.op = Op.lookup 49 mo x true)
    {m n : Nat} {fs : List AFile} (hm : a.eval mo = .map (some m)) (h : MapFs w m n fs) {nm : ByteArray} (hx : a.eval x = .string nm) (hs : nm.size ≤ maxLen)
    (hK : ∀ va vc, Bs w (.slice va (aold fs nm).length vc) (aold fs nm) → (aold fs nm).length ≤ vc → wpList Try.prog ops Q rest (a.put o.dst (.tuple #[.slice va (aold fs nm).length vc, .bool (afind fs nm).isSome])) w) :
    wpList Try.prog ops Q (o :: rest) a w := by
  obtain ⟨es, v, h1, h2, h3, h4, h5⟩ := map_look h nm
  obtain ⟨va, vc, rfl, hc, _⟩ := h3.shape
  refine wpList_lookup_own_ok w hg mo x 49 hop 9 34 lawStr Try.underlying49 RS (zeroB w) (.held (.slice none 0 0)) [] rfl m n _ hm h1 _ (klit nm) hx (WideMaps.keyOf_string_mk Try.underlying9 hs) (fun v' ps hv => ?_)
  rw [h4] at hv
  obtain ⟨a', n', c', rfl, e⟩ := RS_inv hv
  cases e
  rw [h5]
  exact hK va vc h3 hc

-- .. without ok
set_option maxRecDepth 100000 in
theorem wp_lookup_one {w : World} {ops : Array Oper} {rest : List Oper} {o : Oper} {a : Act} {Q : Exit → Act → World → Prop} (hg : o.guard = none) (mo x : Operand) (hop : o.op = Op.lookup 49 mo x false)
    {m n : Nat} {fs : List AFile} (hm : a.eval mo = .map (some m)) (h : MapFs w m n fs) {nm : ByteArray} (hx : a.eval x = .string nm) (hs : nm.size ≤ maxLen)
    (hK : ∀ va vc, Bs w (.slice va (aold fs nm).length vc) (aold fs nm) → (aold fs nm).length ≤ vc → wpList Try.prog ops Q rest (a.put o.dst (.slice va (aold fs nm).length vc)) w) :
    wpList Try.prog ops Q (o :: rest) a w := by
  obtain ⟨es, v, h1, h2, h3, h4, h5⟩ := map_look h nm
  obtain ⟨va, vc, rfl, hc, _⟩ := h3.shape
  obtain ⟨v', ps, hrun, hv⟩ := h1.lookup lawStr Try.underlying49 (zeroB w) (zd := .held (.slice none 0 0)) (zp := []) rfl (WideMaps.keyOf_string_mk Try.underlying9 hs)
  rw [h4] at hv
  obtain ⟨a', n', c', rfl, e⟩ := RS_inv hv
  cases e
  refine wpList_plain hg fun K' hK' => ?_
  unfold Oper.wp
  simp [execOp, hop, hm, hx, hrun, Result.andThen]
  exact hK' _ _ (hK va vc h3 hc)

/-- the step of a store -/
theorem wp_put {w : World} {ops : Array Oper} {rest : List Oper} {o : Oper} {a : Act} {Q : Exit → Act → World → Prop} (hg : o.guard = none) (mo x vo : Operand) (hop : o.op = Op.mapUpdate 49 mo x vo)
    {m n : Nat} {fs : List AFile} (hm : a.eval mo = .map (some m)) (h : MapFs w m n fs) {nm : ByteArray} (hx : a.eval x = .string nm) (hs : nm.size ≤ maxLen) {v : Value} {l : List UInt8} (hv : a.eval vo = v) (hb : Bs w v l) (hn : n < maxLen)
    (hK : ∀ w', MapFs w' m (n + 1) (awith fs (nm, l)) → Keeps (· = m) w w' → wpList Try.prog ops Q rest (a.put o.dst undef) w') :
    wpList Try.prog ops Q (o :: rest) a w := by
  have hnb := h.noBytes
  obtain ⟨es, h1, h2⟩ := h
  obtain ⟨va, vc, rfl, hc, _⟩ := hb.shape
  refine wpList_mapUpdate_own w hg mo x vo 49 hop 9 34 lawStr Try.underlying49 RS m n _ hm h1 hn _ _ (klit nm) hx hv (WideMaps.keyOf_string_mk Try.underlying9 hs) (.held (.slice va l.length vc)) [] rfl (fun w' hown hgr => ?_)
  have hk : Keeps (· = m) w w' := Keeps.ofGrown hgr (fun k hk => by cases hk; rfl)
  obtain ⟨es', e1, e2⟩ := fa2_put (h2.mono fun _ _ e => e.keep hk (fun b hb => by subst hb; exact hnb)) (nm, l) (.slice va l.length vc) (hb.keep hk (fun b hb => by subst hb; exact hnb))
  rw [e1] at hown
  exact hK w' ⟨es', hown, e2⟩ hk

/-- the step of a removal -/
theorem wp_del {w : World} {ops : Array Oper} {rest : List Oper} {o : Oper} {a : Act} {Q : Exit → Act → World → Prop} (hg : o.guard = none) (mo x : Operand) (hop : o.op = Op.call { callee := Callee.builtin Builtin.delete, args := #[mo, x], argTypes := #[49, 9] })
    {m n : Nat} {fs : List AFile} (hm : a.eval mo = .map (some m)) (h : MapFs w m n fs) {nm : ByteArray} (hx : a.eval x = .string nm) (hs : nm.size ≤ maxLen)
    (hK : ∀ w', MapFs w' m n (awithout fs nm) → Keeps (· = m) w w' → wpList Try.prog ops Q rest (a.put o.dst (.tuple #[])) w') :
    wpList Try.prog ops Q (o :: rest) a w := by
  have hnb := h.noBytes
  obtain ⟨es, h1, h2⟩ := h
  refine wpList_delete_own w hg mo x 49 9 hop 34 lawStr Try.underlying49 RS m n _ hm h1 _ (klit nm) hx (WideMaps.keyOf_string_mk Try.underlying9 hs) (fun w' hown ht => ?_)
  have hk : Keeps (· = m) w w' := Keeps.ofGrown ht.grown (fun k hk => by cases hk; rfl)
  exact hK w' ⟨_, hown, fa2_del (h2.mono fun _ _ e => e.keep hk (fun b hb => by subst hb; exact hnb)) nm⟩ hk

set_option maxRecDepth 100000 in
set_option maxHeartbeats 600000 in
theorem do_rm (m n : Nat) (fs : List AFile) (kind : Nat) (name other : ByteArray) (pos : Nat) (bv : Value) (bytes : List UInt8) (w : World) (h : MapFs w m n fs) (hv : Bs w bv bytes) (hn : n < maxLen) (hn1 : name.size ≤ maxLen) (hn2 : other.size ≤ maxLen) (hk : kind = 1 ∨ kind = 2) :
    Calls Try.prog 28 #[.map (some m), .agg #[.int .i64 kind, .string name, .string other, .int .i64 pos, bv]] w fun e w' => e = .returned (.tuple #[]) ∧ MapFs w' m (n + 1) (ado fs ⟨kind, name, other, pos, bytes⟩) ∧ Keeps (· = m) w w' := by
  have hlt := h.lt
  have H := Lib.hid h; have HN := Lib.hid hn; have HN1 := Lib.hid hn1; have HN2 := Lib.hid hn2; clear h hn hn1 hn2
  obtain ⟨bva, bvc, rfl, _, _⟩ := hv.shape
  have HV := Lib.hid hv; clear hv
  have HX : Hid (∀ o, MapFs (w.alloc o) m n fs) := Lib.hid fun o => H.out.below ((Below.refl _ _).alloc (Nat.le_refl _) _)
  have HKA : Hid (∀ o, Keeps (· = m) w (w.alloc o)) := Lib.hid fun o => (Keeps.refl _ _).alloc o
  have hne : ¬ w.heap.size = m := by omega
  cases hf : afind fs name with
  | none =>
    have his : (afind fs name).isSome = false := by rw [hf]; rfl
    have HF := Lib.hid hf; have HIS := Lib.hid his; clear hf his
    rcases hk with rfl | rfl
    · go_enter Try.func28, Try.ntmps28
      go_wp2_with (at_lookup; refine halt1 ?_)
      refine on1 (wp_lookup_ok rfl _ _ rfl rfl (HX.out _) rfl HN1.out (fun va vc hb hc => ?_))
      rw [HIS.out]
      clear hb
      go_wp2_with fail
      go_end0
      refine ⟨rfl, ?_, HKA.out _⟩
      simp only [ado, HF.out]
      obtain ⟨es, h1, h2⟩ := HX.out (.cells #[.int .i64 1, .string name, .string other, .int .i64 pos, .slice bva bytes.length bvc] 72)
      exact ⟨es, h1.mono (Nat.le_succ _), h2⟩
    · go_enter Try.func28, Try.ntmps28
      go_wp2_with (at_lookup; refine halt1 ?_)
      refine on1 (wp_lookup_ok rfl _ _ rfl rfl (HX.out _) rfl HN1.out (fun va vc hb hc => ?_))
      rw [HIS.out]
      clear hb
      go_wp2_with (at_delete; refine halt1 ?_)
      refine on1 (wp_del rfl _ _ rfl rfl (HX.out _) rfl HN1.out (fun w1 h1 hk1 => ?_))
      have H1 := Lib.hid h1; have HK1 := Lib.hid hk1; clear h1 hk1
      go_wp2_with fail
      go_end0
      refine ⟨rfl, ?_, (HKA.out _).trans HK1.out⟩
      have hw : awithout fs name = fs := List.filter_eq_self.2 (fun f hf' => by
        have := List.find?_eq_none.1 HF.out f hf'; simpa using this)
      simp only [ado, HF.out]
      have := H1.out
      rw [hw] at this
      obtain ⟨es, h1, h2⟩ := this
      exact ⟨es, h1.mono (Nat.le_succ _), h2⟩
  | some f =>
    have his : (afind fs name).isSome = true := by rw [hf]; rfl
    have hol : aold fs name = f.2 := by simp [aold, hf]
    have HF := Lib.hid hf; have HIS := Lib.hid his; have HOL := Lib.hid hol; clear hf his hol
    rcases hk with rfl | rfl
    · go_enter Try.func28, Try.ntmps28
      go_wp2_with (at_lookup; refine halt1 ?_)
      refine on1 (wp_lookup_ok rfl _ _ rfl rfl (HX.out _) rfl HN1.out (fun va vc hb hc => ?_))
      rw [HIS.out]
      rw [HOL.out] at hb hc ⊢
      have HBV := Lib.hid hb; clear hb
      go_wp2_with (at_delete; refine halt1 ?_)
      refine on1 (wp_del rfl _ _ rfl rfl (HX.out _) rfl HN1.out (fun w1 h1 hk1 => ?_))
      have H1 := Lib.hid h1; have HK1 := Lib.hid hk1; clear h1
      have hg := (hk1.block w.heap.size (by simp) hne).trans (heap_new1 w _)
      obtain ⟨a1, z1⟩ := block_cells hg
      have p2 := a1 2
      simp only [List.getElem?_toArray, List.getElem?_cons_zero, List.getElem?_cons_succ] at p2
      clear hk1 hg a1 z1
      go_wp2_with (at_mapUpdate; refine halt1 ?_)
      refine on1 (wp_put rfl _ _ _ rfl rfl H1.out rfl HN2.out rfl (HBV.out.keep HK1.out (fun b hb => by subst hb; exact (HX.out _).noBytes)) HN.out (fun w2 h2 hk2 => ?_))
      have H2 := Lib.hid h2; have HK2 := Lib.hid hk2; clear h2 hk2
      go_wp2_with fail
      go_end0
      refine ⟨rfl, ?_, ((HKA.out _).trans HK1.out).trans HK2.out⟩
      simp only [ado, HF.out]
      exact H2.out
    · go_enter Try.func28, Try.ntmps28
      go_wp2_with (at_lookup; refine halt1 ?_)
      refine on1 (wp_lookup_ok rfl _ _ rfl rfl (HX.out _) rfl HN1.out (fun va vc hb hc => ?_))
      rw [HIS.out]
      clear hb
      go_wp2_with (at_delete; refine halt1 ?_)
      refine on1 (wp_del rfl _ _ rfl rfl (HX.out _) rfl HN1.out (fun w1 h1 hk1 => ?_))
      have H1 := Lib.hid h1; have HK1 := Lib.hid hk1; clear h1 hk1
      go_wp2_with fail
      go_end0
      refine ⟨rfl, ?_, (HKA.out _).trans HK1.out⟩
      simp only [ado, HF.out]
      obtain ⟨es, h1, h2⟩ := H1.out
      exact ⟨es, h1.mono (Nat.le_succ _), h2⟩

end Go.Proofs.Ytjejifbpidgnmaa
