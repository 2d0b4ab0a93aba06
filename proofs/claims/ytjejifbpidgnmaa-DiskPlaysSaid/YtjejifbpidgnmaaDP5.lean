/-
  The walk of the program's disk's done.
-/
import Derived.Test.YtjejifbpidgnmaaDP4
import Derived.Deep.RegionWith
namespace Go.Proofs.Ytjejifbpidgnmaa
open Go.RowKit Go.Maps

theorem pcell_one {w : World} {ps : List (AOp × Value)} (h : ∀ p ∈ ps, Bs w p.2 p.1.bytes) : ∀ u ∈ ps.flatMap pcell, u.oneCell' = true := by
  intro u hu
  obtain ⟨p, hp, hu⟩ := List.mem_flatMap.1 hu
  obtain ⟨a, c, e, _⟩ := (h p hp).shape
  simp only [pcell, List.mem_cons, List.not_mem_nil, or_false] at hu
  rcases hu with rfl | rfl | rfl | rfl | rfl <;> first | rfl | (rw [e]; rfl)

theorem Foot.ofD {d ms mv : Nat} {uv : Value} : ∀ b, b = d → Foot d ms mv uv b := fun _ h => .inl h

/-- what holds between the append and the files' own turn -/
structure Mid (w : World) (d ms mv : Nat) (uv : Value) (room left : Int) (sure : List AFile) (way : List AOp) (ps : List (AOp × Value)) : Prop where
  hd : w.heap[d]? = some (.cells (dcells room ms mv uv left false) 52)
  hs : MapFs w ms sure.length sure
  hv : MapFs w mv (aseen sure way).length (aseen sure way)
  hu : Own (fun _ => True) w uv ps.length 5 (ps.flatMap pcell)
  hb : ∀ p ∈ ps, Bs w p.2 p.1.bytes
  hty : Typed w 72 uv

theorem done_mid {w1 w2 : World} {d ms mv : Nat} {uv uv' : Value} {room left : Int} {sure : List AFile} {way : List AOp} {K : Nat} {o : AOp} {bv : Value} {ps : List (AOp × Value)} (h : PD w1 d ms mv uv room left false sure way K)
    (hbs : ∀ p ∈ ps, Bs w1 p.2 p.1.bytes) (hv : Bs w1 bv o.bytes) (X1 : Own (fun _ => True) w2 uv' (ps.length + 1) 5 (ps.flatMap pcell ++ pcell (o, bv))) (X2 : Typed w2 72 uv')
    (X3 : Keeps (fun b => uv.ownBlock = some b) w1 w2) (X4 : ∀ b, uv'.ownBlock = some b → uv.ownBlock = some b ∨ w1.heap.size ≤ b) :
    Mid (w2.setCell ⟨d, 3, none⟩ uv') d ms mv uv' room left sure way (ps ++ [(o, bv)]) ∧ Keeps (Foot d ms mv uv) w1 (w2.setCell ⟨d, 3, none⟩ uv') := by
  have hnu : ∀ b, uv.ownBlock = some b → NoBytes w1 b := fun b hb => (h.foot (.inr (.inr (.inr hb)))).1
  have hnd : ¬ uv.ownBlock = some d := fun e => by obtain ⟨c, fr, hc⟩ := h.hty d e; rw [h.hd] at hc; cases hc
  have hnm : ∀ {m n fs}, MapFs w1 m n fs → ¬ uv.ownBlock = some m := fun {m n fs} hm e => by
    obtain ⟨c, fr, hc⟩ := h.hty m e; obtain ⟨_, ⟨_, _, hb, _⟩, _⟩ := hm; rw [hb] at hc; cases hc
  have hd2 : w2.heap[d]? = _ := (X3.block d (h.foot (.inl rfl)).2 hnd).trans h.hd
  have hkd := keeps_cell w2 d 3 uv'
  have hnd2 : NoBytes w2 d := noBytes_cells hd2 (by decide)
  have hdm : ∀ {m n fs}, MapFs w2 m n fs → ¬ m = d := fun {m n fs} hm e => by
    subst e; obtain ⟨_, ⟨_, _, hb, _⟩, _⟩ := hm; rw [hd2] at hb; cases hb
  have hs2 := h.hs.keep X3 (hnm h.hs) hnu
  have hv2 := h.hv.keep X3 (hnm h.hv) hnu
  have hud : ∀ b, uv'.ownBlock = some b → ¬ b = d := fun b hb e => by
    subst e; obtain ⟨c, fr, hc⟩ := X2 b hb; rw [hd2] at hc; cases hc
  refine ⟨⟨heap_setCell_at hd2 3 uv', hs2.keep hkd (hdm hs2) (fun b hb => by subst hb; exact hnd2), hv2.keep hkd (hdm hv2) (fun b hb => by subst hb; exact hnd2), ?_, ?_, ?_⟩, ?_⟩
  · have := X1.keep hkd hud
    simpa using this
  · intro p hp
    have : Bs w1 p.2 p.1.bytes := by
      rcases List.mem_append.1 hp with hp | hp
      · exact hbs p hp
      · rw [List.mem_singleton.1 hp]; exact hv
    exact (this.keep X3 hnu).keep hkd (fun b hb => by subst hb; exact hnd2)
  · intro b hb
    obtain ⟨c, fr, hc⟩ := X2 b hb
    exact ⟨c, fr, (hkd.block b (Array.getElem?_eq_some_iff.1 hc).1 (hud b hb)).trans hc⟩
  · exact (X3.mono (fun i _ hi => .inr (.inr (.inr hi)))).trans (hkd.mono (fun i _ hi => .inl hi))

theorem done_end {w3 w4 : World} {d ms mv : Nat} {uv' : Value} {room left : Int} {sure : List AFile} {way : List AOp} {K n : Nat} {o : AOp} {bv : Value} {ps : List (AOp × Value)} (h : Mid w3 d ms mv uv' room left sure way (ps ++ [(o, bv)])) (hne : ms ≠ mv) (hps : way = ps.map (·.1))
    (hk : Keeps (· = mv) w3 w4) (hm : MapFs w4 mv n (ado (aseen sure way) o)) (hK : sure.length + way.length ≤ K) (ok : OkF 1000000000000 sure) (oo : ∀ o ∈ way, OkO 1000000000000 o ∧ OkN o) (ho : OkO 1000000000000 o ∧ OkN o) :
    PD w4 d ms mv uv' room left false sure (way ++ [o]) (K + 1) := by
  have hnm : NoBytes w3 mv := h.hv.noBytes
  have hS : ∀ b, b = mv → NoBytes w3 b := fun b hb => by subst hb; exact hnm
  have hdm : ¬ d = mv := fun e => by
    obtain ⟨_, ⟨_, _, hb, _⟩, _⟩ := h.hv; rw [← e, h.hd] at hb; cases hb
  have hum : ∀ b, uv'.ownBlock = some b → ¬ b = mv := fun b hb e => by
    obtain ⟨c, fr, hc⟩ := h.hty b hb; obtain ⟨_, ⟨_, _, hb', _⟩, _⟩ := h.hv; rw [e, hb'] at hc; cases hc
  have hsn : aseen sure (way ++ [o]) = ado (aseen sure way) o := by simp [aseen, List.foldl_append]
  refine ⟨(hk.block d (Array.getElem?_eq_some_iff.1 h.hd).1 hdm).trans h.hd, h.hs.keep hk hne hS, ?_, hne, ⟨ps ++ [(o, bv)], by simp [hps], h.hu.keep hk hum, fun p hp => (h.hb p hp).keep hk hS⟩, ?_, by simp; omega, ok, ?_⟩
  · rw [hsn]; exact hm.tight
  · intro b hb
    obtain ⟨c, fr, hc⟩ := h.hty b hb
    exact ⟨c, fr, (hk.block b (Array.getElem?_eq_some_iff.1 hc).1 (hum b hb)).trans hc⟩
  · intro p hp
    rcases List.mem_append.1 hp with hp | hp
    · exact oo p hp
    · rw [List.mem_singleton.1 hp]; exact ho

def DonePost (d ms mv : Nat) (uv : Value) (room left : Int) (sure : List AFile) (way : List AOp) (K : Nat) (o : AOp) (w : World) (e : Ending) (w' : World) : Prop :=
  ∃ uv', e = .returned (.int .i64 (if left = 0 then 20 else 0)) ∧
      PD w' d ms mv uv' room (if 0 < left then left - 1 else left) (decide (left = 0)) sure (if left = 0 then way else way ++ [o]) (K + 1) ∧ Keeps (Foot d ms mv uv) w w' ∧ (∀ b, uv'.ownBlock = some b → uv.ownBlock = some b ∨ w.heap.size ≤ b)

set_option maxRecDepth 100000 in
set_option maxHeartbeats 800000 in
theorem done_any (d ms mv : Nat) (uv : Value) (room left : Int) (sure : List AFile) (way : List AOp) (K : Nat) (o : AOp) (bv : Value) (w : World) (h : PD w d ms mv uv room left false sure way K) (hv : Bs w bv o.bytes) (hk : OkN o) (ho : OkO 1000000000000 o) (hK : K ≤ 1000000)
    (hl : -1 ≤ left) (hl2 : left ≤ 9223372036854775807) :
    Calls Try.prog 26 #[.pointer (some ⟨d, 0, none⟩), .agg #[.int .i64 o.kind, .string o.name, .string o.other, .int .i64 o.pos, bv]] w (DonePost d ms mv uv room left sure way K o w) := by
  have hdlt := (h.foot (.inl rfl)).2
  obtain ⟨bva, bvc, rfl, _, _⟩ := hv.shape
  have H := Lib.hid h; have HV := Lib.hid hv; have HK := Lib.hid hk; have HO := Lib.hid ho; have HKB := Lib.hid hK
  have HA : Hid (∀ o, PD (w.alloc o) d ms mv uv room left false sure way K) := Lib.hid fun o => H.out.below ((Below.refl _ _).alloc (Nat.le_refl _) _)
  clear h hv hk ho hK
  by_cases hl0 : left = 0
  · subst hl0
    have hst := fun W (hW : W.heap[d]? = some (.cells (dcells room ms mv uv 0 false) 52)) => stops_any d room 0 ms mv uv W hW (by omega) (by omega)
    simp only [Int.lt_irrefl, if_false, decide_true] at hst
    have HST := Lib.hid hst; clear hst
    go_enter Try.func26, Try.ntmps26
    go_wp2_with fail
    refine (HST.out _ (HA.out _).hd).mono ?_
    rintro e w1 ⟨rfl, hg1, hk1⟩
    have HG1 := Lib.hid hg1; have HK1 := Lib.hid hk1; clear hg1 hk1
    go_wp2_with fail
    go_ret
    refine ⟨uv, rfl, ?_, ?_, fun b hb => .inl hb⟩
    · simp only [Int.lt_irrefl, if_false, decide_true, if_true]
      exact ((HA.out _).turn HK1.out HG1.out).mono (Nat.le_succ _)
    · exact ((Keeps.refl _ _).alloc _).trans (HK1.out.mono (fun i _ hi => .inl hi))
  · have hld : decide (left = 0) = false := decide_eq_false hl0
    have hst := fun W (hW : W.heap[d]? = some (.cells (dcells room ms mv uv left false) 52)) => stops_any d room left ms mv uv W hW hl hl2
    obtain ⟨left', hleft⟩ : ∃ l, l = (if 0 < left then left - 1 else left) := ⟨_, rfl⟩
    rw [← hleft, hld] at hst
    have HST := Lib.hid hst; have HL := Lib.hid hleft; have HLD := Lib.hid hld; clear hst hleft hld
    go_enter Try.func26, Try.ntmps26
    go_wp2_with fail
    refine (HST.out _ (HA.out _).hd).mono ?_
    rintro e w1 ⟨rfl, hg1, hk1⟩
    have hpd1 := (HA.out _).turn hk1 hg1
    have hbx := (hk1.block w.heap.size (by simp) (by omega)).trans (heap_new1 w _)
    have hs1 := hk1.size
    simp only [World.size_alloc] at hs1
    obtain ⟨a1, z1⟩ := block_cells hg1
    obtain ⟨a2, z2⟩ := block_cells hbx
    have p2 := a1 2; have p3 := a1 3
    have q0 := a2 0; have q1 := a2 1; have q2 := a2 2; have q3 := a2 3; have q4 := a2 4
    simp only [List.getElem?_toArray, List.getElem?_cons_zero, List.getElem?_cons_succ] at p2 p3 q0 q1 q2 q3 q4
    have HP1 := Lib.hid hpd1; have HK1 := Lib.hid hk1; have HBX := Lib.hid hbx
    have HV1 : Hid (Bs w1 (.slice bva o.bytes.length bvc) o.bytes) := Lib.hid ((HV.out.below ((Below.refl _ _).alloc (Nat.le_refl _) _)).keep HK1.out (fun b hb => by subst hb; exact ((HA.out _).foot (.inl rfl)).1))
    clear hpd1 hk1 hbx hg1 a1 a2
    obtain ⟨ps, hps, hown, hbs⟩ := HP1.out.hu
    obtain ⟨ua, uc, rfl, _, _⟩ := hown.shape
    have HPS := Lib.hid hps; have HOWN := Lib.hid hown; have HBS := Lib.hid hbs; clear hps hown hbs
    obtain ⟨i0, hi, hz0, hz1, hz2⟩ := info_parts infoOp
    have hI := Lib.hid hi; have hZ0 := Lib.hid hz0; have hZ1 := Lib.hid hz1; have hZ2 := Lib.hid hz2; clear hi hz0 hz1 hz2
    have hpl : ps.length ≤ 1000000 := by
      have h1 := H.out.hK; have h2 := HKB.out; have h3 := congrArg List.length HPS.out; simp at h3; omega
    have hstep : ∀ (v' : Value) (w' : World), Own (fun _ => True) w' v' (ps.length + 1) 5 (ps.flatMap pcell ++ pcell (o, .slice bva o.bytes.length bvc)) → (w1.drew.alloc (.cells (pcell (o, .slice bva o.bytes.length bvc)).toArray 72)).grownBy w' (Value.slice ua ps.length uc).ownBlock →
        ((v'.ownBlock = (Value.slice ua ps.length uc).ownBlock ∨ v'.ownBlock = some (w1.drew.alloc (.cells (pcell (o, .slice bva o.bytes.length bvc)).toArray 72)).heap.size) ∧ (Typed (w1.drew.alloc (.cells (pcell (o, .slice bva o.bytes.length bvc)).toArray 72)) 72 (Value.slice ua ps.length uc) → Typed w' 72 v')) →
        ∃ a c, v' = .slice a (ps.length + 1) c ∧ Hid (Own (fun _ => True) w' (.slice a (ps.length + 1) c) (ps.length + 1) 5 (ps.flatMap pcell ++ pcell (o, .slice bva o.bytes.length bvc))) ∧ Hid (Typed w' 72 (.slice a (ps.length + 1) c)) ∧
          Hid (Keeps (fun b => (Value.slice ua ps.length uc).ownBlock = some b) w1 w') ∧ Hid (∀ b, (Value.slice a (ps.length + 1) c).ownBlock = some b → (Value.slice ua ps.length uc).ownBlock = some b ∨ w1.heap.size ≤ b) ∧ w'.cell? ⟨d, 3, none⟩ = some (.slice ua ps.length uc) ∧ w'.frozen? ⟨d, 3, none⟩ = false := by
      intro v' w' h1 h2 h3
      obtain ⟨a, c, rfl, _, _⟩ := h1.shape
      have hk : Keeps (fun b => (Value.slice ua ps.length uc).ownBlock = some b) w1 w' :=
        ((((Keeps.refl _ w1).drew).alloc _)).trans' (T := fun b => (Value.slice ua ps.length uc).ownBlock = some b) (Keeps.ofGrown h2 (fun k hk => hk)) (fun i _ hi => hi)
      have hnd : ¬ (Value.slice ua ps.length uc).ownBlock = some d := fun e => by
        obtain ⟨c, fr, hc⟩ := HP1.out.hty d e; rw [HP1.out.hd] at hc; cases hc
      obtain ⟨a1, z1⟩ := block_cells ((hk.block d (by omega) hnd).trans HP1.out.hd)
      refine ⟨a, c, rfl, h1, h3.2 ?_, hk, fun b hb => ?_, a1 3, z1 3⟩
      · intro b hb
        obtain ⟨c, fr, hc⟩ := HP1.out.hty b hb
        exact ⟨c, fr, (Below.heap_alloc w1.drew _ b (Array.getElem?_eq_some_iff.1 hc).1).trans hc⟩
      · rcases h3.1 with h | h
        · exact .inl (h ▸ hb)
        · rw [h] at hb; cases hb; exact .inr (by simp)
    have HSTEP := Lib.hid hstep; clear hstep
    have hd1 : d < w1.heap.size := by omega
    have hb1 : w.heap.size < w1.heap.size := by omega
    go_wp2_with fail
    go_region_law ((refine step_of_wp rfl (wp_append_o (fun _ => True) _ _ 50 50 rfl Try.underlying50 hI.out hZ0.out hZ1.out hZ2.out rfl (v := .slice ua ps.length uc) rfl rfl (fun _ _ => trivial) (HOWN.out.drew.alloc _) (src_new w1.drew 5 Try.underlying50 1 1 (pcell (o, .slice bva o.bytes.length bvc)) _ _ rfl (fun u hu => pcell_one (w := w1) (ps := [(o, .slice bva o.bytes.length bvc)]) (fun p hp => by rw [List.mem_singleton.1 hp]; exact HV1.out) u (by simpa using hu))) (by unfold maxLen; omega) (by omega) (fun v' w2 h1 h2 h3 => ?_)); obtain ⟨va, vc, rfl, X1, X2, X3, X4, X5, X6⟩ := HSTEP.out v' w2 h1 h2 h3; clear h1 h2 h3))
    all_goals
      obtain ⟨hmid, hkf⟩ := done_mid HP1.out HBS.out HV1.out X1.out X2.out X3.out X4.out
      have hbx3 := ((keeps_cell w2 d 3 (.slice va (ps.length + 1) vc)).block w.heap.size (by have := X3.out.size; omega) (by omega)).trans ((X3.out.block w.heap.size hb1 (fun e => by have := (H.out.foot (.inr (.inr (.inr e)))).2; omega)).trans HBX.out)
      clear X5 X6 p2 p3 q0 q1 q2 q3 q4 z1 z2 X1 X2 X3 hd1 hb1
      have hsz3 := hkf.size
      generalize w2.setCell ⟨d, 3, none⟩ (.slice va (ps.length + 1) vc) = w3 at *
      obtain ⟨a1, z1⟩ := block_cells hmid.hd
      obtain ⟨a2, z2⟩ := block_cells hbx3
      have p2 := a1 2
      have q0 := a2 0; have q1 := a2 1; have q2 := a2 2; have q3 := a2 3; have q4 := a2 4
      simp only [List.getElem?_toArray, List.getElem?_cons_zero, List.getElem?_cons_succ] at p2 q0 q1 q2 q3 q4
      have hbv : Bs w3 (.slice bva o.bytes.length bvc) o.bytes := hmid.hb (o, .slice bva o.bytes.length bvc) (by simp)
      have hkk := H.out.hK
      have hln := length_aseen way sure
      have hcall := MapFs.do_any (w := w3.drew) (hmid.hv.below ((Below.refl _ _).drew)) (hbv.below ((Below.refl _ _).drew)) (by have := HKB.out; unfold maxLen; omega) HK.out HO.out (H.out.ok.seen (fun o ho => (H.out.oo o ho).1))
      have HCALL := Lib.hid hcall; have HMID := Lib.hid hmid; have HKF := Lib.hid hkf
      clear hcall hmid hkf hbx3 a1 a2 z1 z2 hbv hkk hln
      go_wp2_with fail
      go_region_with (go_at_call 28; refine HCALL.out.mono ?_; rintro e w4 ⟨rfl, Y1, Y2⟩)
      all_goals
        have HY1 := Lib.hid Y1; have HY2 := Lib.hid Y2; clear Y1 Y2
        go_wp2_with fail
        go_ret
        refine ⟨.slice va (ps.length + 1) vc, ?_, ?_, ?_, ?_⟩
        · rw [if_neg hl0]; rfl
        · rw [if_neg hl0, HLD.out, ← HL.out]
          exact done_end HMID.out H.out.hne HPS.out (((Keeps.refl _ _).drew).trans HY2.out) HY1.out H.out.hK H.out.ok H.out.oo ⟨HO.out, HK.out⟩
        · exact (((Keeps.refl _ _).alloc _).trans (HK1.out.mono (fun i _ hi => .inl hi))).trans (HKF.out.trans ((((Keeps.refl _ _).drew).trans HY2.out).mono (fun i _ hi => .inr (.inr (.inl hi)))))
        · intro b hb
          rcases X4.out b hb with h | h
          · exact .inl h
          · exact .inr (by omega)

end Go.Proofs.Ytjejifbpidgnmaa
