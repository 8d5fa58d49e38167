/- law: own. -/
import Derived.Test.YtdlalmbnkcadfaaN03
import Derived.Test.YtdlalmbnkcadfaaN04
import Derived.Test.YtdlalmbnkcadfaaN05
namespace Go.Proofs.Ytdlalmbnkcadfaa
open Go.RowKit

set_option maxRecDepth 100000 in
set_option maxHeartbeats 2000000 in
theorem own_any2 (A P : Option Addr) (c p : Nat) (D : Dk) (w : World) (hA : By w A D.bytes) (hP : Ws w P D.pend) (hsm : Small D) :
    Calls Try.prog 37 #[.agg #[.slice A D.bytes.length c, .slice P D.pend.length p]] w fun e w' => ∃ v, e = .returned v ∧ CD2 w' w.heap.size v D ∧ Ext w w' := by
  have hpl := hsm.2.1
  go_enter Try.func37, Try.ntmps37
  go_wp2_with (at_builtin; refine wpList_app0 rfl _ _ rfl _ c _ A D.bytes rfl rfl rfl (hA.ext (by repeat (first | exact Ext.refl _ | refine Ext.alloc ?_ _))) hsm.1 ?_; intro A' c' w1 h1 h2 h3 h4 h5)
  obtain ⟨W, hW, hE, hz, k0, k1⟩ := box2 w #[.slice A D.bytes.length c, .slice P D.pend.length p] #[.slice none 0 0, .slice none 0 0] 25 25
  rw [hW] at h1 h4 h5; clear hW
  have hz' := hz.out
  have hE1 : Ext W w1 := ((Ext.refl W).alloc _).trans h1
  obtain ⟨xo, hxo⟩ : ∃ xo, xo = w1.heap.size := ⟨_, rfl⟩
  have m2 := Bk.new w1 #[.slice A' D.bytes.length c', .slice none 0 0] 25
  have hA' : ∀ a, A' = some a → w.heap.size + 2 ≤ a.block ∧ a.block < xo := fun a ha => by
    have hs := h1.size
    simp at hs
    rcases h4 a ha with h | ⟨h, h'⟩
    · rw [hxo]; omega
    · simp at h; rw [hxo]; omega
  have hx1 : w.heap.size + 2 < xo := by have hs := h1.size; simp at hs; rw [hxo]; omega
  have HE : Hid (Ext w (w1.alloc (.cells #[.slice A' D.bytes.length c', .slice none 0 0] 25))) := (hE.trans hE1).alloc _
  have i0 := Lib.hid ((k0.ext hE1).alloc (.cells #[.slice A' D.bytes.length c', .slice none 0 0] 25))
  have i1 := Lib.hid ((k1.ext hE1).alloc (.cells #[.slice A' D.bytes.length c', .slice none 0 0] 25))
  have hA1 := Lib.hid (h3.ext ((Ext.refl w1).alloc (.cells #[.slice A' D.bytes.length c', .slice none 0 0] 25)))
  rw [← hxo] at m2 ⊢
  have M2 := Lib.hid m2
  have Hx := Lib.hid hxo
  clear h1 h3 h4 h5 k0 k1 hE1 hxo m2 hE hz'
  go_loopw [4] (fun i wr => ∃ k : Nat, k ≤ D.pend.length ∧ i = .int .i64 k ∧ CpInv2 w wr xo (w.heap.size + 1) w.heap.size D.bytes.length c' A' #[.slice A D.bytes.length c, .slice P D.pend.length p] D.bytes D.pend k) (fun i _ => D.pend.length - (intOf i).toNat)
  case atStart => exact ⟨0, Nat.zero_le _, rfl, HE.out, hA1.out, hA', i1.out, i0.out, _, [], M2.out, PO.nil _ _ _, rfl, fun a _ e => (by simp [Value.ownBlock] at e), fun q hq => (by cases hq)⟩
  case round =>
    clear HE i0 i1 hA1 M2 Hx
    obtain ⟨k, hk, rfl, hEr, hAr, _, j1, j0, Pv, qs, jo, hPO, hqs, hAP, hqn⟩ := hrel
    have Hqn := Lib.hid hqn
    clear hqn
    have HAr := Lib.hid hAr
    have HAP := Lib.hid hAP
    have HA' := Lib.hid hA'
    have Hqs := Lib.hid hqs
    have HEr := Lib.hid hEr
    have d1 := j0.cell 1
    simp at d1
    clear hAr hAP hA'
    by_cases hlt : k < D.pend.length
    · obtain ⟨b, o, Bx, d, rfl, e1, e2, e3, e4⟩ := hP k D.pend[k] (List.getElem?_eq_getElem hlt)
      have g1 := cellExt hEr e1
      have g2 := cellExt hEr e2
      have Hby := Lib.hid (e4.ext hEr)
      clear e1 e2 e4 hqs hEr
      have hxr : xo < wr.heap.size := jo.lt
      go_wp2_with fail
      have hS := Lib.hid (fun w' (h : Ext wr w') => (⟨h, (jo.ext h).cell 1, (j0.ext h).cell 1, cellExt h g1, cellExt h g2⟩ : Ext wr w' ∧ w'.cell? ⟨xo, 1, none⟩ = some Pv ∧ w'.cell? ⟨w.heap.size, 1, none⟩ = some (.slice (some ⟨b, o, none⟩) D.pend.length p) ∧ w'.cell? ⟨b, o + k * 2, none⟩ = some (.int .i64 D.pend[k].blk) ∧ w'.cell? ⟨b, o + k * 2 + 1, none⟩ = some (.slice Bx D.pend[k].bs.length d)))
      have hsk := hsm.2.2 D.pend[k] (List.getElem_mem hlt)
      clear g1 g2 d1
      refine wp_region_rel 18 (by kernel_rfl) (by kernel_rfl) (Ext.refl wr).drew ?_
      (apply relW_fix
       · intro vs w' hw hf
         have hc := hS.out w' hw
         unfold okAt
         go_simp
         first | exact ⟨rfl, Ext.refl _⟩ | exact rfl
       · intro vs; go_simp; rfl)
      (apply relW_fix
       · intro vs w' hw hf
         have hc := hS.out w' hw
         unfold okAt
         go_simp
         first | exact ⟨rfl, Ext.refl _⟩ | exact rfl
       · intro vs; go_simp; rfl)
      (apply relW_fix
       · intro vs w' hw hf
         have hc := hS.out w' hw
         unfold okAt
         go_simp
         first | exact ⟨rfl, Ext.refl _⟩ | exact rfl
       · intro vs; go_simp; rfl)
      (apply relW_fix
       · intro vs w' hw hf
         have hc := hS.out w' hw
         unfold okAt
         go_simp
         first | exact ⟨rfl, Ext.refl _⟩ | exact rfl
       · intro vs; go_simp; rfl)
      (apply relW_fix
       · intro vs w' hw hf
         have hc := hS.out w' hw
         unfold okAt
         go_simp
         first | exact ⟨rfl, Ext.refl _⟩ | exact rfl
       · intro vs; go_simp; rfl)
      (apply relW_fix
       · intro vs w' hw hf
         have hc := hS.out w' hw
         unfold okAt
         go_simp
         first | exact ⟨rfl, Ext.refl _⟩ | exact rfl
       · intro vs; go_simp; rfl)
      (apply relW_fix
       · intro vs w' hw hf
         have hc := hS.out w' hw
         unfold okAt
         go_simp
         first | exact ⟨rfl, Ext.refl _⟩ | exact rfl
       · intro vs; go_simp; rfl)
      (apply relW_fix
       · intro vs w' hw hf
         have hc := hS.out w' hw
         unfold okAt
         go_simp
         first | exact ⟨rfl, Ext.refl _⟩ | exact rfl
       · intro vs; go_simp; rfl)
      (apply relW_any (SV.e0 wr.heap.size)
       · intro vs w' hw hf
         have hc := hS.out w' hw
         skip
         unfold okAt
         go_simp
         exact ⟨⟨_, rfl, hw.size, by simp⟩, (Ext.refl _).alloc _⟩
       · intro vs; go_simp; rfl)
      (apply relW_fix
       · intro vs w' hw hf
         have hc := hS.out w' hw
         unfold okAt
         go_simp
         first | exact ⟨rfl, Ext.refl _⟩ | exact rfl
       · intro vs; go_simp; rfl)
      (apply relW_fix
       · intro vs w' hw hf
         have hc := hS.out w' hw
         unfold okAt
         go_simp
         first | exact ⟨rfl, Ext.refl _⟩ | exact rfl
       · intro vs; go_simp; rfl)
      (apply relW_fix
       · intro vs w' hw hf
         have hc := hS.out w' hw
         unfold okAt
         go_simp
         first | exact ⟨rfl, Ext.refl _⟩ | exact rfl
       · intro vs; go_simp; rfl)
      (apply relW_fix
       · intro vs w' hw hf
         have hc := hS.out w' hw
         unfold okAt
         go_simp
         first | exact ⟨rfl, Ext.refl _⟩ | exact rfl
       · intro vs; go_simp; rfl)
      (apply relW_fix
       · intro vs w' hw hf
         have hc := hS.out w' hw
         unfold okAt
         go_simp
         first | exact ⟨rfl, Ext.refl _⟩ | exact rfl
       · intro vs; go_simp; rfl)
      (apply relW_fix
       · intro vs w' hw hf
         have hc := hS.out w' hw
         unfold okAt
         go_simp
         first | exact ⟨rfl, Ext.refl _⟩ | exact rfl
       · intro vs; go_simp; rfl)
      (apply relW_any (SV.by2_ wr.heap.size D.pend[k].bs)
       · intro vs w' hw hf
         have hc := hS.out w' hw
         obtain ⟨b9, eb, hb1, hb2⟩ := hf.out.1 (by kernel_rfl)
         obtain ⟨v2, w2, h1, h2, h3⟩ := app0_by2 _ w' b9 d Bx D.pend[k].bs (Hby.out.ext hw) hsk
         refine okAt_app rfl _ _ _ rfl _ _ v2 (by exact eb) rfl h1 ?_ h2
         (obtain ⟨A', c', e1, q1, q2, q3, q4⟩ := h3; exact ⟨A', c', e1, q1, q2, fun a ha => (by have := h2.size; have := hw.size; rcases q3 a ha with q | q <;> omega), q4⟩)
       · intro vs; go_simp; rfl)
      (apply relW_any (SV.wr2 wr.heap.size D.pend[k])
       · intro vs w' hw hf
         have hc := hS.out w' hw
         obtain ⟨A5, c5, e5, q1, q2, q3, q4⟩ := hf.out.1 (by kernel_rfl)
         unfold okAt
         go_simp
         exact ⟨⟨A5, c5, rfl, q1, q2, q3, q4⟩, Ext.refl _⟩
       · intro vs; go_simp; rfl)
      (apply relW_any (SV.box2 wr.heap.size D.pend[k])
       · intro vs w' hw hf
         have hc := hS.out w' hw
         obtain ⟨A5, c5, e5, q1, q2, q3, q4⟩ := hf.out.1 (by kernel_rfl)
         unfold okAt
         go_simp
         exact ⟨⟨_, A5, c5, rfl, Bk.new _ _ _, q1, q2.ext ((Ext.refl _).alloc _), fun a ha => (by have := q3 a ha; exact ⟨this.1, by simp; omega⟩), q4⟩, (Ext.refl _).alloc _⟩
       · intro vs; go_simp; rfl)
      refine relW_nil fun vs w6 hw hf => ?_
      obtain ⟨⟨b5, A5, c5, e5, kb, l1, l2, l3, l4⟩, _⟩ := hf
      have hE6 : Ext wr w6 := hw
      have jo6 := jo.ext hE6
      have hPO6 := hPO.ext hE6
      obtain ⟨i0, hi0, hz0, hz1, hz2⟩ := info_parts info_bw
      have hql : qs.length = k := by have := congrArg List.length Hqs.out; simp at this; omega
      have Hql := Lib.hid hql
      have Hkb := Lib.hid kb
      have hB6 : w.heap.size ≤ w6.heap.size := by have := HEr.out.size; have := hE6.size; omega
      clear hql kb
      refine wpList_append_lies (P := Try.prog) w6 rfl (.tmp 18) (.tmp 34) 23 rfl w.heap.size 49 i0 _ 2 32 Try.underlying23 hi0 hz0 hz1 hz2 (by rfl) (by omega) Pv qs.length (rcells qs) (by rfl) hPO6.own ⟨b5, 0, none⟩ 1 1 [.int .i64 D.pend[k].blk, .slice A5 D.pend[k].bs.length c5] ?_ (by rfl) ?_ ?_ (by omega) ?_ ?_ hB6 w6.heap.size rfl ?_
      · exact e5
      · exact World.news_of_block (cs := #[.int .i64 D.pend[k].blk, .slice A5 D.pend[k].bs.length c5]) Hkb.out
      · intro u hu; simp at hu; rcases hu with rfl | rfl <;> rfl
      · have := Hql.out; have := hsm.2.1; simp only [maxLen]; omega
      · have := Hql.out; have := hsm.2.1; omega
      · intro g' cap w7 hown hgrow hat hlt7
        have hoff : ∀ a, A5 = some a → w.heap.size ≤ a.block ∧ a.block < w6.heap.size ∧ (∀ x ∈ [xo, w.heap.size + 1, w.heap.size], a.block ≠ x) ∧ some a.block ≠ Pv.ownBlock := by
          intro a ha
          have h1 := l3 a ha
          have h2 := HEr.out.size
          refine ⟨by omega, h1.2, fun x hx => ?_, fun h => ?_⟩
          · simp only [List.mem_cons, List.not_mem_nil, or_false] at hx
            omega
          · have := (hPO.own.lt a.block h.symm).2
            omega
        have hPO7 := Lib.hid (hPO6.push (q := (D.pend[k], A5, c5)) hown hgrow hat l1 l2 hoff)
        have no3 : (25 : Nat) ≠ 49 := by decide
        have jo7 := jo6.grown hgrow (jo6.not_own hPO6.own no3)
        have j17 := Lib.hid ((j1.ext hE6).grown hgrow ((j1.ext hE6).not_own hPO6.own no3))
        have j07 := Lib.hid ((j0.ext hE6).grown hgrow ((j0.ext hE6).not_own hPO6.own no3))
        have hA7 : Hid (By w7 A' D.bytes) := (HAr.out.ext hE6).grown (fun a ha => HAP.out a ha) hgrow
        have hE7 : Hid (Ext w w7) := Below.grown (HEr.out.trans hE6) hgrow hB6 (fun x hx => (hPO6.own.lt x hx).1)
        have hAP7 : Hid (∀ a, A' = some a → some a.block ≠ (Value.slice (some ⟨g', 0, none⟩) (qs.length + 1) cap).ownBlock) := fun a ha e => by
          simp only [Value.ownBlock, Option.some.injEq] at e
          rcases hat with h | h
          · exact HAP.out a ha (by rw [h, e])
          · have := (HA'.out a ha).2; have := hE6.size; omega
        have o0 := jo7.cell 0
        have o1 := jo7.cell 1
        have f1 := jo7.frozen 1
        simp at o0 o1
        have Hjo := Lib.hid jo7
        clear jo7 hown hgrow hat hoff l3 l2 jo6 hPO6 hS j1 j0 hPO hE6 hw jo
        go_wp2
        go_roundw
        case rel =>
          have hxo2 : w.heap.size + 2 < xo := hx1
          refine ⟨k + 1, by omega, by go_num, Below.setCell hE7.out (by show _ ≤ xo; omega) _, hA7.out.far (fun a ha => by have := (HA'.out a ha).2; show _ ≠ xo; omega) _, HA'.out, j17.out.far (by show _ ≠ xo; omega) _, j07.out.far (by show _ ≠ xo; omega) _, _, qs ++ [(D.pend[k], A5, c5)], Hjo.out.set 1 _, ?_, ?_, hAP7.out, fun q hq => ?_⟩
          · exact hPO7.out.far (by simp) (Hjo.out.not_own hPO7.out.own no3) _
          · rw [List.map_append, Hqs.out]
            simp only [List.map_cons, List.map_nil]
            exact (List.take_succ_eq_append_getElem hlt).symm
          · rcases List.mem_append.1 hq with h | h
            · exact Hqn.out q h
            · simp only [List.mem_singleton] at h
              subst h
              exact l4
        case measure => simp [intOf]; omega
    · obtain rfl : k = D.pend.length := by omega
      obtain ⟨PA, pc, rfl, hpc⟩ := hPO.form
      have o0 := jo.cell 0
      have o1 := jo.cell 1
      have r0 := j1.cell 0
      have r1 := j1.cell 1
      have f0 := j1.frozen 0
      have f1 := j1.frozen 1
      simp at o0 o1 r0 r1
      have Hj1 := Lib.hid j1
      have hxr : xo < wr.heap.size := jo.lt
      clear jo j1 j0 hqs hEr
      go_wp2
      have kk := ((Hj1.out.set 0 (.slice A' D.bytes.length c')).set 1 (.slice PA qs.length pc))
      have q0 := kk.cell 0
      have q1 := kk.cell 1
      simp only [Array.setIfInBounds_def] at q0 q1
      have hlo : ∀ a, A' = some a → a.block ≠ w.heap.size + 1 := fun a ha => by have := HA'.out a ha; omega
      refine bodyPost_ret (v := .agg #[.slice A' D.bytes.length c', .slice PA qs.length pc]) (by simp [results, Try.results37, go_sem, q0, q1]) rfl ⟨_, rfl, ⟨A', c', _, qs, rfl, h2, (HAr.out.far hlo _).far hlo _, fun a ha => ?_, ?_, ?_, Hqn.out⟩, ?_⟩
      · have := HA'.out a ha
        exact ⟨by omega, by simp; omega, HAP.out a ha⟩
      · have ho1 := Hj1.out.not_own hPO.own (by decide)
        exact ((hPO.far (p := ⟨w.heap.size + 1, 0, none⟩) (by simp) ho1 _).far (p := ⟨w.heap.size + 1, 1, none⟩) (by simp) ho1 _).mono (by simp)
      · rw [Hqs.out]; simp
      · exact (HEr.out.setCell (Nat.le_succ _) _).setCell (Nat.le_succ _) _
end Go.Proofs.Ytdlalmbnkcadfaa
/- law: right. -/
namespace Go.Proofs.Ytdlalmbnkcadfaa
open Go.RowKit

theorem own_dv2 (A P : Option Addr) (c p : Nat) (D : Dk) (w : World) (hA : By w A D.bytes) (hP : Ws w P D.pend) (hsm : Small D) :
    Calls Try.prog 37 #[.agg #[.slice A D.bytes.length c, .slice P D.pend.length p]] w fun e w' => ∃ A' c' P' p', e = .returned (.agg #[.slice A' D.bytes.length c', .slice P' D.pend.length p']) ∧ Ext w w' ∧ By w' A' D.bytes ∧ Ws2 w' P' D.pend := by
  refine (own_any2 A P c p D w hA hP hsm).mono ?_
  rintro e w' ⟨v, rfl, hv, hE⟩
  obtain ⟨A', c', Pv, qs, rfl, _, h2, _, h4, h5, h6⟩ := hv
  obtain ⟨P', p', rfl, h7⟩ := h4.ws2 h5 h6
  exact ⟨A', c', P', p', rfl, hE, h2, h7⟩
def pRight (D : Dk) : Bool := pThin D && decide (pCheck D = 0)
set_option maxRecDepth 100000 in
set_option maxHeartbeats 2000000 in
theorem right_any (A P : Option Addr) (c p : Nat) (D : Dk) (w : World) (hA : By w A D.bytes) (hP : Ws w P D.pend) :
    Calls Try.prog 36 #[.agg #[.slice A D.bytes.length c, .slice P D.pend.length p]] w fun e w' => e = .returned (.bool (pRight D)) ∧ Ext w w' := by
  obtain ⟨W, hW, hE, hz, k0⟩ := box1 w #[.slice A D.bytes.length c, .slice P D.pend.length p] 25
  have HD : Hid (DBx W w.heap.size A P c p D) := ⟨k0, hA.ext hE, hP.ext hE⟩
  have HE := Lib.hid hE
  have hc := HD.out.cells
  clear hE hP hA k0 hz
  go_enter Try.func36, Try.ntmps36
  go_wp2_with fail
  refine (thin_any A P c p D W HD.out.p).mono ?_
  rintro e w1 ⟨rfl, hE1⟩
  have HD1 := Lib.hid (HD.out.ext hE1)
  have HE1 := Lib.hid (HE.out.trans hE1)
  have hc := HD1.out.cells
  clear hE1 HD HE hW
  by_cases ht : pThin D = true
  · have Hsm := Lib.hid (thin_small ht)
    have Ht := Lib.hid ht
    rw [ht]
    clear ht
    go_wp2_with fail
    refine (own_dv2 A P c p D w1 HD1.out.a HD1.out.p Hsm.out).mono ?_
    rintro e w2 ⟨A', c', P', p', rfl, hE2, h1, h2⟩
    have HD2 := Lib.hid (HD1.out.ext hE2)
    have HE2 := Lib.hid (HE1.out.trans hE2)
    have HA2 := Lib.hid h1
    have HP2 := Lib.hid h2.ws
    clear hE2 h1 h2 hc
    go_wp2_with fail
    refine (check_any A' P' c' p' D w2 HA2.out HP2.out Hsm.out).mono ?_
    rintro e w3 ⟨rfl, hE3⟩
    have HD3 := Lib.hid (HD2.out.ext hE3)
    have HE3 := Lib.hid (HE2.out.trans hE3)
    have hc := HD3.out.cells
    clear hE3 HD1 HD2 HA2 HP2
    by_cases h0 : pCheck D = 0
    · have t1 : (pCheck D == 0) = true := by simp [h0]
      have hr : Hid (pRight D = true) := by show _ = _; unfold pRight; rw [Ht.out, h0]; rfl
      have hb := (pCheck_ok h0).2.1
      have Hb := Lib.hid hb
      clear h0 hb
      go_wp2
      go_ret
      exact ⟨ret_bool (by rw [hr.out]; have := Hb.out; exact decide_eq_true (by omega)), HE3.out⟩
    · have t1 : (pCheck D == 0) = false := by simp [h0]
      have hr : Hid (pRight D = false) := by show _ = _; unfold pRight; rw [decide_eq_false h0]; simp
      clear h0
      go_wp2
      go_ret
      exact ⟨ret_bool hr.out.symm, HE3.out⟩
  · have hr : Hid (pRight D = false) := by show _ = _; unfold pRight; rw [show pThin D = false by simpa using ht]; rfl
    rw [show pThin D = false by simpa using ht]
    clear ht
    go_wp2
    go_ret
    exact ⟨ret_bool hr.out.symm, HE1.out⟩
end Go.Proofs.Ytdlalmbnkcadfaa
/- plain: a crash with the writes in order, all whole or none of a byte. -/
namespace Go.Proofs.Ytdlalmbnkcadfaa
open Go.RowKit

def allF (n : Nat) (p : Int) : Ft := ⟨(List.range n).map fun i : Nat => (i : Int), List.replicate n p⟩
theorem range_count (n i : Nat) (h : i < n) : ((List.range n).map fun i : Nat => (i : Int)).count (i : Int) = 1 := by
  have hn : ((List.range n).map fun i : Nat => (i : Int)).Nodup := by
    unfold List.Nodup
    rw [List.pairwise_map]
    exact List.pairwise_lt_range.imp fun h => by omega
  have hm : (i : Int) ∈ (List.range n).map fun i : Nat => (i : Int) := List.mem_map.2 ⟨i, List.mem_range.2 h, rfl⟩
  have a := List.nodup_iff_count.1 hn (i : Int)
  have b := List.count_pos_iff.2 hm
  omega
theorem allF_is (n : Nat) (p : Int) (h : 0 ≤ p ∧ p ≤ 32) : pIsFate n (allF n p) = true := by
  rw [← rIsF_eq]
  unfold rIsF allF
  simp only [Bool.and_eq_true, decide_eq_true_eq, List.all_eq_true, List.mem_range, rOne]
  refine ⟨⟨by simp, by simp⟩, fun i hi => ?_⟩
  rw [range_count n i hi, List.getD_eq_getElem?_getD, List.getElem?_eq_getElem (by simpa using hi)]
  simp
  exact h
theorem cr_step (ws : List Wr) (p : Int) (b : BL) (k : Nat) (hk : k < ws.length) : crStep ws (List.replicate ws.length p) b (k : Int) = put1 b ws[k].blk.toNat ws[k].bs p.toNat := by
  unfold crStep
  simp [hk]
theorem cr_all (ws : List Wr) (p : Int) (bytes : BL) : ∀ k, k ≤ ws.length → (((List.range k).map fun i : Nat => (i : Int)).foldl (crStep ws (List.replicate ws.length p)) bytes) = (ws.take k).foldl (fun b x => put1 b x.blk.toNat x.bs p.toNat) bytes
  | 0, _ => rfl
  | k + 1, h => by
    rw [List.range_succ, List.map_append, List.foldl_append, cr_all ws p bytes k (by omega), List.take_succ_eq_append_getElem (by omega), List.foldl_append]
    simp only [List.map_cons, List.map_nil, List.foldl_cons, List.foldl_nil]
    exact cr_step ws p _ k (by omega)
theorem cr_whole (bytes : BL) (ws : List Wr) : pCr bytes ws (allF ws.length 32) = pFl bytes ws := by
  have h := cr_all ws 32 bytes ws.length (Nat.le_refl _)
  rw [List.take_length] at h
  exact h
theorem put_none (bytes bs : BL) (b : Nat) : put1 bytes b bs 0 = bytes := put1_zero bytes bs b
theorem cr_nothing (bytes : BL) (ws : List Wr) : pCr bytes ws (allF ws.length 0) = bytes := by
  have h := cr_all ws 0 bytes ws.length (Nat.le_refl _)
  rw [List.take_length] at h
  refine Eq.trans h ?_
  have e : ∀ (l : List Wr) (b : BL), l.foldl (fun b x => put1 b x.blk.toNat x.bs (0 : Int).toNat) b = b := fun l => by
    induction l with
    | nil => intro b; rfl
    | cons x r ih => intro b; rw [List.foldl_cons, ih]; exact put1_zero _ _ _
  exact e ws bytes
end Go.Proofs.Ytdlalmbnkcadfaa
