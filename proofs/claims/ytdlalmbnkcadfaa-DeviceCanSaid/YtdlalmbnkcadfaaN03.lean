/- reference: Flush. -/
import Derived.Test.YtdlalmbnkcadfaaN01
import Derived.Test.YtdlalmbnkcadfaaM23
namespace Go.Proofs.Ytdlalmbnkcadfaa
open Go.RowKit

theorem resD_0 {er : Int} (h : er = 0) (D : Dk) : resD er D = D := by unfold resD; rw [if_pos h]
theorem resD_ne {er : Int} (h : er ≠ 0) (D : Dk) : resD er D = ⟨[], []⟩ := by unfold resD; rw [if_neg h]
/-- the bad end: a zero device in the result's cell -/
theorem retV_bad {w w' : World} {er : Int} {D : Dk} (h : er ≠ 0) (hE : Ext w w') : RetV w er (resD er D) (.returned (.tuple #[zeroDk, .int .i64 er])) w' := ⟨_, rfl, hE, by rw [resD_ne h]; exact zero_dkv _⟩
set_option maxRecDepth 100000 in
set_option maxHeartbeats 2000000 in
theorem rFlush_any (A P : Option Addr) (c p : Nat) (D : Dk) (w : World) (hA : By w A D.bytes) (hP : Ws w P D.pend) (hsm : Small D) :
    Calls Try.prog 35 #[.agg #[.slice A D.bytes.length c, .slice P D.pend.length p]] w (RetV w (pFlush D) (resD (pFlush D) (pFlushD D))) := by
  rw [pFlush_eq]
  obtain ⟨W, hW, hE, hz, k0, k1⟩ := box2 w #[.slice A D.bytes.length c, .slice P D.pend.length p] #[.slice none 0 0, .slice none 0 0] 25 25
  have HP := Lib.hid (hP.ext hE)
  have HA := Lib.hid (hA.ext hE)
  have HE := Lib.hid hE
  have Hsm := Lib.hid hsm
  have HK := Lib.hid k0
  have HK1 := Lib.hid k1
  have d0 := k0.cell 0
  have d1 := k0.cell 1
  simp at d0 d1
  clear hE hP hA hsm k0 k1 hz
  go_enter Try.func35, Try.ntmps35
  go_wp2_with fail
  refine (rCheck_any A P c p D W HP.out Hsm.out).mono ?_
  rintro e w1 ⟨rfl, hE1⟩
  have K1 := HK.out.ext hE1
  have KR := HK1.out.ext hE1
  have d0 := K1.cell 0
  have d1 := K1.cell 1
  simp at d0 d1
  have HP1 := Lib.hid (HP.out.ext hE1)
  have HA1 := Lib.hid (HA.out.ext hE1)
  have HE1 := Lib.hid (HE.out.trans hE1)
  have HKR := Lib.hid KR
  clear hE1 K1 HP HA HE HK HK1 hW
  by_cases h1 : pCheck D = 0
  · obtain ⟨hr0, hr1, hr2, hr3, hr4⟩ := pCheck_ok h1
    have Hne : Hid (D.bytes ≠ []) := fun e => by rw [e] at hr1; simp at hr1
    have Hok := Lib.hid hr4
    have Hl := Lib.hid (pFl_length (D.bytes.length / 32) D.pend D.bytes (by omega) hr4)
    have H1 := Lib.hid h1
    rw [h1]
    clear h1 hr0 hr1 hr2 hr3 hr4 KR
    go_wp2_with fail
    refine (rFlushed_any A P c p D w1 HA1.out HP1.out Hsm.out Hne.out Hok.out).mono ?_
    rintro e w3 ⟨g, c', rfl, hO, hE3, hg, hc⟩
    have HE3 := Lib.hid (HE1.out.trans hE3)
    have HO := Lib.hid hO
    have KR3 := HKR.out.ext hE3
    have HKR3 := Lib.hid KR3
    have r0 := KR3.cell 0
    have r1 := KR3.cell 1
    have f0 := KR3.frozen 0
    have f1 := KR3.frozen 1
    simp at r0 r1
    have HG : Hid (g ≠ w.heap.size + 1) := by show _ ≠ _; have := HKR.out.lt; omega
    have HC := Lib.hid hc
    clear hO hE3 hg hc HP1 HA1 HE1 KR3 HKR d0 d1
    go_wp2
    have kk := ((HKR3.out.set 0 (.slice (some ⟨g, 0, none⟩) D.bytes.length c')).set 1 (.slice none 0 0))
    have q0 := kk.cell 0
    have q1 := kk.cell 1
    simp only [Array.setIfInBounds_def] at q0 q1
    refine bodyPost_ret (v := .tuple #[.agg #[.slice (some ⟨g, 0, none⟩) D.bytes.length c', .slice none 0 0], .int .i64 0]) (by simp [results, Try.results35, go_sem, q0, q1]) rfl ⟨_, by rw [H1.out], (HE3.out.setCell (Nat.le_succ _) _).setCell (Nat.le_succ _) _, ?_⟩
    rw [resD_0 H1.out]
    refine ⟨some ⟨g, 0, none⟩, c', none, 0, by simp [pFlushD, Hl.out], by simp only [pFlushD]; rw [Hl.out]; exact HC.out, ?_, Nat.le_refl _, Ws.nil _ _⟩
    exact ((HO.out.far HG.out _).far HG.out _).by
  · have t1 : (pCheck D != 0) = true := by simp [h1]
    have H1 := Lib.hid h1
    have r0 := KR.cell 0
    have r1 := KR.cell 1
    have f0 := KR.frozen 0
    have f1 := KR.frozen 1
    simp at r0 r1
    clear h1 KR
    go_wp2
    have kk := ((HKR.out.set 0 (.slice none 0 0)).set 1 (.slice none 0 0))
    have q0 := kk.cell 0
    have q1 := kk.cell 1
    simp only [Array.setIfInBounds_def] at q0 q1
    exact bodyPost_ret (v := .tuple #[zeroDk, .int .i64 (pCheck D)]) (by simp [results, Try.results35, go_sem, q0, q1, zeroDk]) rfl (retV_bad H1.out ((HE1.out.setCell (Nat.le_succ _) _).setCell (Nat.le_succ _) _))
end Go.Proofs.Ytdlalmbnkcadfaa
/- reference: Put. -/
namespace Go.Proofs.Ytdlalmbnkcadfaa
open Go.RowKit

theorem PO.add {w : World} {B : Nat} {X : List Nat} {Pv : Value} {qs : List Rec} (h : PO w B X Pv qs) {x : Nat} (hx : x < B ∨ w.heap.size ≤ x) : PO w B (x :: X) Pv qs :=
  ⟨h.own, fun q hq => by
    obtain ⟨h1, h2, h3⟩ := h.one q hq
    refine ⟨h1, h2, fun a ha => ?_⟩
    obtain ⟨a1, a2, a3, a4⟩ := h3 a ha
    refine ⟨a1, a2, fun y hy => ?_, a4⟩
    rcases List.mem_cons.1 hy with rfl | hy
    · omega
    · exact a3 y hy⟩
set_option maxRecDepth 100000 in
set_option maxHeartbeats 2000000 in
theorem rPut_any (A P Ax : Option Addr) (c p dx : Nat) (D : Dk) (x : Wr) (w : World) (hA : By w A D.bytes) (hP : Ws w P D.pend) (hx : By w Ax x.bs) (hsm : Small D) (hxs : x.bs.length ≤ 100000) :
    Calls Try.prog 34 #[.agg #[.slice A D.bytes.length c, .slice P D.pend.length p], .agg #[.int .i64 x.blk, .slice Ax x.bs.length dx]] w (RetV w (pPut D x) (resD (pPut D x) (pDoD D 1 x))) := by
  obtain ⟨W, hW, hE, hz, k0, kx, k1⟩ := box3 w #[.slice A D.bytes.length c, .slice P D.pend.length p] #[.int .i64 x.blk, .slice Ax x.bs.length dx] #[.slice none 0 0, .slice none 0 0] 25 49 25
  have HP := Lib.hid (hP.ext hE)
  have HA := Lib.hid (hA.ext hE)
  have HX := Lib.hid (hx.ext hE)
  have HE := Lib.hid hE
  have Hsm := Lib.hid hsm
  have HK := Lib.hid k0
  have HKx := Lib.hid kx
  have HKr := Lib.hid k1
  have Hxs := Lib.hid hxs
  have d0 := k0.cell 0
  have d1 := k0.cell 1
  simp at d0 d1
  clear hE hP hA hx hsm k0 k1 kx hz hxs
  go_enter Try.func34, Try.ntmps34
  go_wp2_with fail
  refine (rCheck_any A P c p D W HP.out Hsm.out).mono ?_
  rintro e w1 ⟨rfl, hE1⟩
  have K1 := HK.out.ext hE1
  have Kx := HKx.out.ext hE1
  have KR := HKr.out.ext hE1
  have d0 := K1.cell 0
  have d1 := K1.cell 1
  have x0 := Kx.cell 0
  have x1 := Kx.cell 1
  simp at d0 d1 x0 x1
  have HP1 := Lib.hid (HP.out.ext hE1)
  have HA1 := Lib.hid (HA.out.ext hE1)
  have HX1 := Lib.hid (HX.out.ext hE1)
  have HE1 := Lib.hid (HE.out.trans hE1)
  have HKR := Lib.hid KR
  have HKx1 := Lib.hid Kx
  have HK1 := Lib.hid K1
  clear hE1 K1 Kx KR HP HA HE HX HK HKx HKr hW
  by_cases h1 : pCheck D = 0
  · rw [h1]
    go_wp2_with fail
    refine (rIsWrite_any A P Ax D.bytes.length c D.pend.length p x.bs.length dx x.blk w1 (by have := Hsm.out.1; omega)).mono ?_
    rintro e w2 ⟨rfl, hE2⟩
    have K1 := HK1.out.ext hE2
    have Kx := HKx1.out.ext hE2
    have KR := HKR.out.ext hE2
    have d0 := K1.cell 0
    have d1 := K1.cell 1
    have x0 := Kx.cell 0
    have x1 := Kx.cell 1
    simp at d0 d1 x0 x1
    have HP2 := Lib.hid (HP1.out.ext hE2)
    have HA2 := Lib.hid (HA1.out.ext hE2)
    have HX2 := Lib.hid (HX1.out.ext hE2)
    have HE2 := Lib.hid (HE1.out.trans hE2)
    have HKR2 := Lib.hid KR
    have HKx2 := Lib.hid Kx
    have hok := okWr_eq (D.bytes.length / 32) x
    clear hE2 K1 Kx KR HP1 HA1 HX1 HE1 HKR HKx1 HK1
    have HKR := HKR2
    clear HKR2
    have Hp0 : Hid (pPut D x = pPutE D x) := by show _ = _; unfold pPut pDo; rw [if_pos h1]; rfl
    rw [← hok]
    by_cases h2 : okWr (D.bytes.length / 32) x = true
    · rw [h2]
      by_cases h3 : D.pend.length = 64
      · have hpp : Hid (pPut D x = 8) := by show _ = _; rw [Hp0.out]; unfold pPutE; rw [if_pos h2, if_pos h3]
        have t1 : ((D.pend.length : Int) == 64) = true := by simp [h3]
        have H1 : Hid ((8 : Int) ≠ 0) := by show _ ≠ _; decide
        clear h1 h2 h3 hok
        have KR := HKR.out
        have r0 := KR.cell 0
        have r1 := KR.cell 1
        have f0 := KR.frozen 0
        have f1 := KR.frozen 1
        simp at r0 r1
        clear KR
        go_wp2
        have kk := ((HKR.out.set 0 (.slice none 0 0)).set 1 (.slice none 0 0))
        have q0 := kk.cell 0
        have q1 := kk.cell 1
        simp only [Array.setIfInBounds_def] at q0 q1
        rw [hpp.out]
        exact bodyPost_ret (v := .tuple #[zeroDk, .int .i64 8]) (by simp [results, Try.results34, go_sem, q0, q1, zeroDk]) rfl (retV_bad H1.out ((HE2.out.setCell (by show _ ≤ w.heap.size + 2; omega) _).setCell (by show _ ≤ w.heap.size + 2; omega) _))
      · have hpp : Hid (pPut D x = 0) := by show _ = _; rw [Hp0.out]; unfold pPutE; rw [if_pos h2, if_neg h3]
        have hpd : Hid (pDoD D 1 x = { D with pend := D.pend ++ [x] }) := by
          show pPutD D x = _
          unfold pPutD
          rw [if_pos]
          unfold pPutE; rw [if_pos h2, if_neg h3]
        have t1 : ((D.pend.length : Int) == 64) = false := by simp; omega
        clear h1 h2 h3 hok
        go_wp2_with fail
        refine (copy_any A P c p D w2 HA2.out HP2.out Hsm.out).mono ?_
        rintro e w3 ⟨v, rfl, hCD, hE3⟩
        obtain ⟨A', c', Pv, qs, rfl, hc, hBy, hAa, hPO, hqs⟩ := hCD
        have Kx := HKx2.out.ext hE3
        have KR := HKR.out.ext hE3
        obtain ⟨PA, pc, rfl, hpc⟩ := hPO.form
        go_wp2_with fail
        obtain ⟨xo, hxo⟩ : ∃ xo, xo = w3.heap.size := ⟨_, rfl⟩
        obtain ⟨w4, hw4, hE4, hz4, ko⟩ := box1 w3 #[.slice A' D.bytes.length c', .slice PA qs.length pc] 25
        rw [hw4, ← hxo]
        rw [← hxo] at ko
        have hBy4 := hBy.ext hE4
        have hPO4 := ((hPO.add (x := xo) (Or.inr (by rw [hxo]; exact Nat.le_refl _))).add (x := w.heap.size + 1 + 1) (Or.inl HKR.out.lt)).ext hE4
        have Kx4 := Kx.ext hE4
        have HKR4 := Lib.hid (KR.ext hE4)
        have HX4 := Lib.hid ((HX2.out.ext hE3).ext hE4)
        have HE4 := Lib.hid ((HE2.out.trans hE3).trans hE4)
        have hs23 := hE3.size
        have hs34 : w4.heap.size = xo + 1 := by rw [hz4.out, hxo]
        have hs1 := HE2.out.size
        have hsR := HKR.out.lt
        have Hcc := Lib.hid hc
        have Hqs := Lib.hid hqs
        have HA' : Hid (∀ a, A' = some a → w2.heap.size ≤ a.block ∧ a.block < xo ∧ some a.block ≠ (Value.slice PA qs.length pc).ownBlock) := fun a ha => by have := hAa a ha; rw [hxo]; exact this
        have hql : qs.length = D.pend.length := by have := congrArg List.length hqs; simpa using this
        have Hql := Lib.hid hql
        have hsk := Hxs.out
        have hS := Lib.hid (fun w' (h : Ext w4 w') => (⟨h, (ko.ext h).cell 1, (Kx4.ext h).cell 0, (Kx4.ext h).cell 1⟩ : Ext w4 w' ∧ w'.cell? ⟨xo, 1, none⟩ = some (.slice PA qs.length pc) ∧ w'.cell? ⟨w.heap.size + 1, 0, none⟩ = some (.int .i64 x.blk) ∧ w'.cell? ⟨w.heap.size + 1, 1, none⟩ = some (.slice Ax x.bs.length dx)))
        have Hhs : Hid (w2.heap.size ≤ xo ∧ w4.heap.size = xo + 1 ∧ w.heap.size ≤ w2.heap.size ∧ w.heap.size + 1 + 1 < w2.heap.size) := ⟨by omega, hs34, hs1, hsR⟩
        clear hw4 hxo hE3 hE4 hz4 hBy hPO Kx Kx4 KR HX2 HE2 HKR HKx2 HP2 HA2 hAa hc hqs hql hs23 hs34 hs1 hsR d0 d1 x0 x1 t1
        have HBy4 := Lib.hid hBy4
        clear hBy4
        refine wp_region_rel 5 (by kernel_rfl) (by kernel_rfl) (Ext.refl w4).drew ?_
        repeat (apply relW_fix
                · intro vs w' hw hf
                  have hc := hS.out w' hw
                  unfold okAt
                  go_simp
                  first | exact ⟨rfl, Ext.refl _⟩ | exact rfl
                · intro vs; go_simp; rfl)
        (apply relW_any (SV.wr w4.heap.size x)
         · intro vs w' hw hf
           have hc := hS.out w' hw
           skip
           unfold okAt
           go_simp
           refine ⟨Ext.refl _, ?_⟩; go_at_call 31; refine (copyWrite_any Ax dx x _ (HX4.out.ext hw) hsk).mono ?_; rintro e w5 ⟨v, rfl, ⟨A5, c5, h1, h2, h3, h4⟩, h5⟩; exact ⟨_, rfl, ⟨A5, c5, h1, h2, h3, fun a ha => (by have := hw.size; have := h4 a ha; exact ⟨by omega, this.2⟩)⟩, h5⟩
         · intro vs; go_simp; rfl)
        (apply relW_any (SV.box w4.heap.size x)
         · intro vs w' hw hf
           have hc := hS.out w' hw
           obtain ⟨A5, c5, e5, q1, q2, q3⟩ := hf.out.1 (by kernel_rfl)
           unfold okAt
           go_simp
           exact ⟨⟨_, A5, c5, rfl, Bk.new _ _ _, q1, q2.ext ((Ext.refl _).alloc _), fun a ha => (by have := q3 a ha; exact ⟨this.1, by simp; omega⟩)⟩, (Ext.refl _).alloc _⟩
         · intro vs; go_simp; rfl)
        refine relW_nil fun vs w6 hw hf => ?_
        obtain ⟨⟨b5, A5, c5, e5, kb, l1, l2, l3⟩, _⟩ := hf
        have hE6 : Ext w4 w6 := hw
        have jo6 := ko.ext hE6
        have hPO6 := hPO4.ext hE6
        obtain ⟨i0, hi0, hz0, hz1, hz2⟩ := info_parts info_bw
        have Hkb := Lib.hid kb
        have hB6 : w2.heap.size ≤ w6.heap.size := by have := Hhs.out; have := hE6.size; omega
        clear kb
        refine wpList_append_lies (P := Try.prog) w6 rfl (.tmp 27) (.tmp 30) 23 rfl w2.heap.size 49 i0 _ 2 32 Try.underlying23 hi0 hz0 hz1 hz2 (by rfl) (by omega) (.slice PA qs.length pc) qs.length (rcells qs) (by rfl) hPO6.own ⟨b5, 0, none⟩ 1 1 [.int .i64 x.blk, .slice A5 x.bs.length c5] ?_ (by rfl) ?_ ?_ (by omega) ?_ ?_ hB6 w6.heap.size rfl ?_
        · exact e5
        · exact World.news_of_block (cs := #[.int .i64 x.blk, .slice A5 x.bs.length c5]) Hkb.out
        · intro u hu; simp at hu; rcases hu with rfl | rfl <;> rfl
        · have := Hql.out; have := Hsm.out.2.1; simp only [maxLen]; omega
        · have := Hql.out; have := Hsm.out.2.1; omega
        · intro g' cap w7 hown hgrow hat hlt7
          have hoff : ∀ a, A5 = some a → w2.heap.size ≤ a.block ∧ a.block < w6.heap.size ∧ (∀ x ∈ [w.heap.size + 1 + 1, xo], a.block ≠ x) ∧ some a.block ≠ (Value.slice PA qs.length pc).ownBlock := by
            intro a ha
            have h1 := l3 a ha
            have h2 := Hhs.out
            refine ⟨by omega, h1.2, fun x hx => (by simp only [List.mem_cons, List.not_mem_nil, or_false] at hx; omega), fun h => ?_⟩
            have := (hPO4.own.lt a.block h.symm).2
            omega
          have hPO7 := Lib.hid (hPO6.push (q := (x, A5, c5)) hown hgrow hat l1 l2 hoff)
          have no3 : (25 : Nat) ≠ 49 := by decide
          have jo7 := jo6.grown hgrow (jo6.not_own hPO6.own no3)
          have HR7 := Lib.hid ((HKR4.out.ext hE6).grown hgrow ((HKR4.out.ext hE6).not_own hPO6.own no3))
          have hA7 : Hid (By w7 A' D.bytes) := (HBy4.out.ext hE6).grown (fun a ha => (HA'.out a ha).2.2) hgrow
          have hE7 : Hid (Ext w w7) := Below.grown (HE4.out.trans hE6) hgrow (by have := Hhs.out; omega) (fun x hx => by have := (hPO6.own.lt x hx).1; have := Hhs.out; omega)
          have hs7 : Hid (xo + 1 ≤ w7.heap.size) := by have := Hhs.out; have := hE6.size; have := hgrow.size; show _ ≤ _; omega
          have o0 := jo7.cell 0
          have o1 := jo7.cell 1
          have f1 := jo7.frozen 1
          simp at o0 o1
          have Hjo := Lib.hid jo7
          have KR7 := HR7.out
          have r0 := KR7.cell 0
          have r1 := KR7.cell 1
          have rf0 := KR7.frozen 0
          have rf1 := KR7.frozen 1
          simp at r0 r1
          have hxr : w.heap.size + 1 + 1 < xo := by have := Hhs.out; omega
          clear jo7 hown hgrow hat hoff l3 l2 jo6 hPO6 hS hE6 hw ko KR7 hPO4
          go_wp2
          have kk := (((HR7.out.far (p := ⟨xo, 1, none⟩) (by show _ ≠ xo; omega) (.slice (some ⟨g', 0, none⟩) (qs.length + 1) cap)).set 0 (.slice A' D.bytes.length c')).set 1 (.slice (some ⟨g', 0, none⟩) (qs.length + 1) cap))
          have q0 := kk.cell 0
          have q1 := kk.cell 1
          simp only [Array.setIfInBounds_def] at q0 q1
          refine bodyPost_ret (v := .tuple #[.agg #[.slice A' D.bytes.length c', .slice (some ⟨g', 0, none⟩) (qs.length + 1) cap], .int .i64 0]) (by simp [results, Try.results34, go_sem, q0, q1]) rfl ⟨_, by rw [hpp.out], ?_, ?_⟩
          · have h := Hhs.out
            exact ((hE7.out.setCell (by show _ ≤ xo; omega) _).setCell (by show _ ≤ w.heap.size + 1 + 1; omega) _).setCell (by show _ ≤ w.heap.size + 1 + 1; omega) _
          · rw [resD_0 hpp.out, hpd.out]
            have h := Hhs.out
            have hlo : ∀ a, A' = some a → a.block ≠ w.heap.size + 1 + 1 := fun a ha => by have := HA'.out a ha; omega
            have hlo2 : ∀ a, A' = some a → a.block ≠ xo := fun a ha => by have := HA'.out a ha; omega
            have o1 := Hjo.out.not_own hPO7.out.own no3
            have P8 := hPO7.out.far (p := ⟨xo, 1, none⟩) (by simp) o1 (.slice (some ⟨g', 0, none⟩) (qs.length + 1) cap)
            have o2 := HR7.out.not_own hPO7.out.own no3
            have P9 := (P8.far (p := ⟨w.heap.size + 1 + 1, 0, none⟩) (by simp) o2 (.slice A' D.bytes.length c')).far (p := ⟨w.heap.size + 1 + 1, 1, none⟩) (by simp) o2 (.slice (some ⟨g', 0, none⟩) (qs.length + 1) cap)
            obtain ⟨P', p', e2, h6, h7⟩ := P9.ws (pend := D.pend ++ [x]) (by rw [List.map_append, Hqs.out]; rfl)
            refine ⟨A', c', P', p', congrArg (fun z => Value.agg #[.slice A' D.bytes.length c', z]) e2, Hcc.out, ((hA7.out.far hlo2 _).far hlo _).far hlo _, h6, h7⟩
    · have hpp : Hid (pPut D x = 2) := by show _ = _; rw [Hp0.out]; unfold pPutE; rw [if_neg h2]
      rw [show okWr (D.bytes.length / 32) x = false by simpa using h2]
      have H1 : Hid ((2 : Int) ≠ 0) := by show _ ≠ _; decide
      clear h1 h2 hok
      have KR := HKR.out
      have r0 := KR.cell 0
      have r1 := KR.cell 1
      have f0 := KR.frozen 0
      have f1 := KR.frozen 1
      simp at r0 r1
      clear KR
      go_wp2
      have kk := ((HKR.out.set 0 (.slice none 0 0)).set 1 (.slice none 0 0))
      have q0 := kk.cell 0
      have q1 := kk.cell 1
      simp only [Array.setIfInBounds_def] at q0 q1
      rw [hpp.out]
      exact bodyPost_ret (v := .tuple #[zeroDk, .int .i64 2]) (by simp [results, Try.results34, go_sem, q0, q1, zeroDk]) rfl (retV_bad H1.out ((HE2.out.setCell (by show _ ≤ w.heap.size + 2; omega) _).setCell (by show _ ≤ w.heap.size + 2; omega) _))
  · have hpp : Hid (pPut D x = pCheck D) := by show _ = _; unfold pPut pDo; rw [if_neg h1]
    have t1 : (pCheck D != 0) = true := by simp [h1]
    have H1 := Lib.hid h1
    clear h1
    have KR := HKR.out
    have r0 := KR.cell 0
    have r1 := KR.cell 1
    have f0 := KR.frozen 0
    have f1 := KR.frozen 1
    simp at r0 r1
    clear KR
    go_wp2
    have kk := ((HKR.out.set 0 (.slice none 0 0)).set 1 (.slice none 0 0))
    have q0 := kk.cell 0
    have q1 := kk.cell 1
    simp only [Array.setIfInBounds_def] at q0 q1
    rw [hpp.out]
    exact bodyPost_ret (v := .tuple #[zeroDk, .int .i64 (pCheck D)]) (by simp [results, Try.results34, go_sem, q0, q1, zeroDk]) rfl (retV_bad H1.out ((HE1.out.setCell (by show _ ≤ w.heap.size + 2; omega) _).setCell (by show _ ≤ w.heap.size + 2; omega) _))
end Go.Proofs.Ytdlalmbnkcadfaa
/- reference: CopyWrite and Copy once more, with the fact that a copy's bytes are never at nil. -/
namespace Go.Proofs.Ytdlalmbnkcadfaa
open Go.RowKit

theorem app0_by2 (ty : TypeId) (w : World) (b c : Nat) (A : Option Addr) (bs : BL) (hA : By w A bs) (hl : bs.length ≤ 100000) :
    ∃ v' w', (Builtin.append_ #[22, 22] ty #[.slice (some ⟨b, 0, none⟩) 0 0, .slice A bs.length c]).run Try.prog w = .ok v' w' ∧ Ext w w' ∧
      ∃ A' c', v' = .slice A' bs.length c' ∧ bs.length ≤ c' ∧ By w' A' bs ∧ (∀ a, A' = some a → a.block = b ∨ (w.heap.size ≤ a.block ∧ a.block < w'.heap.size)) ∧ A' ≠ none := by
  obtain ⟨i0, hi0, hz0, hz1, hz2⟩ := info_parts info_u8
  obtain ⟨v', w', h1, h2, h3⟩ := app0 22 5 ty i0 (.int .u8 0) 1 Try.underlying22 hi0 hz0 hz1 hz2 rfl (by omega) w b bs.length c A (bcells bs) (by simp) hA hl
  refine ⟨v', w', h1, h2, ?_⟩
  rcases h3 with ⟨h0, rfl, rfl⟩ | ⟨hpos, hown⟩
  · have : bs = [] := List.eq_nil_of_length_eq_zero h0
    subst this
    exact ⟨_, _, rfl, Nat.le_refl _, By.nil _ _, fun a ha => by cases ha; exact .inl rfl, by simp⟩
  · rcases hown.2 with ⟨hv, h0⟩ | ⟨g, cap, cur, hv, hr⟩
    · omega
    · subst hv
      obtain ⟨ho, hB, hn, _⟩ := ob_of_own hown
      exact ⟨_, _, rfl, hn, ho.by, fun a ha => by cases ha; exact .inr ⟨hB, ho.lt⟩, by simp⟩
def WrV2 (w : World) (B : Nat) (v : Value) (x : Wr) : Prop := ∃ A c, v = .agg #[.int .i64 x.blk, .slice A x.bs.length c] ∧ x.bs.length ≤ c ∧ By w A x.bs ∧ (∀ a, A = some a → B ≤ a.block ∧ a.block < w.heap.size) ∧ A ≠ none
def SV.by2_ (B : Nat) (bs : BL) : SV := ⟨fun v w => ∃ A c, v = .slice A bs.length c ∧ bs.length ≤ c ∧ By w A bs ∧ (∀ a, A = some a → B ≤ a.block ∧ a.block < w.heap.size) ∧ A ≠ none, fun ⟨A, c, h1, h2, h3, h4, h5⟩ e => ⟨A, c, h1, h2, h3.ext e, fun a ha => ⟨(h4 a ha).1, Nat.lt_of_lt_of_le (h4 a ha).2 e.size⟩, h5⟩⟩
def SV.box2 (B : Nat) (x : Wr) : SV := ⟨fun v w => ∃ b A c, v = .slice (some ⟨b, 0, none⟩) 1 1 ∧ Bk w b #[.int .i64 x.blk, .slice A x.bs.length c] 49 ∧ x.bs.length ≤ c ∧ By w A x.bs ∧ (∀ a, A = some a → B ≤ a.block ∧ a.block < w.heap.size) ∧ A ≠ none,
  fun ⟨b, A, c, h1, h2, h3, h4, h5, h6⟩ e => ⟨b, A, c, h1, h2.ext e, h3, h4.ext e, fun a ha => ⟨(h5 a ha).1, Nat.lt_of_lt_of_le (h5 a ha).2 e.size⟩, h6⟩⟩
def SV.wr2 (B : Nat) (x : Wr) : SV := ⟨fun v w => WrV2 w B v x, fun ⟨A, c, h1, h2, h3, h4, h5⟩ e => ⟨A, c, h1, h2, h3.ext e, fun a ha => ⟨(h4 a ha).1, Nat.lt_of_lt_of_le (h4 a ha).2 e.size⟩, h5⟩⟩
def CD2 (w : World) (B : Nat) (v : Value) (D : Dk) : Prop := ∃ A c Pv qs, v = .agg #[.slice A D.bytes.length c, Pv] ∧ D.bytes.length ≤ c ∧ By w A D.bytes ∧ (∀ a, A = some a → B ≤ a.block ∧ a.block < w.heap.size ∧ some a.block ≠ Pv.ownBlock) ∧ PO w B [] Pv qs ∧ qs.map Prod.fst = D.pend ∧ ∀ q ∈ qs, q.2.1 ≠ none
set_option maxRecDepth 100000 in
set_option maxHeartbeats 1000000 in
theorem copyWrite_any2 (A : Option Addr) (c : Nat) (x : Wr) (w : World) (hA : By w A x.bs) (hl : x.bs.length ≤ 100000) :
    Calls Try.prog 31 #[.agg #[.int .i64 x.blk, .slice A x.bs.length c]] w fun e w' => ∃ v, e = .returned v ∧ WrV2 w' w.heap.size v x ∧ Ext w w' := by
  go_enter Try.func31, Try.ntmps31
  go_wp2_with fail
  obtain ⟨W, hW, hE, hz, k0, k1⟩ := box2 w #[.int .i64 x.blk, .slice A x.bs.length c] #[.int .i64 0, .slice none 0 0] 49 49
  rw [hW]; clear hW
  have hS := Lib.hid (fun w' (h : Ext W w') => (⟨h, (k0.ext h).cell 0, (k0.ext h).cell 1⟩ : Ext W w' ∧ w'.cell? ⟨w.heap.size, 0, none⟩ = some (.int .i64 x.blk) ∧ w'.cell? ⟨w.heap.size, 1, none⟩ = some (.slice A x.bs.length c)))
  have HA := Lib.hid (hA.ext hE)
  refine wp_region_rel 6 (by kernel_rfl) (by kernel_rfl) (Ext.refl W).drew ?_
  (apply relW_fix
   · intro vs w' hw hf
     have hc := hS.out w' hw
     unfold okAt
     go_simp
     first | exact ⟨rfl, Ext.refl _⟩ | exact rfl
   · intro vs; go_simp; rfl)
  (apply relW_fix
   · intro vs w' hw hf
     have hc := hS.out w' hw
     unfold okAt
     go_simp
     first | exact ⟨rfl, Ext.refl _⟩ | exact rfl
   · intro vs; go_simp; rfl)
  (apply relW_any (SV.e0 W.heap.size)
   · intro vs w' hw hf
     have hc := hS.out w' hw
     skip
     unfold okAt
     go_simp
     exact ⟨⟨_, rfl, hw.size, by simp⟩, (Ext.refl _).alloc _⟩
   · intro vs; go_simp; rfl)
  (apply relW_fix
   · intro vs w' hw hf
     have hc := hS.out w' hw
     unfold okAt
     go_simp
     first | exact ⟨rfl, Ext.refl _⟩ | exact rfl
   · intro vs; go_simp; rfl)
  (apply relW_fix
   · intro vs w' hw hf
     have hc := hS.out w' hw
     unfold okAt
     go_simp
     first | exact ⟨rfl, Ext.refl _⟩ | exact rfl
   · intro vs; go_simp; rfl)
  (apply relW_any (SV.by2_ W.heap.size x.bs)
   · intro vs w' hw hf
     have hc := hS.out w' hw
     obtain ⟨b, eb, hb1, hb2⟩ := hf.out.1 (by kernel_rfl)
     obtain ⟨v2, w2, h1, h2, h3⟩ := app0_by2 _ w' b c A x.bs (HA.out.ext hw) hl
     refine okAt_app rfl _ _ _ rfl _ _ v2 (by exact eb) rfl h1 ?_ h2
     (obtain ⟨A', c', e1, q1, q2, q3, q4⟩ := h3; exact ⟨A', c', e1, q1, q2, fun a ha => (by have := h2.size; have := hw.size; rcases q3 a ha with q | q <;> omega), q4⟩)
   · intro vs; go_simp; rfl)
  refine relW_nil fun vs w' hw hf => ?_
  obtain ⟨⟨A', c', e4, h1, h2, h3, h4n⟩, _, _⟩ := hf
  have b0 := (k1.ext hw).cell 0
  have b1 := (k1.ext hw).cell 1
  have f0 := (k1.ext hw).frozen 0
  have f1 := (k1.ext hw).frozen 1
  simp at b0 b1
  go_wp2
  have hz' := hz.out
  have hlo : ∀ a, A' = some a → a.block ≠ w.heap.size + 1 := fun a ha => by have := h3 a ha; omega
  have kk := ((k1.ext hw).set 0 (.int .i64 x.blk)).set 1 (.slice A' x.bs.length c')
  have r0 := kk.cell 0
  have r1 := kk.cell 1
  simp only [Array.setIfInBounds_def] at r0 r1
  refine bodyPost_ret (v := .agg #[.int .i64 x.blk, .slice A' x.bs.length c']) (by simp [results, Try.results31, go_sem, r0, r1]) rfl ⟨_, rfl, ⟨A', c', rfl, h1, (h2.far hlo _).far hlo _, fun a ha => (by have := h3 a ha; simp; omega), h4n⟩, ?_⟩
  exact ((hE.trans hw).setCell (by simp) _).setCell (by simp) _

def CpInv2 (w wr : World) (xo xr xd n c : Nat) (A : Option Addr) (dv : Array Value) (bytes : BL) (pend : List Wr) (k : Nat) : Prop :=
  Ext w wr ∧ By wr A bytes ∧ (∀ a, A = some a → w.heap.size + 2 ≤ a.block ∧ a.block < xo) ∧ Bk wr xr #[.slice none 0 0, .slice none 0 0] 25 ∧ Bk wr xd dv 25 ∧
  ∃ Pv qs, Bk wr xo #[.slice A n c, Pv] 25 ∧ PO wr w.heap.size [xo, xr, xd] Pv qs ∧ qs.map Prod.fst = pend.take k ∧ (∀ a, A = some a → some a.block ≠ Pv.ownBlock) ∧ ∀ q ∈ qs, q.2.1 ≠ none
set_option maxRecDepth 100000 in
set_option maxHeartbeats 2000000 in
theorem copy_any2 (A P : Option Addr) (c p : Nat) (D : Dk) (w : World) (hA : By w A D.bytes) (hP : Ws w P D.pend) (hsm : Small D) :
    Calls Try.prog 26 #[.agg #[.slice A D.bytes.length c, .slice P D.pend.length p]] w fun e w' => ∃ v, e = .returned v ∧ CD2 w' w.heap.size v D ∧ Ext w w' := by
  have hpl := hsm.2.1
  go_enter Try.func26, Try.ntmps26
  go_wp2_with (at_builtin; refine wpList_app0 rfl _ _ rfl _ c _ A D.bytes rfl rfl rfl (hA.ext (by repeat (first | exact Ext.refl _ | refine Ext.alloc ?_ _))) hsm.1 ?_; intro A' c' w1 h1 h2 h3 h4 h5)
  obtain ⟨W, hW, hE, hz, k0, k1⟩ := box2 w #[.slice A D.bytes.length c, .slice P D.pend.length p] #[.slice none 0 0, .slice none 0 0] 25 25
  rw [hW] at h1 h4 h5; clear hW
  have hz' := hz.out
  have hE1 : Ext W w1 := ((Ext.refl W).alloc _).trans h1
  obtain ⟨xo, hxo⟩ : ∃ xo, xo = w1.heap.size := ⟨_, rfl⟩
  have m2 := Bk.new w1 #[.slice A' D.bytes.length c', .slice none 0 0] 25
  have hA' : ∀ a, A' = some a → w.heap.size + 2 ≤ a.block ∧ a.block < xo := fun a ha => by
    have hs := h1.size
    simp at hs
    rcases h4 a ha with h | ⟨h, h'⟩
    · rw [hxo]; omega
    · simp at h; rw [hxo]; omega
  have hx1 : w.heap.size + 2 < xo := by have hs := h1.size; simp at hs; rw [hxo]; omega
  have HE : Hid (Ext w (w1.alloc (.cells #[.slice A' D.bytes.length c', .slice none 0 0] 25))) := (hE.trans hE1).alloc _
  have i0 := Lib.hid ((k0.ext hE1).alloc (.cells #[.slice A' D.bytes.length c', .slice none 0 0] 25))
  have i1 := Lib.hid ((k1.ext hE1).alloc (.cells #[.slice A' D.bytes.length c', .slice none 0 0] 25))
  have hA1 := Lib.hid (h3.ext ((Ext.refl w1).alloc (.cells #[.slice A' D.bytes.length c', .slice none 0 0] 25)))
  rw [← hxo] at m2 ⊢
  have M2 := Lib.hid m2
  have Hx := Lib.hid hxo
  clear h1 h3 h4 h5 k0 k1 hE1 hxo m2 hE hz'
  go_loopw [4] (fun i wr => ∃ k : Nat, k ≤ D.pend.length ∧ i = .int .i64 k ∧ CpInv2 w wr xo (w.heap.size + 1) w.heap.size D.bytes.length c' A' #[.slice A D.bytes.length c, .slice P D.pend.length p] D.bytes D.pend k) (fun i _ => D.pend.length - (intOf i).toNat)
  case atStart => exact ⟨0, Nat.zero_le _, rfl, HE.out, hA1.out, hA', i1.out, i0.out, _, [], M2.out, PO.nil _ _ _, rfl, fun a _ e => (by simp [Value.ownBlock] at e), fun q hq => (by cases hq)⟩
  case round =>
    clear HE i0 i1 hA1 M2 Hx
    obtain ⟨k, hk, rfl, hEr, hAr, _, j1, j0, Pv, qs, jo, hPO, hqs, hAP, hqn⟩ := hrel
    have Hqn := Lib.hid hqn
    clear hqn
    have HAr := Lib.hid hAr
    have HAP := Lib.hid hAP
    have HA' := Lib.hid hA'
    have Hqs := Lib.hid hqs
    have HEr := Lib.hid hEr
    have d1 := j0.cell 1
    simp at d1
    clear hAr hAP hA'
    by_cases hlt : k < D.pend.length
    · obtain ⟨b, o, Bx, d, rfl, e1, e2, e3, e4⟩ := hP k D.pend[k] (List.getElem?_eq_getElem hlt)
      have g1 := cellExt hEr e1
      have g2 := cellExt hEr e2
      have Hby := Lib.hid (e4.ext hEr)
      clear e1 e2 e4 hqs hEr
      have hxr : xo < wr.heap.size := jo.lt
      go_wp2_with fail
      have hS := Lib.hid (fun w' (h : Ext wr w') => (⟨h, (jo.ext h).cell 1, (j0.ext h).cell 1, cellExt h g1, cellExt h g2⟩ : Ext wr w' ∧ w'.cell? ⟨xo, 1, none⟩ = some Pv ∧ w'.cell? ⟨w.heap.size, 1, none⟩ = some (.slice (some ⟨b, o, none⟩) D.pend.length p) ∧ w'.cell? ⟨b, o + k * 2, none⟩ = some (.int .i64 D.pend[k].blk) ∧ w'.cell? ⟨b, o + k * 2 + 1, none⟩ = some (.slice Bx D.pend[k].bs.length d)))
      have hsk := hsm.2.2 D.pend[k] (List.getElem_mem hlt)
      clear g1 g2 d1
      refine wp_region_rel 9 (by kernel_rfl) (by kernel_rfl) (Ext.refl wr).drew ?_
      repeat (apply relW_fix
              · intro vs w' hw hf
                have hc := hS.out w' hw
                unfold okAt
                go_simp
                first | exact ⟨rfl, Ext.refl _⟩ | exact rfl
              · intro vs; go_simp; rfl)
      (apply relW_any (SV.wr2 wr.heap.size D.pend[k])
       · intro vs w' hw hf
         have hc := hS.out w' hw
         skip
         unfold okAt
         go_simp
         refine ⟨Ext.refl _, ?_⟩; go_at_call 31; refine (copyWrite_any2 Bx d D.pend[k] _ (Hby.out.ext hw) hsk).mono ?_; rintro e w5 ⟨v, rfl, ⟨A5, c5, h1, h2, h3, h4, h6⟩, h5⟩; exact ⟨_, rfl, ⟨A5, c5, h1, h2, h3, fun a ha => (by have := hw.size; have := h4 a ha; exact ⟨by omega, this.2⟩), h6⟩, h5⟩
       · intro vs; go_simp; rfl)
      (apply relW_any (SV.box2 wr.heap.size D.pend[k])
       · intro vs w' hw hf
         have hc := hS.out w' hw
         obtain ⟨A5, c5, e5, q1, q2, q3, q4⟩ := hf.out.1 (by kernel_rfl)
         unfold okAt
         go_simp
         exact ⟨⟨_, A5, c5, rfl, Bk.new _ _ _, q1, q2.ext ((Ext.refl _).alloc _), fun a ha => (by have := q3 a ha; exact ⟨this.1, by simp; omega⟩), q4⟩, (Ext.refl _).alloc _⟩
       · intro vs; go_simp; rfl)
      refine relW_nil fun vs w6 hw hf => ?_
      obtain ⟨⟨b5, A5, c5, e5, kb, l1, l2, l3, l4⟩, _⟩ := hf
      have hE6 : Ext wr w6 := hw
      have jo6 := jo.ext hE6
      have hPO6 := hPO.ext hE6
      obtain ⟨i0, hi0, hz0, hz1, hz2⟩ := info_parts info_bw
      have hql : qs.length = k := by have := congrArg List.length Hqs.out; simp at this; omega
      have Hql := Lib.hid hql
      have Hkb := Lib.hid kb
      have hB6 : w.heap.size ≤ w6.heap.size := by have := HEr.out.size; have := hE6.size; omega
      clear hql kb
      refine wpList_append_lies (P := Try.prog) w6 rfl (.tmp 18) (.tmp 25) 23 rfl w.heap.size 49 i0 _ 2 32 Try.underlying23 hi0 hz0 hz1 hz2 (by rfl) (by omega) Pv qs.length (rcells qs) (by rfl) hPO6.own ⟨b5, 0, none⟩ 1 1 [.int .i64 D.pend[k].blk, .slice A5 D.pend[k].bs.length c5] ?_ (by rfl) ?_ ?_ (by omega) ?_ ?_ hB6 w6.heap.size rfl ?_
      · exact e5
      · exact World.news_of_block (cs := #[.int .i64 D.pend[k].blk, .slice A5 D.pend[k].bs.length c5]) Hkb.out
      · intro u hu; simp at hu; rcases hu with rfl | rfl <;> rfl
      · have := Hql.out; have := hsm.2.1; simp only [maxLen]; omega
      · have := Hql.out; have := hsm.2.1; omega
      · intro g' cap w7 hown hgrow hat hlt7
        have hoff : ∀ a, A5 = some a → w.heap.size ≤ a.block ∧ a.block < w6.heap.size ∧ (∀ x ∈ [xo, w.heap.size + 1, w.heap.size], a.block ≠ x) ∧ some a.block ≠ Pv.ownBlock := by
          intro a ha
          have h1 := l3 a ha
          have h2 := HEr.out.size
          refine ⟨by omega, h1.2, fun x hx => ?_, fun h => ?_⟩
          · simp only [List.mem_cons, List.not_mem_nil, or_false] at hx
            omega
          · have := (hPO.own.lt a.block h.symm).2
            omega
        have hPO7 := Lib.hid (hPO6.push (q := (D.pend[k], A5, c5)) hown hgrow hat l1 l2 hoff)
        have no3 : (25 : Nat) ≠ 49 := by decide
        have jo7 := jo6.grown hgrow (jo6.not_own hPO6.own no3)
        have j17 := Lib.hid ((j1.ext hE6).grown hgrow ((j1.ext hE6).not_own hPO6.own no3))
        have j07 := Lib.hid ((j0.ext hE6).grown hgrow ((j0.ext hE6).not_own hPO6.own no3))
        have hA7 : Hid (By w7 A' D.bytes) := (HAr.out.ext hE6).grown (fun a ha => HAP.out a ha) hgrow
        have hE7 : Hid (Ext w w7) := Below.grown (HEr.out.trans hE6) hgrow hB6 (fun x hx => (hPO6.own.lt x hx).1)
        have hAP7 : Hid (∀ a, A' = some a → some a.block ≠ (Value.slice (some ⟨g', 0, none⟩) (qs.length + 1) cap).ownBlock) := fun a ha e => by
          simp only [Value.ownBlock, Option.some.injEq] at e
          rcases hat with h | h
          · exact HAP.out a ha (by rw [h, e])
          · have := (HA'.out a ha).2; have := hE6.size; omega
        have o0 := jo7.cell 0
        have o1 := jo7.cell 1
        have f1 := jo7.frozen 1
        simp at o0 o1
        have Hjo := Lib.hid jo7
        clear jo7 hown hgrow hat hoff l3 l2 jo6 hPO6 hS j1 j0 hPO hE6 hw jo
        go_wp2
        go_roundw
        case rel =>
          have hxo2 : w.heap.size + 2 < xo := hx1
          refine ⟨k + 1, by omega, by go_num, Below.setCell hE7.out (by show _ ≤ xo; omega) _, hA7.out.far (fun a ha => by have := (HA'.out a ha).2; show _ ≠ xo; omega) _, HA'.out, j17.out.far (by show _ ≠ xo; omega) _, j07.out.far (by show _ ≠ xo; omega) _, _, qs ++ [(D.pend[k], A5, c5)], Hjo.out.set 1 _, ?_, ?_, hAP7.out, fun q hq => ?_⟩
          · exact hPO7.out.far (by simp) (Hjo.out.not_own hPO7.out.own no3) _
          · rw [List.map_append, Hqs.out]
            simp only [List.map_cons, List.map_nil]
            exact (List.take_succ_eq_append_getElem hlt).symm
          · rcases List.mem_append.1 hq with h | h
            · exact Hqn.out q h
            · simp only [List.mem_singleton] at h
              subst h
              exact l4
        case measure => simp [intOf]; omega
    · obtain rfl : k = D.pend.length := by omega
      obtain ⟨PA, pc, rfl, hpc⟩ := hPO.form
      have o0 := jo.cell 0
      have o1 := jo.cell 1
      have r0 := j1.cell 0
      have r1 := j1.cell 1
      have f0 := j1.frozen 0
      have f1 := j1.frozen 1
      simp at o0 o1 r0 r1
      have Hj1 := Lib.hid j1
      have hxr : xo < wr.heap.size := jo.lt
      clear jo j1 j0 hqs hEr
      go_wp2
      have kk := ((Hj1.out.set 0 (.slice A' D.bytes.length c')).set 1 (.slice PA qs.length pc))
      have q0 := kk.cell 0
      have q1 := kk.cell 1
      simp only [Array.setIfInBounds_def] at q0 q1
      have hlo : ∀ a, A' = some a → a.block ≠ w.heap.size + 1 := fun a ha => by have := HA'.out a ha; omega
      refine bodyPost_ret (v := .agg #[.slice A' D.bytes.length c', .slice PA qs.length pc]) (by simp [results, Try.results26, go_sem, q0, q1]) rfl ⟨_, rfl, ⟨A', c', _, qs, rfl, h2, (HAr.out.far hlo _).far hlo _, fun a ha => ?_, ?_, ?_, Hqn.out⟩, ?_⟩
      · have := HA'.out a ha
        exact ⟨by omega, by simp; omega, HAP.out a ha⟩
      · have ho1 := Hj1.out.not_own hPO.own (by decide)
        exact ((hPO.far (p := ⟨w.heap.size + 1, 0, none⟩) (by simp) ho1 _).far (p := ⟨w.heap.size + 1, 1, none⟩) (by simp) ho1 _).mono (by simp)
      · rw [Hqs.out]; simp
      · exact (HEr.out.setCell (Nat.le_succ _) _).setCell (Nat.le_succ _) _
end Go.Proofs.Ytdlalmbnkcadfaa
