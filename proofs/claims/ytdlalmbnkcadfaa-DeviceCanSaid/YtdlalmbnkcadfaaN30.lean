/- DeviceCan: the walk. -/
import Derived.Test.YtdlalmbnkcadfaaN29
namespace Go.Proofs.Ytdlalmbnkcadfaa
open Go.RowKit

set_option maxRecDepth 100000 in
set_option maxHeartbeats 8000000 in
theorem can_any (A P FA FQ : Option Addr) (c p fc fd : Nat) (D : Dk) (F : Ft) (o : Int) (w : World) (hA : By w A D.bytes) (hP : Ws w P D.pend) (hFA : Is w FA F.order) (hFQ : Is w FQ F.part) (ho : 0 ≤ o ∧ o < 65536) :
    Calls Try.prog 10 #[.agg #[.slice A D.bytes.length c, .slice P D.pend.length p], .agg #[.slice FA F.order.length fc, .slice FQ F.part.length fd], .int .u16 o] w fun e w' => e = .returned (.bool true) ∧ Ext w w' := by
  obtain ⟨W, hW, hE, hz, k0, k1⟩ := box2 w #[.slice A D.bytes.length c, .slice P D.pend.length p] #[.slice FA F.order.length fc, .slice FQ F.part.length fd] 25 34
  have HD : Hid (DBx W w.heap.size A P c p D) := ⟨k0, hA.ext hE, hP.ext hE⟩
  have HF : Hid (FBx W (w.heap.size + 1) FA FQ fc fd F) := ⟨k1, hFA.ext hE, hFQ.ext hE⟩
  have HE := Lib.hid hE
  have Ho := Lib.hid ho
  have hc := HD.out.cells
  clear hE hP hA hFA hFQ k0 k1 hz ho
  go_enter Try.func10, Try.ntmps10
  go_wp2_with fail
  refine (right_any A P c p D W HD.out.a HD.out.p).mono ?_
  rintro e w0 ⟨rfl, hE1⟩
  have Hq := Lib.hid (HD.out.ext hE1)
  clear HD
  have HD := Hq
  clear Hq
  have Hq := Lib.hid (HF.out.ext hE1)
  clear HF
  have HF := Hq
  clear Hq
  have Hq := Lib.hid (HE.out.trans hE1)
  clear HE
  have HE := Hq
  clear Hq
  clear hE1 hc hW
  have hd := HF.out.cells
  by_cases ht : pRight D = true
  · have hr : pThin D = true ∧ pCheck D = 0 := by
      unfold pRight at ht
      simpa using ht
    have Hsm := Lib.hid (thin_small hr.1)
    have Hck := Lib.hid hr.2
    obtain ⟨hr0, hr1, hr2, hr3, hr4⟩ := pCheck_ok hr.2
    have Hl : Hid (D.pend.length ≤ 64) := hr3
    have Hnb : Hid (1 ≤ D.bytes.length / 32 ∧ D.bytes.length % 32 = 0) := ⟨hr1, hr0⟩
    have Hok := Lib.hid hr4
    rw [ht]
    clear ht hr hr0 hr1 hr2 hr3 hr4
    go_wp2_with fail
    refine (thinFate_any FA FQ fc fd F w0).mono ?_
    rintro e w1 ⟨rfl, hE1⟩
    have Hq := Lib.hid (HD.out.ext hE1)
    clear HD
    have HD := Hq
    clear Hq
    have Hq := Lib.hid (HF.out.ext hE1)
    clear HF
    have HF := Hq
    clear Hq
    have Hq := Lib.hid (HE.out.trans hE1)
    clear HE
    have HE := Hq
    clear Hq
    clear hE1 hd
    by_cases ht : pThinF F = true
    · rw [ht]
      clear ht
      go_wp2_with fail
      obtain ⟨er, her⟩ : ∃ er, pPossE D D.bytes = er := ⟨_, rfl⟩
      obtain ⟨rr, hrr⟩ : ∃ rr, pPossR D D.bytes = rr := ⟨_, rfl⟩
      have Hpo : Hid (pPossR D D.bytes = rr ∧ pPossE D D.bytes = er) := ⟨hrr, her⟩
      clear her hrr
      have HD1 := HD
      have hS := Lib.hid (fun w' (h : Ext w1 w') => (⟨h, (HD1.out.ext h).cells.1, (HD1.out.ext h).cells.2⟩ : Ext w1 w' ∧ w'.cell? ⟨w.heap.size, 0, none⟩ = some (.slice A D.bytes.length c) ∧ w'.cell? ⟨w.heap.size, 1, none⟩ = some (.slice P D.pend.length p)))
      refine wp_region_rell 10 (by kernel_rfl) (by kernel_rfl) (fun _ _ _ _ _ h => h) (Ext.refl w1).drew ?_
      (apply relW_fix
       · intro vs w' hw hf
         have hc := hS.out w' hw
         unfold okAt
         go_simp
         first | exact ⟨rfl, Ext.refl _⟩ | exact rfl
       · intro vs; go_simp; rfl)
      (apply relW_any (SV.cd D)
       · intro vs w' hw hf
         have hc := hS.out w' hw
         skip
         unfold okAt
         go_simp
         refine ⟨Ext.refl _, ?_⟩; go_at_call 37; refine (own_dv2 A P c p D w' (HD1.out.a.ext hw) (HD1.out.p.ext hw) Hsm.out).mono ?_; rintro e w5 ⟨A', c', P', p', rfl, h1, h2, h3⟩; exact ⟨_, rfl, ⟨A', P', c', p', rfl, h2, h3⟩, h1⟩
       · intro vs; go_simp; rfl)
      (apply relW_any (SV.e0 w1.heap.size)
       · intro vs w' hw hf
         have hc := hS.out w' hw
         skip
         unfold okAt
         go_simp
         exact ⟨⟨_, rfl, hw.size, by simp⟩, (Ext.refl _).alloc _⟩
       · intro vs; go_simp; rfl)
      (apply relW_fix
       · intro vs w' hw hf
         have hc := hS.out w' hw
         unfold okAt
         go_simp
         first | exact ⟨rfl, Ext.refl _⟩ | exact rfl
       · intro vs; go_simp; rfl)
      (apply relW_fix
       · intro vs w' hw hf
         have hc := hS.out w' hw
         unfold okAt
         go_simp
         first | exact ⟨rfl, Ext.refl _⟩ | exact rfl
       · intro vs; go_simp; rfl)
      (apply relW_any (SV.by_ w1.heap.size D.bytes)
       · intro vs w' hw hf
         have hc := hS.out w' hw
         obtain ⟨b9, eb, hb1, hb2⟩ := hf.out.1 (by kernel_rfl)
         obtain ⟨v2, w2, h1, h2, h3⟩ := app0_by _ w' b9 c A D.bytes (HD1.out.a.ext hw) (by have := Hsm.out.1; omega)
         refine okAt_app rfl _ _ _ rfl _ _ v2 (by exact eb) rfl h1 ?_ h2
         (obtain ⟨A', c', e1, q1, q2, q3, _⟩ := h3; exact ⟨A', c', e1, q1, q2, fun a ha => (by have := h2.size; have := hw.size; rcases q3 a ha with q | q <;> omega)⟩)
       · intro vs; go_simp; rfl)
      (apply relW_fix
       · intro vs w' hw hf
         have hc := hS.out w' hw
         obtain ⟨A5, c5, e5, q1, q2, q3⟩ := hf.out.1 (by kernel_rfl); obtain ⟨B, Q, cb, cq, e1, hB, hQ⟩ := hf.out.2.2.1 (by kernel_rfl)
         unfold okAt
         go_simp
         refine ⟨Ext.refl _, ?_⟩
         go_at_call 29
         refine (possA_any B Q A5 cb cq c5 D D.bytes rr er w' Hpo.out.2 Hpo.out.1 hB hQ.ws q2 Hsm.out q1 (by have := Hsm.out.1; omega)).mono ?_; rintro e w5 ⟨rfl, hb⟩; exact ⟨_, rfl, rfl, hb⟩
       · intro vs; go_simp; rfl)
      (apply relW_fix
       · intro vs w' hw hf
         have hc := hS.out w' hw
         unfold okAt
         go_simp
         first | exact ⟨rfl, Ext.refl _⟩ | exact rfl
       · intro vs; go_simp; rfl)
      (apply relW_fix
       · intro vs w' hw hf
         have hc := hS.out w' hw
         unfold okAt
         go_simp
         first | exact ⟨rfl, Ext.refl _⟩ | exact rfl
       · intro vs; go_simp; rfl)
      (apply relW_fix
       · intro vs w' hw hf
         have hc := hS.out w' hw
         unfold okAt
         go_simp
         first | exact ⟨rfl, Ext.refl _⟩ | exact rfl
       · intro vs; go_simp; rfl)
      refine relW_nil fun vs w2 hw hf => ?_
      have hw0 : Ext w1 w2 := hw
      clear hS HD hf
      simp only [List.drop]
      have HD := Lib.hid (HD1.out.ext hw0)
      have Hq := Lib.hid (HE.out.trans hw0)
      clear HE
      have HE := Hq
      clear Hq
      clear hw HD1
      have Hq := Lib.hid (HF.out.ext hw0)
      clear HF
      have HF := Hq
      clear Hq
      clear hw0
      rcases possE_or Hck.out with h0 | h5
      · have Hp0 : Hid (pPossE D D.bytes = 0) := h0
        obtain rfl : er = 0 := by rw [← Hpo.out.2, h0]
        obtain rfl : rr = true := by rw [← Hpo.out.1, poss_old Hck.out h0]
        clear h0
        have hc := HD.out.cells
        have hd := HF.out.cells
        go_wp2_with fail
        refine (fitW_any FA FQ fc fd D.pend.length F w2 HF.out.a HF.out.p Hl.out).mono ?_
        rintro e w3 ⟨GA, gc, GP, gp, rfl, hE2, hGA, hGP⟩
        clear hc hd HF
        have Hq := Lib.hid (HD.out.ext hE2)
        clear HD
        have HD := Hq
        clear Hq
        have Hq := Lib.hid (HE.out.trans hE2)
        clear HE
        have HE := Hq
        clear Hq
        obtain ⟨V2, hV2, hE3, hz3, k2⟩ := box1 w3 #[.slice GA D.pend.length gc, .slice GP D.pend.length gp] 34
        have HG : Hid (GBx V2 w3.heap.size GA GP D.pend.length gc gp (fitFt F D.pend.length)) := ⟨k2, hGA.ext hE3, hGP.ext hE3⟩
        have Hq := Lib.hid (HD.out.ext hE3)
        clear HD
        have HD := Hq
        clear Hq
        have Hq := Lib.hid (HE.out.trans hE3)
        clear HE
        have HE := Hq
        clear Hq
        clear hE2 hE3 hz3 k2 hGA hGP
        have Hfi := Lib.hid (fitFt_is F D.pend.length Hl.out)
        obtain ⟨X, hX⟩ : ∃ X, pCr D.bytes D.pend (fitFt F D.pend.length) = X := ⟨_, rfl⟩
        have HX := Lib.hid hX
        have HPX : Hid (pPossE D X = 0 ∧ pPossR D X = true) := by
          show _ ∧ _
          rw [← hX]
          exact poss_cr Hck.out Hp0.out Hfi.out
        have HXl : Hid (X.length = D.bytes.length) := by
          show _ = _
          rw [← hX]
          exact pCr_len (D.bytes.length / 32) D.pend _ Hok.out (fitFt_part F _) _ _ (by omega)
        clear hX
        obtain ⟨Y, hY⟩ : ∃ Y, pFl D.bytes D.pend = Y := ⟨_, rfl⟩
        have HY := Lib.hid hY
        have HPY : Hid (pPossE D Y = 0 ∧ pPossR D Y = true) := by
          show _ ∧ _
          rw [← hY]
          exact poss_fl Hck.out Hp0.out
        have HYl : Hid (Y.length = D.bytes.length) := by
          show _ = _
          rw [← hY]
          exact pFl_len Hok.out
        clear hY
        obtain ⟨gb, hgb⟩ : ∃ gb, gb = w3.heap.size := ⟨_, rfl⟩
        go_wp2_with fail
        clear hV2
        rw [← hgb] at HG ⊢
        clear hgb
        have HD1 := HD
        have HG1 := HG
        have hS := Lib.hid (fun w' (h : Ext V2 w') => (⟨h, (HD1.out.ext h).cells.1, (HD1.out.ext h).cells.2, (HG1.out.ext h).cells.1, (HG1.out.ext h).cells.2⟩ : Ext V2 w' ∧ w'.cell? ⟨w.heap.size, 0, none⟩ = some (.slice A D.bytes.length c) ∧ w'.cell? ⟨w.heap.size, 1, none⟩ = some (.slice P D.pend.length p) ∧ w'.cell? ⟨gb, 0, none⟩ = some (.slice GA D.pend.length gc) ∧ w'.cell? ⟨gb, 1, none⟩ = some (.slice GP D.pend.length gp)))
        refine wp_region_rell 8 (by kernel_rfl) (by kernel_rfl) (fun _ _ _ _ _ h => h) (Ext.refl V2).drew ?_
        (apply relW_fix
         · intro vs w' hw hf
           have hc := hS.out w' hw
           unfold okAt
           go_simp
           first | exact ⟨rfl, Ext.refl _⟩ | exact rfl
         · intro vs; go_simp; rfl)
        (apply relW_any (SV.cd D)
         · intro vs w' hw hf
           have hc := hS.out w' hw
           skip
           unfold okAt
           go_simp
           refine ⟨Ext.refl _, ?_⟩; go_at_call 37; refine (own_dv2 A P c p D w' (HD1.out.a.ext hw) (HD1.out.p.ext hw) Hsm.out).mono ?_; rintro e w5 ⟨A', c', P', p', rfl, h1, h2, h3⟩; exact ⟨_, rfl, ⟨A', P', c', p', rfl, h2, h3⟩, h1⟩
         · intro vs; go_simp; rfl)
        (apply relW_fix
         · intro vs w' hw hf
           have hc := hS.out w' hw
           unfold okAt
           go_simp
           first | exact ⟨rfl, Ext.refl _⟩ | exact rfl
         · intro vs; go_simp; rfl)
        (apply relW_any (SV.tuc X)
         · intro vs w' hw hf
           have hc := hS.out w' hw
           obtain ⟨B, Q, cb, cq, e1, hB, hQ⟩ := hf.out.1 (by kernel_rfl)
           unfold okAt
           go_simp
           refine ⟨Ext.refl _, ?_⟩; go_at_call 27; refine (crashH_any (fitFt F D.pend.length) X B Q GA GP cb cq gc gp D w' HX.out Hfi.out (fitFt_len F D.pend.length Hl.out).1 (fitFt_len F D.pend.length Hl.out).2 Hck.out hB hQ.ws (HG1.out.a.ext hw) (HG1.out.p.ext hw) Hsm.out).mono ?_; rintro e w5 ⟨A', P', c', p', rfl, h1, h2, h3⟩; exact ⟨_, rfl, ⟨A', P', c', p', rfl, h2, h3⟩, h1⟩
         · intro vs; go_simp; rfl)
        (apply relW_any (SV.tuc X)
         · intro vs w' hw hf
           have hc := hS.out w' hw
           obtain ⟨A', P', c', p', e6, h2, h3⟩ := hf.out.1 (by kernel_rfl)
           unfold okAt
           go_simp
           exact ⟨⟨A', P', c', p', rfl, h2, h3⟩, Ext.refl _⟩
         · intro vs; go_simp; rfl)
        (apply relW_any (SV.dxc X)
         · intro vs w' hw hf
           have hc := hS.out w' hw
           obtain ⟨A', P', c', p', e6, h2, h3⟩ := hf.out.1 (by kernel_rfl)
           unfold okAt
           go_simp
           exact ⟨⟨A', P', c', p', rfl, h2, h3⟩, Ext.refl _⟩
         · intro vs; go_simp; rfl)
        (apply relW_any (SV.eq (.int .i64 0))
         · intro vs w' hw hf
           have hc := hS.out w' hw
           obtain ⟨A', P', c', p', e6, h2, h3⟩ := hf.out.2.1 (by kernel_rfl)
           unfold okAt
           go_simp
           exact ⟨rfl, Ext.refl _⟩
         · intro vs; go_simp; rfl)
        (apply relW_any (SV.al V2.heap.size #[.slice none 0 0, .slice none 0 0] 25)
         · intro vs w' hw hf
           have hc := hS.out w' hw
           skip
           unfold okAt
           go_simp
           exact ⟨⟨_, rfl, Bk.new _ _ _, hw.size⟩, (Ext.refl _).alloc _⟩
         · intro vs; go_simp; rfl)
        refine relW_nil fun vs w2 hw hf => ?_
        obtain ⟨⟨b6, e6, kb6, hb6⟩, e9, ⟨B, Q, cb, cq, e8, hB, hcb⟩, -⟩ := hf
        have e9 : vs 6 = .int .i64 0 := e9
        have g2 := kb6.cell 0
        have g3 := kb6.cell 1
        have g6 := kb6.frozen 0
        have g7 := kb6.frozen 1
        simp at g2 g3
        clear hS HD HG HG1
        simp only [List.drop]
        have Hcb := Lib.hid hcb
        have HBX := Lib.hid hB
        go_upto_region 8 with fail
        obtain ⟨V, hV, hVb, kb, hoff⟩ := one_box (B := V2.heap.size) kb6 hb6 (.slice B (X).length cb) (.slice Q 0 cq)
        rw [hV]; clear hV
        have hEV : Ext V2 V := Below.trans hw hVb
        have H1 : Hid (DBx V b6 B Q cb cq ⟨X, []⟩) := ⟨kb, hB.off1 kb6 clean_disk hoff, Ws.nil _ _⟩
        have HD := Lib.hid (HD1.out.ext hEV)
        have Hq := Lib.hid (HE.out.trans hEV)
        clear HE
        have HE := Hq
        clear Hq
        have hc := HD.out.cells
        clear hVb kb hoff hEV hB kb6 hb6 hw HD1 g2 g3 g6 g7 e8 hcb HBX
        go_wp2_with fail
        refine (own_dv2 A P c p D V HD.out.a HD.out.p Hsm.out).mono ?_
        rintro e w4 ⟨B2, cb2, Q2, cq2, rfl, hE3, hB2, hQ2⟩
        clear hc
        have Hq := Lib.hid (HD.out.ext hE3)
        clear HD
        have HD := Hq
        clear Hq
        have Hq := Lib.hid (H1.out.ext hE3)
        clear H1
        have H1 := Hq
        clear Hq
        have Hq := Lib.hid (HE.out.trans hE3)
        clear HE
        have HE := Hq
        clear Hq
        clear hE3
        go_wp2_with fail
        refine (flushH_any B2 Q2 cb2 cq2 D w4 Hck.out hB2 hQ2.ws Hsm.out).mono ?_
        rw [HY.out]
        rintro e w5 ⟨B3, Q3, cb3, cq3, rfl, hE4, hB3, hcb3⟩
        have Hcb3 := Lib.hid hcb3
        have Hq := Lib.hid (HD.out.ext hE4)
        clear HD
        have HD := Hq
        clear Hq
        have Hq := Lib.hid (H1.out.ext hE4)
        clear H1
        have H1 := Hq
        clear Hq
        have Hq := Lib.hid (HE.out.trans hE4)
        clear HE
        have HE := Hq
        clear Hq
        clear hE4 hB2 hQ2 hcb3
        obtain ⟨V4, hV4, hE5, hz4, k4⟩ := box1 w5 #[.slice B3 Y.length cb3, .slice Q3 0 cq3] 25
        have H2 : Hid (DBx V4 w5.heap.size B3 Q3 cb3 cq3 ⟨Y, []⟩) := ⟨k4, hB3.ext hE5, Ws.nil _ _⟩
        have Hq := Lib.hid (HD.out.ext hE5)
        clear HD
        have HD := Hq
        clear Hq
        have Hq := Lib.hid (H1.out.ext hE5)
        clear H1
        have H1 := Hq
        clear Hq
        have Hq := Lib.hid (HE.out.trans hE5)
        clear HE
        have HE := Hq
        clear Hq
        clear hE5 hz4 k4 hB3
        obtain ⟨b7, hb7⟩ : ∃ b7, b7 = w5.heap.size := ⟨_, rfl⟩
        go_wp2_with fail
        clear hV4
        rw [← hb7] at H2 ⊢
        clear hb7
        have Hpo : Hid (pPossR D D.bytes = true ∧ pPossE D D.bytes = 0) := Hpo
        have HD1 := HD
        have hS := Lib.hid (fun w' (h : Ext V4 w') => (⟨h, (HD1.out.ext h).cells.1, (HD1.out.ext h).cells.2⟩ : Ext V4 w' ∧ w'.cell? ⟨w.heap.size, 0, none⟩ = some (.slice A D.bytes.length c) ∧ w'.cell? ⟨w.heap.size, 1, none⟩ = some (.slice P D.pend.length p)))
        refine wp_region_rell 10 (by kernel_rfl) (by kernel_rfl) (fun _ _ _ _ _ h => h) (Ext.refl V4).drew ?_
        (apply relW_fix
         · intro vs w' hw hf
           have hc := hS.out w' hw
           unfold okAt
           go_simp
           first | exact ⟨rfl, Ext.refl _⟩ | exact rfl
         · intro vs; go_simp; rfl)
        (apply relW_any (SV.cd D)
         · intro vs w' hw hf
           have hc := hS.out w' hw
           skip
           unfold okAt
           go_simp
           refine ⟨Ext.refl _, ?_⟩; go_at_call 37; refine (own_dv2 A P c p D w' (HD1.out.a.ext hw) (HD1.out.p.ext hw) Hsm.out).mono ?_; rintro e w5 ⟨A', c', P', p', rfl, h1, h2, h3⟩; exact ⟨_, rfl, ⟨A', P', c', p', rfl, h2, h3⟩, h1⟩
         · intro vs; go_simp; rfl)
        (apply relW_any (SV.e0 V4.heap.size)
         · intro vs w' hw hf
           have hc := hS.out w' hw
           skip
           unfold okAt
           go_simp
           exact ⟨⟨_, rfl, hw.size, by simp⟩, (Ext.refl _).alloc _⟩
         · intro vs; go_simp; rfl)
        (apply relW_fix
         · intro vs w' hw hf
           have hc := hS.out w' hw
           unfold okAt
           go_simp
           first | exact ⟨rfl, Ext.refl _⟩ | exact rfl
         · intro vs; go_simp; rfl)
        (apply relW_fix
         · intro vs w' hw hf
           have hc := hS.out w' hw
           unfold okAt
           go_simp
           first | exact ⟨rfl, Ext.refl _⟩ | exact rfl
         · intro vs; go_simp; rfl)
        (apply relW_any (SV.by_ V4.heap.size D.bytes)
         · intro vs w' hw hf
           have hc := hS.out w' hw
           obtain ⟨b9, eb, hb1, hb2⟩ := hf.out.1 (by kernel_rfl)
           obtain ⟨v2, w2, h1, h2, h3⟩ := app0_by _ w' b9 c A D.bytes (HD1.out.a.ext hw) (by have := Hsm.out.1; omega)
           refine okAt_app rfl _ _ _ rfl _ _ v2 (by exact eb) rfl h1 ?_ h2
           (obtain ⟨A', c', e1, q1, q2, q3, _⟩ := h3; exact ⟨A', c', e1, q1, q2, fun a ha => (by have := h2.size; have := hw.size; rcases q3 a ha with q | q <;> omega)⟩)
         · intro vs; go_simp; rfl)
        (apply relW_fix
         · intro vs w' hw hf
           have hc := hS.out w' hw
           obtain ⟨A5, c5, e5, q1, q2, q3⟩ := hf.out.1 (by kernel_rfl); obtain ⟨B, Q, cb, cq, e1, hB, hQ⟩ := hf.out.2.2.1 (by kernel_rfl)
           unfold okAt
           go_simp
           refine ⟨Ext.refl _, ?_⟩
           go_at_call 29
           refine (possA_any B Q A5 cb cq c5 D D.bytes true 0 w' Hpo.out.2 Hpo.out.1 hB hQ.ws q2 Hsm.out q1 (by have := Hsm.out.1; omega)).mono ?_; rintro e w5 ⟨rfl, hb⟩; exact ⟨_, rfl, rfl, hb⟩
         · intro vs; go_simp; rfl)
        (apply relW_fix
         · intro vs w' hw hf
           have hc := hS.out w' hw
           unfold okAt
           go_simp
           first | exact ⟨rfl, Ext.refl _⟩ | exact rfl
         · intro vs; go_simp; rfl)
        (apply relW_fix
         · intro vs w' hw hf
           have hc := hS.out w' hw
           unfold okAt
           go_simp
           first | exact ⟨rfl, Ext.refl _⟩ | exact rfl
         · intro vs; go_simp; rfl)
        (apply relW_fix
         · intro vs w' hw hf
           have hc := hS.out w' hw
           unfold okAt
           go_simp
           first | exact ⟨rfl, Ext.refl _⟩ | exact rfl
         · intro vs; go_simp; rfl)
        refine relW_nil fun vs w2 hw hf => ?_
        have hw0 : Ext V4 w2 := hw
        clear hS HD hf
        simp only [List.drop]
        have HD := Lib.hid (HD1.out.ext hw0)
        have Hq := Lib.hid (HE.out.trans hw0)
        clear HE
        have HE := Hq
        clear Hq
        clear hw HD1
        have Hq := Lib.hid (H1.out.ext hw0)
        clear H1
        have H1 := Hq
        clear Hq
        have Hq := Lib.hid (H2.out.ext hw0)
        clear H2
        have H2 := Hq
        clear Hq
        clear hw0
        go_upto_region 12 with fail
        obtain ⟨w6, hw6⟩ : ∃ w6, w6 = w2 := ⟨_, rfl⟩
        rw [← hw6] at HD H1 H2 HE ⊢
        clear hw6
        have HD1 := HD
        have HN1 := H1
        have hS := Lib.hid (fun w' (h : Ext w6 w') => (⟨h, (HD1.out.ext h).cells.1, (HD1.out.ext h).cells.2, (HN1.out.ext h).cells.1⟩ : Ext w6 w' ∧ w'.cell? ⟨w.heap.size, 0, none⟩ = some (.slice A D.bytes.length c) ∧ w'.cell? ⟨w.heap.size, 1, none⟩ = some (.slice P D.pend.length p) ∧ w'.cell? ⟨b6, 0, none⟩ = some (.slice B (X).length cb)))
        refine wp_region_rell 8 (by kernel_rfl) (by kernel_rfl) (fun _ _ _ _ _ h => h) (Ext.refl w6).drew ?_
        (apply relW_fix
         · intro vs w' hw hf
           have hc := hS.out w' hw
           unfold okAt
           go_simp
           first | exact ⟨rfl, Ext.refl _⟩ | exact rfl
         · intro vs; go_simp; rfl)
        (apply relW_any (SV.cd D)
         · intro vs w' hw hf
           have hc := hS.out w' hw
           skip
           unfold okAt
           go_simp
           refine ⟨Ext.refl _, ?_⟩; go_at_call 37; refine (own_dv2 A P c p D w' (HD1.out.a.ext hw) (HD1.out.p.ext hw) Hsm.out).mono ?_; rintro e w5 ⟨A', c', P', p', rfl, h1, h2, h3⟩; exact ⟨_, rfl, ⟨A', P', c', p', rfl, h2, h3⟩, h1⟩
         · intro vs; go_simp; rfl)
        (apply relW_fix
         · intro vs w' hw hf
           have hc := hS.out w' hw
           unfold okAt
           go_simp
           first | exact ⟨rfl, Ext.refl _⟩ | exact rfl
         · intro vs; go_simp; rfl)
        (apply relW_fix
         · intro vs w' hw hf
           have hc := hS.out w' hw
           unfold okAt
           go_simp
           first | exact ⟨rfl, Ext.refl _⟩ | exact rfl
         · intro vs; go_simp; rfl)
        (apply relW_fix
         · intro vs w' hw hf
           have hc := hS.out w' hw
           obtain ⟨B9, Q9, cb9, cq9, e1, hB, hQ⟩ := hf.out.1 (by kernel_rfl)
           unfold okAt
           go_simp
           refine ⟨Ext.refl _, ?_⟩
           go_at_call 29
           refine (possA_any B9 Q9 B cb9 cq9 cb D X true 0 w' HPX.out.1 HPX.out.2 hB hQ.ws (HN1.out.a.ext hw) Hsm.out Hcb.out (by have := Hsm.out.1; have := HXl.out; omega)).mono ?_; rintro e w5 ⟨rfl, hb⟩; exact ⟨_, rfl, rfl, hb⟩
         · intro vs; go_simp; rfl)
        (apply relW_fix
         · intro vs w' hw hf
           have hc := hS.out w' hw
           unfold okAt
           go_simp
           first | exact ⟨rfl, Ext.refl _⟩ | exact rfl
         · intro vs; go_simp; rfl)
        (apply relW_fix
         · intro vs w' hw hf
           have hc := hS.out w' hw
           unfold okAt
           go_simp
           first | exact ⟨rfl, Ext.refl _⟩ | exact rfl
         · intro vs; go_simp; rfl)
        (apply relW_fix
         · intro vs w' hw hf
           have hc := hS.out w' hw
           unfold okAt
           go_simp
           first | exact ⟨rfl, Ext.refl _⟩ | exact rfl
         · intro vs; go_simp; rfl)
        refine relW_nil fun vs w2 hw hf => ?_
        have hw0 : Ext w6 w2 := hw
        clear hS HD hf
        simp only [List.drop]
        have HD := Lib.hid (HD1.out.ext hw0)
        have Hq := Lib.hid (HE.out.trans hw0)
        clear HE
        have HE := Hq
        clear Hq
        clear hw HD1 HN1
        have Hq := Lib.hid (H1.out.ext hw0)
        clear H1
        have H1 := Hq
        clear Hq
        have Hq := Lib.hid (H2.out.ext hw0)
        clear H2
        have H2 := Hq
        clear Hq
        clear hw0
        go_upto_region 13 with fail
        obtain ⟨w7, hw7⟩ : ∃ w7, w7 = w2 := ⟨_, rfl⟩
        rw [← hw7] at HD H1 H2 HE ⊢
        clear hw7
        have HD1 := HD
        have HN1 := H2
        have hS := Lib.hid (fun w' (h : Ext w7 w') => (⟨h, (HD1.out.ext h).cells.1, (HD1.out.ext h).cells.2, (HN1.out.ext h).cells.1⟩ : Ext w7 w' ∧ w'.cell? ⟨w.heap.size, 0, none⟩ = some (.slice A D.bytes.length c) ∧ w'.cell? ⟨w.heap.size, 1, none⟩ = some (.slice P D.pend.length p) ∧ w'.cell? ⟨b7, 0, none⟩ = some (.slice B3 (Y).length cb3)))
        refine wp_region_rell 8 (by kernel_rfl) (by kernel_rfl) (fun _ _ _ _ _ h => h) (Ext.refl w7).drew ?_
        (apply relW_fix
         · intro vs w' hw hf
           have hc := hS.out w' hw
           unfold okAt
           go_simp
           first | exact ⟨rfl, Ext.refl _⟩ | exact rfl
         · intro vs; go_simp; rfl)
        (apply relW_any (SV.cd D)
         · intro vs w' hw hf
           have hc := hS.out w' hw
           skip
           unfold okAt
           go_simp
           refine ⟨Ext.refl _, ?_⟩; go_at_call 37; refine (own_dv2 A P c p D w' (HD1.out.a.ext hw) (HD1.out.p.ext hw) Hsm.out).mono ?_; rintro e w5 ⟨A', c', P', p', rfl, h1, h2, h3⟩; exact ⟨_, rfl, ⟨A', P', c', p', rfl, h2, h3⟩, h1⟩
         · intro vs; go_simp; rfl)
        (apply relW_fix
         · intro vs w' hw hf
           have hc := hS.out w' hw
           unfold okAt
           go_simp
           first | exact ⟨rfl, Ext.refl _⟩ | exact rfl
         · intro vs; go_simp; rfl)
        (apply relW_fix
         · intro vs w' hw hf
           have hc := hS.out w' hw
           unfold okAt
           go_simp
           first | exact ⟨rfl, Ext.refl _⟩ | exact rfl
         · intro vs; go_simp; rfl)
        (apply relW_fix
         · intro vs w' hw hf
           have hc := hS.out w' hw
           obtain ⟨B9, Q9, cb9, cq9, e1, hB, hQ⟩ := hf.out.1 (by kernel_rfl)
           unfold okAt
           go_simp
           refine ⟨Ext.refl _, ?_⟩
           go_at_call 29
           refine (possA_any B9 Q9 B3 cb9 cq9 cb3 D Y true 0 w' HPY.out.1 HPY.out.2 hB hQ.ws (HN1.out.a.ext hw) Hsm.out Hcb3.out (by have := Hsm.out.1; have := HYl.out; omega)).mono ?_; rintro e w5 ⟨rfl, hb⟩; exact ⟨_, rfl, rfl, hb⟩
         · intro vs; go_simp; rfl)
        (apply relW_fix
         · intro vs w' hw hf
           have hc := hS.out w' hw
           unfold okAt
           go_simp
           first | exact ⟨rfl, Ext.refl _⟩ | exact rfl
         · intro vs; go_simp; rfl)
        (apply relW_fix
         · intro vs w' hw hf
           have hc := hS.out w' hw
           unfold okAt
           go_simp
           first | exact ⟨rfl, Ext.refl _⟩ | exact rfl
         · intro vs; go_simp; rfl)
        (apply relW_fix
         · intro vs w' hw hf
           have hc := hS.out w' hw
           unfold okAt
           go_simp
           first | exact ⟨rfl, Ext.refl _⟩ | exact rfl
         · intro vs; go_simp; rfl)
        refine relW_nil fun vs w2 hw hf => ?_
        have hw0 : Ext w7 w2 := hw
        clear hS HD hf
        simp only [List.drop]
        have HD := Lib.hid (HD1.out.ext hw0)
        have Hq := Lib.hid (HE.out.trans hw0)
        clear HE
        have HE := Hq
        clear Hq
        clear hw HD1 HN1
        clear hw0 H1 H2
        have q6 : wrap64 o = o := by have := Ho.out; unfold wrap64; omega
        have q5 : ¬ ((D.bytes.length : Int) = 0) := by have := Hnb.out.1; omega
        obtain ⟨n, hn⟩ : ∃ n : Nat, o.tmod (D.bytes.length : Int) = n := ⟨(o % (D.bytes.length : Int)).toNat, by
          have h0 := Ho.out
          rw [Int.tmod_eq_emod_of_nonneg h0.1]
          have := Int.emod_nonneg o q5
          omega⟩
        have Hn : Hid (n < D.bytes.length) := by
          have h0 := Ho.out
          have h1 := Hnb.out.1
          rw [Int.tmod_eq_emod_of_nonneg h0.1] at hn
          have h2 := Int.emod_lt_of_pos o (show 0 < (D.bytes.length : Int) by omega)
          show _ < _
          omega
        have q8 : wrap64 (n : Int) = n := by have := Hn.out; have := Hsm.out.1; unfold wrap64; omega
        have hc := HD.out.cells
        have hmk := mkB
        go_upto_region 18 with fail
        clear q6 q5 hn q8 hmk hc
        obtain ⟨V8, hV8, hE8, hz8, ku⟩ := box1 w2 (Array.replicate 256 (.bool false)) 4
        rw [hV8]; clear hV8
        obtain ⟨gu, hgu⟩ : ∃ gu, gu = w2.heap.size := ⟨_, rfl⟩
        rw [← hgu] at ku ⊢
        have Hgu : Hid (w2.heap.size ≤ gu) := by show _ ≤ _; omega
        have hU := UB.new ku
        have HE8 := Lib.hid hE8
        have HD8 := Lib.hid (HD.out.ext hE8)
        obtain ⟨ab, ao, rfl, a1⟩ := HD8.out.a.at Hn.out
        obtain ⟨v, hv⟩ : ∃ v : Nat, v = (D.bytes[n]'Hn.out).toNat := ⟨_, rfl⟩
        have hv256 : v < 256 := by rw [hv]; exact UInt8.toNat_lt _
        have Hv : Hid ((D.bytes[n]?.getD 0).toNat = v) := by
          show _ = _
          rw [List.getElem?_eq_getElem Hn.out, hv]
          rfl
        rw [← hv] at a1
        have hv8 : (v : Int) < 256 := by omega
        have hn8 : (n : Int) < (D.bytes.length : Int) := by have := Hn.out; omega
        have hk0 := hU.cell (i := v) (by rw [List.length_replicate]; exact hv256)
        have hk1 := hU.frozen v
        have hc := HD8.out.cells
        have HU := Lib.hid hU
        clear hU ku hz8 hE8 hgu hv
        go_wp2_with fail
        clear hk0 hk1 hc a1
        have hU1 := HU.out.set v true
        obtain ⟨V9, hV9⟩ : ∃ V9, V8.setCell ⟨gu, v, none⟩ (.bool true) = V9 := ⟨_, rfl⟩
        have hB9 : Ext w2 V9 := by rw [← hV9]; exact Below.setCell HE8.out Hgu.out _
        rw [hV9] at hU1 ⊢
        have HU1 : Hid (UB V9 gu (usedU (usedS D n 0))) := by
          show UB _ _ _
          rw [usedS_zero, Hv.out]
          exact hU1
        have HB9 := Lib.hid hB9
        clear hV9 hU1 hB9 HU HE8 HD8 Hv hv256 hv8
        go_loopw [23] (fun vi wr => ∃ k : Nat, k ≤ D.pend.length ∧ vi = .int .i64 k ∧ Ext w2 wr ∧ Hid (UB wr gu (usedU (usedS D n k)))) (fun vi _ => D.pend.length - (intOf vi).toNat)
        case atStart => exact ⟨0, Nat.zero_le _, rfl, HB9.out, HU1⟩
        case round =>
          obtain ⟨k, hk, rfl, hEr, HUr⟩ := hrel
          have HDr := Lib.hid (HD.out.ext hEr)
          have HEr := Lib.hid hEr
          have hc := HDr.out.cells
          have hk9 : (k : Int) ≤ 64 := by have := Hl.out; omega
          clear hEr HB9 HU1
          by_cases hlt : k < D.pend.length
          · obtain ⟨pb, po, Bx, xd, rfl, p1, p2, p3, p4⟩ := HDr.out.p k D.pend[k] (List.getElem?_eq_getElem hlt)
            obtain ⟨m, hm, hmn, hml⟩ := okWr_iff (Hok.out D.pend[k] (List.getElem_mem hlt))
            have hk8 : (k : Int) < (D.pend.length : Int) := by omega
            have Hm := Lib.hid hm
            have Hml := Lib.hid hml
            have Hp4 := Lib.hid p4
            clear hm hml hmn p4
            have i32 : Hid (n % 32 < D.pend[k].bs.length) := by have := Hml.out; show _ < _; omega
            obtain ⟨xb, xo, rfl, x1⟩ := Hp4.out.at i32.out
            go_upto_region 23 with fail
            obtain ⟨V3, hV3, hE3, hz3, kx⟩ := box1 wr #[.int .i64 D.pend[k].blk, .slice (some ⟨xb, xo, none⟩) D.pend[k].bs.length xd] 49
            rw [hV3]; clear hV3
            have tl : ((D.pend[k].bs.length : Int) == 32) = true := by rw [Hml.out]; rfl
            have q5 : (0 : Int) ≤ (n : Int) % 32 := by omega
            have q6 : (n : Int) % 32 < (D.pend[k].bs.length : Int) := by have := Hml.out; omega
            have q7 : ((n : Int) % 32).toNat = n % 32 := by omega
            have q1 : (n : Int).tdiv 32 = (n : Int) / 32 := Int.tdiv_eq_ediv_of_nonneg (by omega)
            have q2 : (n : Int).tmod 32 = (n : Int) % 32 := Int.tmod_eq_emod_of_nonneg (by omega)
            have q3 : wrap64 ((n : Int) / 32) = (n : Int) / 32 := by have := Hn.out; have := Hsm.out.1; unfold wrap64; omega
            have q4 : wrap64 ((n : Int) % 32) = (n : Int) % 32 := by unfold wrap64; omega
            have d0 := kx.cell 0
            have d1 := kx.cell 1
            simp at d0 d1
            have x2 := cellExt hE3 x1
            have HU3 := Lib.hid (HUr.out.ext hE3)
            have HE3 : Hid (Ext w2 V3) := HEr.out.trans hE3
            obtain ⟨v', hv'⟩ : ∃ v' : Nat, v' = (D.pend[k].bs[n % 32]'i32.out).toNat := ⟨_, rfl⟩
            have hv256 : v' < 256 := by rw [hv']; exact UInt8.toNat_lt _
            have Hv : Hid ((D.pend[k].bs[n % 32]?.getD 0).toNat = v') := by
              show _ = _
              rw [List.getElem?_eq_getElem i32.out, hv']
              rfl
            rw [← hv'] at x2
            have hv8 : (v' : Int) < 256 := by omega
            have hk0 := HU3.out.cell (i := v') (by rw [usedU_len]; exact hv256)
            have hk1 := HU3.out.frozen v'
            clear hE3 hz3 kx x1 hc p1 p2 p3 hv' hv256
            by_cases hblk : m = n / 32
            · have tb : (D.pend[k].blk == (n : Int) / 32) = true := by rw [Hm.out, hblk]; simp
              have hst : D.pend[k].blk = ((n / 32 : Nat) : Int) := by rw [Hm.out, hblk]
              have Hst := Lib.hid hst
              clear hblk hst
              go_wp2_with fail
              have hU1 := HU3.out.set v' true
              obtain ⟨V9, hV9⟩ : ∃ V9, V3.setCell ⟨gu, v', none⟩ (.bool true) = V9 := ⟨_, rfl⟩
              have hB9 : Ext w2 V9 := by rw [← hV9]; exact Below.setCell HE3.out Hgu.out _
              rw [hV9] at hU1
              have HU1 : Hid (UB V9 gu (usedU (usedS D n (k + 1)))) := by
                show UB _ _ _
                rw [usedS_hit hlt Hst.out, Hv.out, usedU_snoc]
                exact hU1
              rw [hV9]
              go_roundw
              case rel => exact ⟨k + 1, by omega, by go_num, hB9, HU1⟩
              case measure => simp [intOf]; omega
            · have tb : (D.pend[k].blk == (n : Int) / 32) = false := by rw [Hm.out, beq_eq_false_iff_ne]; omega
              have hst : ¬ D.pend[k].blk = ((n / 32 : Nat) : Int) := by rw [Hm.out]; omega
              have HU1 : Hid (UB V3 gu (usedU (usedS D n (k + 1)))) := by
                show UB _ _ _
                rw [usedS_not hlt hst]
                exact HU3.out
              clear hblk hst
              go_wp2_with fail
              go_roundw
              case rel => exact ⟨k + 1, by omega, by go_num, HE3.out, HU1⟩
              case measure => simp [intOf]; omega
          · obtain rfl : k = D.pend.length := by omega
            obtain ⟨us, hus⟩ : ∃ us, usedU (usedS D n D.pend.length) = us := ⟨_, rfl⟩
            have Hul : Hid (us.length = 256) := by show _ = _; rw [← hus, usedU_len]
            have Hoe : Hid (pPossE D (oddB us n D.bytes 256) = 0) := (possE_len (oddB_len us n D.bytes 256)).trans Hp0.out
            have Hor : Hid (pPossR D (oddB us n D.bytes 256) = false) := by
              show _ = _
              rw [← hus]
              exact oddD_not Hck.out Hn.out
            rw [hus] at HUr
            clear hus
            have Hne : Hid (D.bytes ≠ []) := fun h => by
              have := Hn.out
              rw [h] at this
              simp at this
            have hca := fun ob => (HDr.out.ext ((Ext.refl wr).alloc ob)).cells.1
            go_wp2_with (at_builtin; refine wpList_app0 rfl _ _ rfl _ c _ _ D.bytes rfl rfl rfl (HDr.out.a.ext ((Ext.refl _).alloc _)) (by have := Hsm.out.1; omega) ?_; intro A3 c3 w3 h1 h2 h3 h4 h5)
            obtain ⟨go, rfl, hO, hgo⟩ := h5 Hne.out
            have hE3 : Ext wr w3 := ((Ext.refl wr).alloc _).trans h1
            have Hgo : Hid (wr.heap.size ≤ go) := by simp at hgo; show _ ≤ _; omega
            have HO : Hid (OB w3 go c3 (oddB us n D.bytes 0)) := hO
            have HE3 := Lib.hid hE3
            have Hc3 := Lib.hid h2
            have HEw := Lib.hid (HE.out.trans HEr.out)
            clear h1 h2 h3 h4 h5 hO hgo hE3 hca hc HD HE HEr hlt hk hk9
            obtain ⟨wo, hwo⟩ : ∃ wo, wo = wr := ⟨_, rfl⟩
            subst hwo
            go_loopw [26] (fun vi wx => ∃ k : Nat, k ≤ 256 ∧ vi = .int .i64 k ∧ Ext wo wx ∧ Hid (OB wx go c3 (oddB us n D.bytes k))) (fun vi _ => 256 - (intOf vi).toNat)
            case atStart => exact ⟨0, Nat.zero_le _, rfl, HE3.out, HO⟩
            case round =>
              clear HO HE3
              obtain ⟨k, hk, rfl, hEx, HOx⟩ := hrel
              have HEx := Lib.hid hEx
              have HUx := Lib.hid (HUr.out.ext hEx)
              clear hEx
              by_cases hlt : k < 256
              · have hk8 : (k : Int) < 256 := by omega
                have hk0 := HUx.out.cell (i := k) (by rw [Hul.out]; exact hlt)
                by_cases hu : us[k]?.getD false = true
                · rw [hu] at hk0
                  have HO2 : Hid (OB wr go c3 (oddB us n D.bytes (k + 1))) := by
                    show OB _ _ _ _
                    unfold oddB
                    rw [if_pos hu]
                    exact HOx.out
                  clear hu
                  go_wp2_with fail
                  go_roundw
                  case rel => exact ⟨k + 1, by omega, by go_num, HEx.out, HO2⟩
                  case measure => simp [intOf]; omega
                · rw [show us[k]?.getD false = false by simpa using hu] at hk0
                  have hol : n < (oddB us n D.bytes k).length := by rw [oddB_len]; exact Hn.out
                  have hs := HOx.out.set hol (UInt8.ofNat k)
                  have hto : (UInt8.ofNat k).toNat = k := by simp [UInt8.toNat_ofNat']; omega
                  obtain ⟨ob, ho1⟩ : ∃ ob : Value, wr.cell? ⟨go, n, none⟩ = some ob := ⟨_, HOx.out.cell hol⟩
                  have ho2 := HOx.out.frozen n
                  rw [hto] at hs
                  have HO2 : Hid (OB (wr.setCell ⟨go, n, none⟩ (.int .u8 (k : Int))) go c3 (oddB us n D.bytes (k + 1))) := by
                    show OB _ _ _ _
                    have e : oddB us n D.bytes (k + 1) = (oddB us n D.bytes k).set n (UInt8.ofNat k) := if_neg hu
                    rw [e]
                    exact hs
                  have HB2 : Hid (Ext wo (wr.setCell ⟨go, n, none⟩ (.int .u8 (k : Int)))) := Below.setCell HEx.out Hgo.out _
                  clear hu hs hol hto
                  go_wp2_with fail
                  go_roundw
                  case rel => exact ⟨k + 1, by omega, by go_num, HB2.out, HO2⟩
                  case measure => simp [intOf]; omega
              · obtain rfl : k = 256 := by omega
                have HD := Lib.hid (HDr.out.ext HEx.out)
                have HE := Lib.hid (HEw.out.trans HEx.out)
                have hc := HD.out.cells
                clear HEx HEw HDr HUx HUr
                go_wp2_with fail
                refine (own_dv2 _ P c p D wr HD.out.a HD.out.p Hsm.out).mono ?_
                rintro e w9 ⟨B9, cb9, Q9, cq9, rfl, hE9, hB9, hQ9⟩
                clear hc
                have HO9 := Lib.hid (HOx.out.ext hE9)
                have Hq := Lib.hid (HE.out.trans hE9)
                clear HE
                have HE := Hq
                clear Hq
                clear hE9 HD
                have hpo := possA_any B9 Q9 (some ⟨go, 0, none⟩) cb9 cq9 c3 D (oddB us n D.bytes 256) false 0 w9 Hoe.out Hor.out hB9 hQ9.ws HO9.out.by Hsm.out (by rw [oddB_len]; exact Hc3.out) (by rw [oddB_len]; have := Hsm.out.1; omega)
                rw [oddB_len] at hpo
                have Hpo := Lib.hid hpo
                clear hpo hB9 hQ9
                go_wp2_with fail
                refine Hpo.out.mono ?_
                rintro e w10 ⟨rfl, hE10⟩
                have Hq := Lib.hid (HE.out.trans hE10)
                clear HE
                have HE := Hq
                clear Hq
                clear hE10
                go_wp2_with fail
                refine (awake_any _).mono ?_
                rintro e w4 ⟨rfl, hE6⟩
                have HE' := Lib.hid (HE.out.trans hE6)
                clear hE6
                go_wp2_with fail
                go_ret
                exact ⟨rfl, HE'.out⟩
      · obtain rfl : er = 5 := by rw [← Hpo.out.2, h5]
        clear h5
        go_wp2_with fail
        refine (awake_any _).mono ?_
        rintro e w4 ⟨rfl, hE6⟩
        have HE' := Lib.hid (HE.out.trans hE6)
        clear hE6
        go_wp2_with fail
        go_ret
        exact ⟨rfl, HE'.out⟩
    · rw [show pThinF F = false by simpa using ht]
      clear ht
      go_wp2_with fail
      refine (awake_any _).mono ?_
      rintro e w4 ⟨rfl, hE6⟩
      have HE' := Lib.hid (HE.out.trans hE6)
      clear hE6
      go_wp2_with fail
      go_ret
      exact ⟨rfl, HE'.out⟩
  · rw [show pRight D = false by simpa using ht]
    clear ht
    go_wp2_with fail
    refine (awake_any _).mono ?_
    rintro e w4 ⟨rfl, hE6⟩
    have HE' := Lib.hid (HE.out.trans hE6)
    clear hE6
    go_wp2_with fail
    go_ret
    exact ⟨rfl, HE'.out⟩
end Go.Proofs.Ytdlalmbnkcadfaa
