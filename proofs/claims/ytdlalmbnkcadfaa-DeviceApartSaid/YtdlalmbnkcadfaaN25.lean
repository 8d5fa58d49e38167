/- reference: Run. -/
import Derived.Test.YtdlalmbnkcadfaaN24
namespace Go.Proofs.Ytdlalmbnkcadfaa
open Go.RowKit

theorem By.offS {w V : World} {b n m c d : Nat} {X Y : Option Addr} {t : TypeId} {A : Option Addr} {bs : BL} (h : By w A bs) (hk : Bk w b #[.slice X n c, .slice Y m d] t) (hV : ∀ k, k ≠ b → V.heap[k]? = w.heap[k]?) : By V A bs := fun j v hj => by
  obtain ⟨ab, ao, rfl, hc⟩ := h j v hj
  have hv : ∃ z, v = .int .u8 z := by
    obtain ⟨x, _, rfl⟩ := List.mem_map.1 (List.mem_of_getElem? hj)
    exact ⟨_, rfl⟩
  obtain ⟨z, rfl⟩ := hv
  have h1 : ab ≠ b := fun e => by
    subst e
    rw [hk.cell] at hc
    match ao + j, hc with
    | 0, hc => simp at hc
    | 1, hc => simp at hc
    | n + 2, hc => simp at hc
  exact ⟨ab, ao, rfl, (World.cell?_of_block (hV ab h1)).trans hc⟩
theorem Ws.offS {w V : World} {b n m c d : Nat} {X Y : Option Addr} {t : TypeId} {A : Option Addr} {ws : List Wr} (h : Ws w A ws) (hk : Bk w b #[.slice X n c, .slice Y m d] t) (hV : ∀ k, k ≠ b → V.heap[k]? = w.heap[k]?) : Ws V A ws := fun j x hj => by
  obtain ⟨ab, o, B, c', rfl, g1, g2, g3, g4⟩ := h j x hj
  have h1 : ab ≠ b := fun e => by
    subst e
    rw [hk.cell] at g1
    match o + j * 2, g1 with
    | 0, g1 => simp at g1
    | 1, g1 => simp at g1
    | n + 2, g1 => simp at g1
  exact ⟨ab, o, B, c', rfl, (World.cell?_of_block (hV ab h1)).trans g1, (World.cell?_of_block (hV ab h1)).trans g2, g3, g4.offS hk hV⟩
theorem rFitW_any (A P : Option Addr) (c d n : Nat) (F : Ft) (w : World) (hA : Is w A F.order) (hP : Is w P F.part) (hn : n ≤ 64) :
    Calls Try.prog 23 #[.agg #[.slice A F.order.length c, .slice P F.part.length d], .int .i64 (n : Int)] w fun e w' =>
      ∃ A' c' P' d', e = .returned (.tuple #[.agg #[.slice A' n c', .slice P' n d'], .int .i64 0]) ∧ Ext w w' ∧ Is w' A' (fitFt F n).order ∧ Is w' P' (fitFt F n).part := by
  refine (rFit_any A P c d n F w hA hP).mono ?_
  rintro e w' ⟨A3, c3, P3, d3, rfl, hE4, hA3, hP3⟩
  obtain ⟨h1, h2⟩ := fitFt_len F n hn
  have e1 : (pFo F (n : Int)).length = n := by have h := h1; simp only [fitFt, List.length_map] at h; exact h
  have e2 : (pFp F (n : Int)).length = n := by have h := h2; simp only [fitFt, List.length_map] at h; exact h
  rw [e1, e2, show pFit (n : Int) = 0 from if_pos (by omega)]
  exact ⟨A3, c3, P3, d3, rfl, hE4, hA3, hP3⟩
/-- Where the call stands at the k-th operation. -/
structure RnI (w wr : World) (A' P' FA FQ : Option Addr) (c' p' fc fd : Nat) (F : Ft) (G : Dk) : Prop where
  e : Ext w wr
  d : Bk wr w.heap.size #[.slice A' G.bytes.length c', .slice P' G.pend.length p'] 25
  a : By wr A' G.bytes
  p : Ws wr P' G.pend
  x : Bk wr (w.heap.size + 1) #[.slice FA F.order.length fc, .slice FQ F.part.length fd] 34
  r : Bk wr (w.heap.size + 1 + 1) #[.slice none 0 0, .slice none 0 0] 25
theorem RnI.ext {w wr w' : World} {A' P' FA FQ : Option Addr} {c' p' fc fd : Nat} {F : Ft} {G : Dk} (h : RnI w wr A' P' FA FQ c' p' fc fd F G) (e : Ext wr w') : RnI w w' A' P' FA FQ c' p' fc fd F G :=
  ⟨h.e.trans e, h.d.ext e, h.a.ext e, h.p.ext e, h.x.ext e, h.r.ext e⟩
/-- The box gets another device. -/
theorem RnI.put {w wr : World} {A' P' FA FQ A2 P2 : Option Addr} {c' p' fc fd c2 p2 : Nat} {F : Ft} {G E : Dk} (h : RnI w wr A' P' FA FQ c' p' fc fd F G) (hA : By wr A2 E.bytes) (hP : Ws wr P2 E.pend) :
    ∃ V, (wr.setCell ⟨w.heap.size, 0, none⟩ (.slice A2 E.bytes.length c2)).setCell ⟨w.heap.size, 1, none⟩ (.slice P2 E.pend.length p2) = V ∧ RnI w V A2 P2 FA FQ c2 p2 fc fd F E := by
  obtain ⟨V, hV, hVb, kb, hoff⟩ := one_box (B := w.heap.size) h.d (Nat.le_refl _) (.slice A2 E.bytes.length c2) (.slice P2 E.pend.length p2)
  exact ⟨V, hV, Below.trans h.e hVb, kb, hA.offS h.d hoff, hP.offS h.d hoff, (hoff _ (by omega)).trans h.x, (hoff _ (by omega)).trans h.r⟩
def SV.rv (E : Dk) (er : Int) : SV := ⟨fun v w => ∃ A P c p, v = .tuple #[.agg #[.slice A E.bytes.length c, .slice P E.pend.length p], .int .i64 er] ∧ By w A E.bytes ∧ Ws w P E.pend, fun ⟨A, P, c, p, h1, h2, h3⟩ e => ⟨A, P, c, p, h1, h2.ext e, h3.ext e⟩⟩
def SV.r1 (E : Dk) : SV := ⟨fun v w => ∃ A P c p, v = .agg #[.slice A E.bytes.length c, .slice P E.pend.length p] ∧ By w A E.bytes ∧ Ws w P E.pend, fun ⟨A, P, c, p, h1, h2, h3⟩ e => ⟨A, P, c, p, h1, h2.ext e, h3.ext e⟩⟩
/-- What the reference's run hands back. -/
def RetR2 (w : World) (R : Dk × Nat × Int) (e : Ending) (w' : World) : Prop := ∃ A c P p, e = .returned (.tuple #[.agg #[.slice A R.1.bytes.length c, .slice P R.1.pend.length p], .int .i64 (R.2.1 : Int), .int .i64 R.2.2]) ∧ Ext w w' ∧ By w' A R.1.bytes ∧ Ws w' P R.1.pend
set_option maxRecDepth 100000 in
set_option maxHeartbeats 8000000 in
theorem rRun_any (A P L FA FQ : Option Addr) (c p lc fc fd : Nat) (D : Dk) (os : List Op) (fuse : Int) (F : Ft) (w : World) (hA : By w A D.bytes) (hP : Ws w P D.pend) (hL : Os w L os) (hFA : Is w FA F.order) (hFQ : Is w FQ F.part) (hsm : Small D) (hos : os.length ≤ 1000) (hxs : ∀ x ∈ os, x.2.bs.length ≤ 100000) :
    Calls Try.prog 46 #[.agg #[.slice A D.bytes.length c, .slice P D.pend.length p], .slice L os.length lc, .int .i64 fuse, .agg #[.slice FA F.order.length fc, .slice FQ F.part.length fd]] w (RetR2 w (pRun D os fuse F)) := by
  obtain ⟨W, hW, hE, hz, k0, kx, k1⟩ := box3 w #[.slice A D.bytes.length c, .slice P D.pend.length p] #[.slice FA F.order.length fc, .slice FQ F.part.length fd] #[.slice none 0 0, .slice none 0 0] 25 34 25
  have HI : Hid (RnI w W A P FA FQ c p fc fd F D) := ⟨hE, k0, hA.ext hE, hP.ext hE, kx, k1⟩
  have HL0 := Lib.hid hL
  have HFA0 := Lib.hid hFA
  have HFQ0 := Lib.hid hFQ
  have Hsm := Lib.hid hsm
  have Hxs := Lib.hid hxs
  have d0 := k0.cell 0
  have d1 := k0.cell 1
  simp at d0 d1
  clear hE hz k0 k1 kx hA hP hL hFA hFQ hxs hsm
  go_enter Try.func46, Try.ntmps46
  go_wp2_with fail
  refine (rCheck_any A P c p D W HI.out.p Hsm.out).mono ?_
  rintro e w1 ⟨rfl, hE1⟩
  clear hW d0 d1
  have Hq := Lib.hid (HI.out.ext hE1)
  clear HI
  have HI := Hq
  clear Hq
  clear hE1
  by_cases h1 : pCheck D = 0
  · have hrun : Hid (pRun D os fuse F = goR F fuse os 0 D) := by show _ = _; unfold pRun; rw [if_pos h1]
    have Hck := Lib.hid h1
    rw [h1]
    clear h1
    have d0 := HI.out.d.cell 0
    have d1 := HI.out.d.cell 1
    simp at d0 d1
    go_wp2_with fail
    refine (copy_dv2 A P c p D w1 HI.out.a HI.out.p Hsm.out).mono ?_
    rintro e w2 ⟨A', c', P', p', rfl, hE2, hA2, hP2⟩
    clear d0 d1
    have Hq := Lib.hid (HI.out.ext hE2)
    clear HI
    have HI := Hq
    clear Hq
    clear hE2
    obtain ⟨V2, hV2, HI2⟩ := HI.out.put (c2 := c') (p2 := p') hA2 hP2.ws
    have HJ := Lib.hid HI2
    have d0 := HI.out.d.cell 0
    have d1 := HI.out.d.cell 1
    have d2 := HI.out.d.frozen 0
    have d3 := HI.out.d.frozen 1
    simp at d0 d1
    clear HI hA2 hP2 HI2
    go_wp2_with fail
    try (rw [hV2]; clear hV2)
    clear d0 d1 d2 d3
    go_loopw [12] (fun vi wr => ∃ (k : Nat) (G : Dk) (A' P' : Option Addr) (c' p' : Nat), k ≤ os.length ∧ vi = .int .i64 k ∧ Hid (RnI w wr A' P' FA FQ c' p' fc fd F G) ∧ Hid (pCheck G = 0) ∧ Hid (goR F fuse os 0 D = goR F fuse (os.drop k) k G)) (fun vi _ => os.length - (intOf vi).toNat)
    case atStart => exact ⟨0, D, A', P', c', p', Nat.zero_le _, rfl, HJ, Hck, rfl⟩
    case round =>
      clear HJ
      obtain ⟨k, G, A', P', c', p', hk, rfl, HI, Hcg, Hgo⟩ := hrel
      obtain ⟨hsg, hpg⟩ := check_small Hcg.out
      have Hsg := Lib.hid hsg
      have Hpg := Lib.hid hpg
      have hk9 : (k : Int) ≤ 1000 := by omega
      clear hsg hpg
      by_cases hlt : k < os.length
      · have hd : os.drop k = os[k] :: os.drop (k + 1) := List.drop_eq_getElem_cons hlt
        have Hd := Lib.hid hd
        have hlt' : (k : Int) < (os.length : Int) := by omega
        clear hd
        by_cases hf : (k : Int) = fuse
        · have tf : ((k : Int) == fuse) = true := by simpa using hf
          have hgo : Hid (pRun D os fuse F = (⟨pCr G.bytes G.pend (fitFt F G.pend.length), []⟩, k, 0)) := by
            show _ = _
            rw [hrun.out, Hgo.out, Hd.out, goR_fuse hf]
          clear hf
          have d0 := HI.out.d.cell 0
          have d1 := HI.out.d.cell 1
          have y0 := HI.out.x.cell 0
          have y1 := HI.out.x.cell 1
          simp at d0 d1 y0 y1
          go_wp2_with fail
          refine (rFitW_any FA FQ fc fd G.pend.length F wr (HFA0.out.ext HI.out.e) (HFQ0.out.ext HI.out.e) Hpg.out).mono ?_
          rintro e w3 ⟨A3, c3, P3, d3, rfl, hE3, hA3, hP3⟩
          clear d0 d1 y0 y1
          have Hq := Lib.hid (HI.out.ext hE3)
          clear HI
          have HI := Hq
          clear Hq
          obtain ⟨V3, hV3, hE4, hz4, k3⟩ := box1 w3 #[.slice A3 G.pend.length c3, .slice P3 G.pend.length d3] 34
          have Hq := Lib.hid (HI.out.ext hE4)
          clear HI
          have HI := Hq
          clear Hq
          have HA3 := Lib.hid (hA3.ext hE4)
          have HP3 := Lib.hid (hP3.ext hE4)
          have d0 := HI.out.d.cell 0
          have d1 := HI.out.d.cell 1
          have z0 := k3.cell 0
          have z1 := k3.cell 1
          simp at d0 d1 z0 z1
          have hcr := rCrashed_any A' P' A3 P3 c' p' c3 d3 G (fitFt F G.pend.length) V3 HI.out.a HI.out.p HA3.out HP3.out Hsg.out (fun e => by have := (pCheck_ok Hcg.out).2.1; rw [e] at this; simp at this) (pCheck_ok Hcg.out).2.2.2.2 (fitFt_len F _ Hpg.out).2 (fitFt_part F _) (fun i hi => by
            obtain ⟨j, hj, rfl⟩ := List.mem_map.1 ((pIsFate_ok (fitFt_is F _ Hpg.out)).2.2.mem_iff.1 hi)
            have := List.mem_range.1 hj
            omega) (by rw [(fitFt_len F _ Hpg.out).1]; have := Hpg.out; omega)
          rw [(fitFt_len F _ Hpg.out).1, (fitFt_len F _ Hpg.out).2] at hcr
          have Hcr := Lib.hid hcr
          clear hE3 hE4 hz4 k3 hA3 hP3 hcr
          go_wp2_with fail
          clear hV3
          refine Hcr.out.mono ?_
          rintro e w5 ⟨g, cg, rfl, hO5, hE5, _, hcg⟩
          have Hq := Lib.hid (HI.out.ext hE5)
          clear HI
          have HI := Hq
          clear Hq
          have hcl : Hid ((pCr G.bytes G.pend (fitFt F G.pend.length)).length = G.bytes.length) := pCr_len (G.bytes.length / 32) G.pend _ (pCheck_ok Hcg.out).2.2.2.2 (fitFt_part F _) _ _ (by omega)
          have HO5 := Lib.hid hO5
          clear hE5 hO5 Hcr d0 d1 z0 z1
          have r0 := HI.out.r.cell 0
          have r1 := HI.out.r.cell 1
          have f0 := HI.out.r.frozen 0
          have f1 := HI.out.r.frozen 1
          simp at r0 r1
          go_wp2
          obtain ⟨V, hV, hVb, kb, hoff⟩ := one_box (B := w.heap.size) HI.out.r (by omega) (.slice (some ⟨g, 0, none⟩) G.bytes.length cg) (.slice none 0 0)
          rw [hV]; clear hV
          have q0 := kb.cell 0
          have q1 := kb.cell 1
          simp at q0 q1
          refine bodyPost_ret (v := .tuple #[.agg #[.slice (some ⟨g, 0, none⟩) G.bytes.length cg, .slice none 0 0], .int .i64 (k : Int), .int .i64 0]) (by simp [results, Try.results46, go_sem, q0, q1]) rfl ⟨some ⟨g, 0, none⟩, cg, none, 0, by rw [hgo.out, hcl.out]; rfl, Below.trans HI.out.e hVb, by rw [hgo.out]; exact HO5.out.by.offS HI.out.r hoff, by rw [hgo.out]; exact Ws.nil _ _⟩
        · have tf : ((k : Int) == fuse) = false := by simpa using hf
          have Hf := Lib.hid hf
          clear hf
          obtain ⟨lb, lo, Bx, xd, rfl, p1, p2, p3, p4, p5⟩ := (HL0.out.ext HI.out.e) k os[k] (List.getElem?_eq_getElem hlt)
          have Hp5 := Lib.hid p5
          have hS := Lib.hid (fun w' (h : Ext wr w') => (⟨h, (HI.out.d.ext h).cell 0, (HI.out.d.ext h).cell 1, cellExt h p1, cellExt h p2, cellExt h p3⟩ : Ext wr w' ∧ w'.cell? ⟨w.heap.size, 0, none⟩ = some (.slice A' G.bytes.length c') ∧ w'.cell? ⟨w.heap.size, 1, none⟩ = some (.slice P' G.pend.length p') ∧ w'.cell? ⟨lb, lo + k * 3, none⟩ = some (.int .u8 os[k].1) ∧ w'.cell? ⟨lb, lo + k * 3 + 1, none⟩ = some (.int .i64 os[k].2.blk) ∧ w'.cell? ⟨lb, lo + k * 3 + 2, none⟩ = some (.slice Bx os[k].2.bs.length xd)))
          obtain ⟨E, hE⟩ : ∃ E, resD (pDo G os[k].1 os[k].2) (pDoD G os[k].1 os[k].2) = E := ⟨_, rfl⟩
          have HEq := Lib.hid hE
          have hper : pDo G os[k].1 os[k].2 = pDoE G os[k].1 os[k].2 := by unfold pDo; rw [if_pos Hcg.out]
          have Hper := Lib.hid hper
          clear p1 p2 p3 p4 p5 hE hper
          go_wp2_with fail
          refine wp_region_rell 10 (by kernel_rfl) (by kernel_rfl) (fun _ _ _ _ _ h => h) (Ext.refl wr).drew ?_
          (apply relW_fix
           · intro vs w' hw hf
             have hc := hS.out w' hw
             unfold okAt
             go_simp
             first | exact ⟨rfl, Ext.refl _⟩ | exact rfl
           · intro vs; go_simp; rfl)
          (apply relW_fix
           · intro vs w' hw hf
             have hc := hS.out w' hw
             unfold okAt
             go_simp
             first | exact ⟨rfl, Ext.refl _⟩ | exact rfl
           · intro vs; go_simp; rfl)
          (apply relW_fix
           · intro vs w' hw hf
             have hc := hS.out w' hw
             unfold okAt
             go_simp
             first | exact ⟨rfl, Ext.refl _⟩ | exact rfl
           · intro vs; go_simp; rfl)
          (apply relW_fix
           · intro vs w' hw hf
             have hc := hS.out w' hw
             unfold okAt
             go_simp
             first | exact ⟨rfl, Ext.refl _⟩ | exact rfl
           · intro vs; go_simp; rfl)
          (apply relW_fix
           · intro vs w' hw hf
             have hc := hS.out w' hw
             unfold okAt
             go_simp
             first | exact ⟨rfl, Ext.refl _⟩ | exact rfl
           · intro vs; go_simp; rfl)
          (apply relW_any (SV.rv E (pDoE G os[k].1 os[k].2))
           · intro vs w' hw hf
             have hc := hS.out w' hw
             skip
             unfold okAt
             go_simp
             refine ⟨Ext.refl _, ?_⟩; go_at_call 48; refine (rDo_any A' P' Bx c' p' xd G os[k].1 os[k].2 w' (HI.out.a.ext hw) (HI.out.p.ext hw) (Hp5.out.ext hw) Hsg.out (Hxs.out os[k] (List.getElem_mem hlt))).mono ?_; rintro e w5 ⟨v, rfl, h1, h2⟩; rw [HEq.out] at h2; rw [Hper.out]; obtain ⟨A7, c7, P7, p7, rfl, _, hA7, _, hP7⟩ := h2; exact ⟨_, rfl, ⟨A7, P7, c7, p7, rfl, hA7, hP7⟩, h1⟩
           · intro vs; go_simp; rfl)
          (apply relW_any (SV.rv E (pDoE G os[k].1 os[k].2))
           · intro vs w' hw hf
             have hc := hS.out w' hw
             obtain ⟨A7, P7, c7, p7, e6, h2, h3⟩ := hf.out.1 (by kernel_rfl)
             unfold okAt
             go_simp
             exact ⟨⟨A7, P7, c7, p7, rfl, h2, h3⟩, Ext.refl _⟩
           · intro vs; go_simp; rfl)
          (apply relW_any (SV.r1 E)
           · intro vs w' hw hf
             have hc := hS.out w' hw
             obtain ⟨A7, P7, c7, p7, e6, h2, h3⟩ := hf.out.1 (by kernel_rfl)
             unfold okAt
             go_simp
             exact ⟨⟨A7, P7, c7, p7, rfl, h2, h3⟩, Ext.refl _⟩
           · intro vs; go_simp; rfl)
          (apply relW_any (SV.eq (.int .i64 (pDoE G os[k].1 os[k].2)))
           · intro vs w' hw hf
             have hc := hS.out w' hw
             obtain ⟨A7, P7, c7, p7, e6, h2, h3⟩ := hf.out.2.1 (by kernel_rfl)
             unfold okAt
             go_simp
             exact ⟨rfl, Ext.refl _⟩
           · intro vs; go_simp; rfl)
          (apply relW_any (SV.al wr.heap.size #[.slice none 0 0, .slice none 0 0] 25)
           · intro vs w' hw hf
             have hc := hS.out w' hw
             skip
             unfold okAt
             go_simp
             exact ⟨⟨_, rfl, Bk.new _ _ _, hw.size⟩, (Ext.refl _).alloc _⟩
           · intro vs; go_simp; rfl)
          refine relW_nil fun vs w2 hw hf => ?_
          obtain ⟨⟨b6, e6, kb6, hb6⟩, e8, ⟨A7, P7, c7, p7, e7, hA7, hP7⟩, -⟩ := hf
          have e8 : vs 8 = .int .i64 (pDoE G os[k].1 os[k].2) := e8
          have g2 := kb6.cell 0
          have g3 := kb6.cell 1
          have g6 := kb6.frozen 0
          have g7 := kb6.frozen 1
          simp at g2 g3
          clear hS
          simp only [List.drop]
          go_upto_region 12 with fail
          obtain ⟨V, hV, hVb, kb, hoff⟩ := one_box (B := wr.heap.size) kb6 hb6 (.slice A7 E.bytes.length c7) (.slice P7 E.pend.length p7)
          rw [hV]; clear hV
          have hEV : Ext wr V := Below.trans hw hVb
          have HA7 := Lib.hid (hA7.offS kb6 hoff)
          have HP7 := Lib.hid (hP7.offS kb6 hoff)
          have Kb := Lib.hid kb
          have Hq := Lib.hid (HI.out.ext hEV)
          clear HI
          have HI := Hq
          clear Hq
          clear hVb hoff hEV hA7 hP7 kb6 hb6 hw g2 g3 g6 g7 e7 kb
          by_cases hE0 : pDoE G os[k].1 os[k].2 = 0
          · have hgo : Hid (goR F fuse os 0 D = goR F fuse (os.drop (k + 1)) (k + 1) (pDoD G os[k].1 os[k].2)) := by
              show _ = _
              rw [Hgo.out, Hd.out, goR_go Hf.out hE0]
            have hck : Hid (pCheck (pDoD G os[k].1 os[k].2) = 0) := do_check Hcg.out _ _
            have hEd : E = pDoD G os[k].1 os[k].2 := by
              rw [← HEq.out, Hper.out, hE0]; rfl
            rw [hE0] at e8
            rw [← hEd] at hgo hck
            clear hE0 hEd
            obtain ⟨V5, hV5, HI5⟩ := HI.out.put (c2 := c7) (p2 := p7) HA7.out HP7.out
            have HJ := Lib.hid HI5
            have d0 := HI.out.d.cell 0
            have d1 := HI.out.d.cell 1
            have d2 := HI.out.d.frozen 0
            have d3 := HI.out.d.frozen 1
            have x0 := Kb.out.cell 0
            have x1 := Kb.out.cell 1
            simp at d0 d1 x0 x1
            clear HI5
            go_wp2
            try (rw [hV5])
            clear hV5 d0 d1 d2 d3 x0 x1
            go_roundw
            case rel => exact ⟨k + 1, E, A7, P7, c7, p7, by omega, by go_num, HJ, hck, hgo⟩
            case measure => simp [intOf]; omega
          · have hgo : Hid (pRun D os fuse F = (G, k, pDoE G os[k].1 os[k].2)) := by
              show _ = _
              rw [hrun.out, Hgo.out, Hd.out, goR_bad Hf.out hE0]
            have te : (pDoE G os[k].1 os[k].2 != 0) = true := by simpa using hE0
            clear hE0
            have x0 := HI.out.d.cell 0
            have x1 := HI.out.d.cell 1
            have r0 := HI.out.r.cell 0
            have r1 := HI.out.r.cell 1
            have f0 := HI.out.r.frozen 0
            have f1 := HI.out.r.frozen 1
            simp at x0 x1 r0 r1
            go_wp2
            obtain ⟨V, hV, hVb, kb, hoff⟩ := one_box (B := w.heap.size) HI.out.r (by omega) (.slice A' G.bytes.length c') (.slice P' G.pend.length p')
            rw [hV]; clear hV
            have q0 := kb.cell 0
            have q1 := kb.cell 1
            simp at q0 q1
            refine bodyPost_ret (v := .tuple #[.agg #[.slice A' G.bytes.length c', .slice P' G.pend.length p'], .int .i64 (k : Int), .int .i64 (pDoE G os[k].1 os[k].2)]) (by simp [results, Try.results46, go_sem, q0, q1]) rfl ⟨A', c', P', p', by rw [hgo.out], Below.trans HI.out.e hVb, by rw [hgo.out]; exact HI.out.a.offS HI.out.r hoff, by rw [hgo.out]; exact HI.out.p.offS HI.out.r hoff⟩
      · obtain rfl : k = os.length := by omega
        have hgo : Hid (pRun D os fuse F = (G, os.length, 0)) := by
          show _ = _
          rw [hrun.out, Hgo.out, List.drop_length, goR_nil]
        have x0 := HI.out.d.cell 0
        have x1 := HI.out.d.cell 1
        have r0 := HI.out.r.cell 0
        have r1 := HI.out.r.cell 1
        have f0 := HI.out.r.frozen 0
        have f1 := HI.out.r.frozen 1
        simp at x0 x1 r0 r1
        go_wp2
        obtain ⟨V, hV, hVb, kb, hoff⟩ := one_box (B := w.heap.size) HI.out.r (by omega) (.slice A' G.bytes.length c') (.slice P' G.pend.length p')
        rw [hV]; clear hV
        have q0 := kb.cell 0
        have q1 := kb.cell 1
        simp at q0 q1
        refine bodyPost_ret (v := .tuple #[.agg #[.slice A' G.bytes.length c', .slice P' G.pend.length p'], .int .i64 (os.length : Int), .int .i64 0]) (by simp [results, Try.results46, go_sem, q0, q1]) rfl ⟨A', c', P', p', by rw [hgo.out], Below.trans HI.out.e hVb, by rw [hgo.out]; exact HI.out.a.offS HI.out.r hoff, by rw [hgo.out]; exact HI.out.p.offS HI.out.r hoff⟩
  · have t1 : (pCheck D != 0) = true := by simpa using h1
    have hrun : Hid (pRun D os fuse F = (⟨[], []⟩, 0, pCheck D)) := by show _ = _; unfold pRun; rw [if_neg h1]
    clear h1
    have r0 := HI.out.r.cell 0
    have r1 := HI.out.r.cell 1
    have f0 := HI.out.r.frozen 0
    have f1 := HI.out.r.frozen 1
    simp at r0 r1
    go_wp2
    obtain ⟨V, hV, hVb, kb, hoff⟩ := one_box (B := w.heap.size) HI.out.r (by omega) (.slice none 0 0) (.slice none 0 0)
    rw [hV]; clear hV
    have q0 := kb.cell 0
    have q1 := kb.cell 1
    simp at q0 q1
    refine bodyPost_ret (v := .tuple #[zeroDk, .int .i64 0, .int .i64 (pCheck D)]) (by simp [results, Try.results46, go_sem, q0, q1, zeroDk]) rfl ⟨none, 0, none, 0, by rw [hrun.out]; rfl, Below.trans HI.out.e hVb, by rw [hrun.out]; exact By.nil _ _, by rw [hrun.out]; exact Ws.nil _ _⟩
end Go.Proofs.Ytdlalmbnkcadfaa
/- law: ThinOps. -/
namespace Go.Proofs.Ytdlalmbnkcadfaa
open Go.RowKit

def pThinO (os : List Op) (F : Ft) : Bool := decide (os.length ≤ 40) && pThinF F && os.all fun x => decide (x.2.bs.length ≤ 40)
set_option maxRecDepth 100000 in
set_option maxHeartbeats 2000000 in
theorem thinOps_any (L FA FQ : Option Addr) (lc fc fd : Nat) (os : List Op) (fuse : Int) (F : Ft) (w : World) (hL : Os w L os) :
    Calls Try.prog 43 #[.agg #[.slice L os.length lc, .int .i64 fuse, .slice FA F.order.length fc, .slice FQ F.part.length fd]] w fun e w' => e = .returned (.bool (pThinO os F)) ∧ Ext w w' := by
  obtain ⟨W, hW, hE, hz, k0⟩ := box1 w #[.slice L os.length lc, .int .i64 fuse, .slice FA F.order.length fc, .slice FQ F.part.length fd] 64
  have HL := Lib.hid (hL.ext hE)
  have HK := Lib.hid k0
  have HE := Lib.hid hE
  have d0 := k0.cell 0
  have d2 := k0.cell 2
  have d3 := k0.cell 3
  simp at d0 d2 d3
  clear hE hz k0 hL
  go_enter Try.func43, Try.ntmps43
  by_cases h1 : os.length ≤ 40
  · have t1 : decide (40 < (os.length : Int)) = false := decide_eq_false (by omega)
    have H1 := Lib.hid h1
    go_wp2_with fail
    refine (thinFate_any FA FQ fc fd F W).mono ?_
    rintro e w1 ⟨rfl, hE1⟩
    have HE1 := Lib.hid (HE.out.trans hE1)
    have HL1 := Lib.hid (HL.out.ext hE1)
    have HK1 := Lib.hid (HK.out.ext hE1)
    clear hE1 d0 d2 d3 hW t1 h1
    by_cases ht : pThinF F = true
    · have Ht := Lib.hid ht
      rw [ht]
      clear ht
      go_wp2_with fail
      go_loopw [3] (fun vi wr => ∃ k : Nat, k ≤ os.length ∧ vi = .int .i64 k ∧ Ext w1 wr ∧ Hid (∀ x ∈ os.take k, x.2.bs.length ≤ 40)) (fun vi _ => os.length - (intOf vi).toNat)
      case atStart => exact ⟨0, Nat.zero_le _, rfl, Ext.refl _, fun x hx => (by simp at hx)⟩
      case round =>
        obtain ⟨k, hk, rfl, hEr, Hk⟩ := hrel
        have hk9 : (k : Int) ≤ 40 := by have := H1.out; omega
        have d0 := (HK1.out.ext hEr).cell 0
        simp at d0
        have HEr := Lib.hid hEr
        by_cases hlt : k < os.length
        · obtain ⟨lb, lo, Bx, xd, rfl, p1, p2, p3, p4, p5⟩ := (HL1.out.ext hEr) k os[k] (List.getElem?_eq_getElem hlt)
          have hlt' : (k : Int) < (os.length : Int) := by omega
          clear hEr p5 p4 p1 p2
          by_cases h40 : os[k].2.bs.length ≤ 40
          · have t2 : decide (40 < (os[k].2.bs.length : Int)) = false := decide_eq_false (by omega)
            have Hk' : Hid (∀ x ∈ os.take (k + 1), x.2.bs.length ≤ 40) := fun x hx => by
              rw [List.take_succ_eq_append_getElem hlt] at hx
              rcases List.mem_append.1 hx with h | h
              · exact Hk.out x h
              · simp only [List.mem_singleton] at h; rw [h]; exact h40
            clear h40
            go_wp2
            go_roundw
            case rel => exact ⟨k + 1, by omega, by go_num, HEr.out, Hk'⟩
            case measure => simp [intOf]; omega
          · have t2 : decide (40 < (os[k].2.bs.length : Int)) = true := decide_eq_true (by omega)
            have hr : Hid (pThinO os F = false) := by
              show _ = _
              unfold pThinO
              rw [Bool.and_eq_false_iff]
              right
              rw [← Bool.not_eq_true, List.all_eq_true]
              intro h
              have := of_decide_eq_true (h os[k] (List.getElem_mem hlt))
              omega
            clear h40
            go_wp2
            go_ret
            exact ⟨ret_bool hr.out.symm, HE1.out.trans HEr.out⟩
        · obtain rfl : k = os.length := by omega
          have hr : Hid (pThinO os F = true) := by
            show _ = _
            unfold pThinO
            have h := Hk.out
            rw [List.take_length] at h
            rw [decide_eq_true H1.out, Ht.out, List.all_eq_true.2 (fun x hx => decide_eq_true (h x hx))]
            rfl
          clear hEr
          go_wp2
          go_ret
          exact ⟨ret_bool hr.out.symm, HE1.out.trans HEr.out⟩
    · have hr : Hid (pThinO os F = false) := by show _ = _; unfold pThinO; rw [show pThinF F = false by simpa using ht]; simp
      rw [show pThinF F = false by simpa using ht]
      clear ht
      go_wp2
      go_ret
      exact ⟨ret_bool hr.out.symm, HE1.out⟩
  · have t1 : decide (40 < (os.length : Int)) = true := decide_eq_true (by omega)
    have hr : Hid (pThinO os F = false) := by show _ = _; unfold pThinO; rw [decide_eq_false h1]; simp
    clear h1
    go_wp2
    go_ret
    exact ⟨ret_bool hr.out.symm, HE.out⟩
end Go.Proofs.Ytdlalmbnkcadfaa
/- law: Owns. -/
namespace Go.Proofs.Ytdlalmbnkcadfaa
open Go.RowKit

theorem info_op : (Try.prog.info? 70).map (fun i => (i.zero, i.size, i.bytes)) = some (some (.agg #[.int .u8 0, .int .i64 0, .slice none 0 0]), 3, 40) := by kernel_rfl
abbrev OpRec := Op × Option Addr × Nat
abbrev ocells (qs : List OpRec) : List Value := qs.flatMap fun q => [.int .u8 q.1.1, .int .i64 q.1.2.blk, .slice q.2.1 q.1.2.bs.length q.2.2]
theorem ocells_at (qs : List OpRec) (j : Nat) (q : OpRec) (h : qs[j]? = some q) : (ocells qs)[j * 3]? = some (.int .u8 q.1.1) ∧ (ocells qs)[j * 3 + 1]? = some (.int .i64 q.1.2.blk) ∧ (ocells qs)[j * 3 + 2]? = some (.slice q.2.1 q.1.2.bs.length q.2.2) := by
  induction qs generalizing j with
  | nil => simp at h
  | cons a r ih =>
    cases j with
    | zero => simp at h; subst h; simp [ocells]
    | succ j =>
      have := ih j (by simpa using h)
      have e0 : (j + 1) * 3 = j * 3 + 1 + 1 + 1 := by omega
      have e1 : (j + 1) * 3 + 1 = j * 3 + 1 + 1 + 1 + 1 := by omega
      have e2 : (j + 1) * 3 + 2 = j * 3 + 2 + 1 + 1 + 1 := by omega
      rw [e2, e1, e0]
      simpa [ocells] using this
theorem ocells_len (qs : List OpRec) : (ocells qs).length = qs.length * 3 := by
  induction qs with
  | nil => rfl
  | cons q r ih => simp only [ocells, List.flatMap_cons, List.length_append, List.length_cons, List.length_nil] at *; omega
/-- The call's own row of operations. -/
structure OO (w : World) (B : Nat) (Pv : Value) (qs : List OpRec) : Prop where
  own : w.ownsRow B 70 3 Pv qs.length (ocells qs)
  one : ∀ q ∈ qs, q.1.2.bs.length ≤ q.2.2 ∧ By w q.2.1 q.1.2.bs ∧ ∀ a, q.2.1 = some a → a.block < w.heap.size ∧ some a.block ≠ Pv.ownBlock
theorem OO.ext {w w' : World} {B : Nat} {Pv : Value} {qs : List OpRec} (h : OO w B Pv qs) (e : Ext w w') : OO w' B Pv qs :=
  ⟨ownsRow_ext h.own e, fun q hq => by
    obtain ⟨h1, h2, h3⟩ := h.one q hq
    exact ⟨h1, h2.ext e, fun a ha => ⟨Nat.lt_of_lt_of_le (h3 a ha).1 e.size, (h3 a ha).2⟩⟩⟩
theorem OO.push {w w' : World} {B : Nat} {Pv : Value} {qs : List OpRec} (h : OO w B Pv qs) {g' cap : Nat} {q : OpRec}
    (hown : w'.ownsRow B 70 3 (.slice (some ⟨g', 0, none⟩) (qs.length + 1) cap) (qs.length + 1) (ocells qs ++ [.int .u8 q.1.1, .int .i64 q.1.2.blk, .slice q.2.1 q.1.2.bs.length q.2.2]))
    (hgrow : w.grownBy w' Pv.ownBlock) (hat : Pv.ownBlock = some g' ∨ g' = w.heap.size)
    (h1 : q.1.2.bs.length ≤ q.2.2) (h2 : By w q.2.1 q.1.2.bs) (h3 : ∀ a, q.2.1 = some a → a.block < w.heap.size ∧ some a.block ≠ Pv.ownBlock) :
    OO w' B (.slice (some ⟨g', 0, none⟩) (qs.length + 1) cap) (qs ++ [q]) := by
  have key : ∀ r : OpRec, r.1.2.bs.length ≤ r.2.2 → By w r.2.1 r.1.2.bs → (∀ a, r.2.1 = some a → a.block < w.heap.size ∧ some a.block ≠ Pv.ownBlock) →
      r.1.2.bs.length ≤ r.2.2 ∧ By w' r.2.1 r.1.2.bs ∧ ∀ a, r.2.1 = some a → a.block < w'.heap.size ∧ some a.block ≠ (Value.slice (some ⟨g', 0, none⟩) (qs.length + 1) cap).ownBlock := by
    intro r r1 r2 r3
    refine ⟨r1, r2.grown (fun a ha => (r3 a ha).2) hgrow, fun a ha => ?_⟩
    obtain ⟨a2, a4⟩ := r3 a ha
    refine ⟨Nat.lt_of_lt_of_le a2 hgrow.size, ?_⟩
    simp only [Value.ownBlock]
    rcases hat with e | e
    · rw [e] at a4; exact a4
    · intro e2; simp only [Option.some.injEq] at e2; omega
  refine ⟨?_, fun r hr => ?_⟩
  · have : ocells (qs ++ [q]) = ocells qs ++ [.int .u8 q.1.1, .int .i64 q.1.2.blk, .slice q.2.1 q.1.2.bs.length q.2.2] := by simp [ocells]
    rw [this, List.length_append]
    exact hown
  · rcases List.mem_append.1 hr with hr | hr
    · obtain ⟨r1, r2, r3⟩ := h.one r hr
      exact key r r1 r2 r3
    · simp only [List.mem_singleton] at hr
      subst hr
      exact key r h1 h2 h3
theorem OO.os {w : World} {B : Nat} {Pv : Value} {qs : List OpRec} {os : List Op} (h : OO w B Pv qs) (hq : qs.map Prod.fst = os) : ∃ P c, Pv = .slice P os.length c ∧ Os w P os := by
  have hl : qs.length = os.length := by rw [← hq]; simp
  rcases h.own.2 with ⟨hv, hn⟩ | ⟨g, cap, cur, hv, hB, hh, hc, _⟩
  · have : os = [] := List.eq_nil_of_length_eq_zero (by omega)
    subst this
    exact ⟨none, 0, hv, Os.nil _ _⟩
  · refine ⟨_, cap, by rw [hv, hl], fun j x hj => ?_⟩
    have hlt : j < qs.length := by have := (List.getElem?_eq_some_iff.1 hj).1; omega
    have hx : qs[j].1 = x := by
      rw [← hq, List.getElem?_map, List.getElem?_eq_getElem hlt] at hj
      simpa using hj
    obtain ⟨c1, c2, c3⟩ := ocells_at qs j qs[j] (List.getElem?_eq_getElem hlt)
    obtain ⟨r1, r2, _⟩ := h.one qs[j] (List.getElem_mem hlt)
    subst hv
    rw [hx] at c1 c2 c3 r1 r2
    refine ⟨g, 0, qs[j].2.1, qs[j].2.2, rfl, ?_, ?_, ?_, r1, r2⟩
    · rw [Nat.zero_add]; exact (h.own.cellAt (j * 3) (by omega)).trans c1
    · rw [Nat.zero_add]; exact (h.own.cellAt (j * 3 + 1) (by omega)).trans c2
    · rw [Nat.zero_add]; exact (h.own.cellAt (j * 3 + 2) (by omega)).trans c3
def SV.ow (N : Nat) (x : Op) : SV := ⟨fun v w => ∃ A c, v = .agg #[.int .u8 x.1, .int .i64 x.2.blk, .slice A x.2.bs.length c] ∧ x.2.bs.length ≤ c ∧ By w A x.2.bs ∧ ∀ a, A = some a → N ≤ a.block ∧ a.block < w.heap.size,
  fun ⟨A, c, h1, h2, h3, h4⟩ e => ⟨A, c, h1, h2, h3.ext e, fun a ha => ⟨(h4 a ha).1, Nat.lt_of_lt_of_le (h4 a ha).2 e.size⟩⟩⟩
def SV.obx (N : Nat) (x : Op) : SV := ⟨fun v w => ∃ b A c, v = .slice (some ⟨b, 0, none⟩) 1 1 ∧ Bk w b #[.int .u8 x.1, .int .i64 x.2.blk, .slice A x.2.bs.length c] 70 ∧ x.2.bs.length ≤ c ∧ By w A x.2.bs ∧ ∀ a, A = some a → N ≤ a.block ∧ a.block < w.heap.size,
  fun ⟨b, A, c, h1, h2, h3, h4, h5⟩ e => ⟨b, A, c, h1, h2.ext e, h3, h4.ext e, fun a ha => ⟨(h5 a ha).1, Nat.lt_of_lt_of_le (h5 a ha).2 e.size⟩⟩⟩
set_option maxRecDepth 100000 in
set_option maxHeartbeats 4000000 in
theorem owns_any (L : Option Addr) (lc : Nat) (os : List Op) (w : World) (hL : Os w L os) (hos : os.length ≤ 1000) (hxs : ∀ x ∈ os, x.2.bs.length ≤ 100000) :
    Calls Try.prog 44 #[.slice L os.length lc] w fun e w' => ∃ P c, e = .returned (.slice P os.length c) ∧ Ext w w' ∧ Os w' P os := by
  obtain ⟨i0, hi0, hz0, hz1, hz2⟩ := info_parts info_op
  have HL := Lib.hid hL
  have Hxs := Lib.hid hxs
  clear hL hxs
  go_enter Try.func44, Try.ntmps44
  go_wp2_with fail
  go_loopw [3, 4] (fun vo vi wr => ∃ (k : Nat) (qs : List OpRec), k ≤ os.length ∧ vi = .int .i64 k ∧ Ext w wr ∧ Hid (OO wr w.heap.size vo qs) ∧ Hid (qs.map Prod.fst = os.take k)) (fun _ vi _ => os.length - (intOf vi).toNat)
  case atStart => exact ⟨0, [], Nat.zero_le _, rfl, Ext.refl _, ⟨World.ownsRow_nil _ _ _ _, fun q hq => by cases hq⟩, rfl⟩
  case round =>
    obtain ⟨k, qs, hk, rfl, hEr, HO, Hqs⟩ := hrel
    obtain ⟨Pv, hPv⟩ : ∃ v, v = u3 := ⟨_, rfl⟩
    rw [← hPv] at HO ⊢
    clear hPv
    have hk9 : (k : Int) ≤ 1000 := by omega
    have hql : qs.length = k := by have := congrArg List.length Hqs.out; simp at this; omega
    have Hql := Lib.hid hql
    clear hql
    by_cases hlt : k < os.length
    · obtain ⟨lb, lo, Bx, xd, rfl, p1, p2, p3, p4, p5⟩ := (HL.out.ext hEr) k os[k] (List.getElem?_eq_getElem hlt)
      have hlt' : (k : Int) < (os.length : Int) := by omega
      have Hp5 := Lib.hid p5
      have HEr := Lib.hid hEr
      have hS := Lib.hid (fun w' (h : Ext wr w') => (⟨h, cellExt h p1, cellExt h p2, cellExt h p3⟩ : Ext wr w' ∧ w'.cell? ⟨lb, lo + k * 3, none⟩ = some (.int .u8 os[k].1) ∧ w'.cell? ⟨lb, lo + k * 3 + 1, none⟩ = some (.int .i64 os[k].2.blk) ∧ w'.cell? ⟨lb, lo + k * 3 + 2, none⟩ = some (.slice Bx os[k].2.bs.length xd)))
      have hsk := Hxs.out os[k] (List.getElem_mem hlt)
      clear p1 p2 p3 p4 p5 hEr
      go_wp2_with fail
      refine wp_region_rel 20 (by kernel_rfl) (by kernel_rfl) (Ext.refl wr).drew ?_
      repeat (apply relW_fix
              · intro vs w' hw hf
                have hc := hS.out w' hw
                unfold okAt
                go_simp
                first | exact ⟨rfl, Ext.refl _⟩ | exact rfl
              · intro vs; go_simp; rfl)
      (apply relW_any (SV.e0 wr.heap.size)
       · intro vs w' hw hf
         have hc := hS.out w' hw
         skip
         unfold okAt
         go_simp
         exact ⟨⟨_, rfl, hw.size, by simp⟩, (Ext.refl _).alloc _⟩
       · intro vs; go_simp; rfl)
      (apply relW_fix
       · intro vs w' hw hf
         have hc := hS.out w' hw
         unfold okAt
         go_simp
         first | exact ⟨rfl, Ext.refl _⟩ | exact rfl
       · intro vs; go_simp; rfl)
      (apply relW_fix
       · intro vs w' hw hf
         have hc := hS.out w' hw
         unfold okAt
         go_simp
         first | exact ⟨rfl, Ext.refl _⟩ | exact rfl
       · intro vs; go_simp; rfl)
      (apply relW_fix
       · intro vs w' hw hf
         have hc := hS.out w' hw
         unfold okAt
         go_simp
         first | exact ⟨rfl, Ext.refl _⟩ | exact rfl
       · intro vs; go_simp; rfl)
      (apply relW_fix
       · intro vs w' hw hf
         have hc := hS.out w' hw
         unfold okAt
         go_simp
         first | exact ⟨rfl, Ext.refl _⟩ | exact rfl
       · intro vs; go_simp; rfl)
      (apply relW_fix
       · intro vs w' hw hf
         have hc := hS.out w' hw
         unfold okAt
         go_simp
         first | exact ⟨rfl, Ext.refl _⟩ | exact rfl
       · intro vs; go_simp; rfl)
      (apply relW_any (SV.by_ wr.heap.size os[k].2.bs)
       · intro vs w' hw hf
         have hc := hS.out w' hw
         obtain ⟨b9, eb, hb1, hb2⟩ := hf.out.1 (by kernel_rfl)
         obtain ⟨v2, w2, h1, h2, h3⟩ := app0_by _ w' b9 xd Bx os[k].2.bs (Hp5.out.ext hw) hsk
         refine okAt_app rfl _ _ _ rfl _ _ v2 (by exact eb) rfl h1 ?_ h2
         (obtain ⟨A', c', e1, q1, q2, q3, _⟩ := h3; exact ⟨A', c', e1, q1, q2, fun a ha => (by have := h2.size; have := hw.size; rcases q3 a ha with q | q <;> omega)⟩)
       · intro vs; go_simp; rfl)
      (apply relW_any (SV.ow wr.heap.size os[k])
       · intro vs w' hw hf
         have hc := hS.out w' hw
         obtain ⟨A5, c5, e5, q1, q2, q3⟩ := hf.out.1 (by kernel_rfl)
         unfold okAt
         go_simp
         exact ⟨⟨A5, c5, rfl, q1, q2, q3⟩, Ext.refl _⟩
       · intro vs; go_simp; rfl)
      (apply relW_any (SV.obx wr.heap.size os[k])
       · intro vs w' hw hf
         have hc := hS.out w' hw
         obtain ⟨A5, c5, e5, q1, q2, q3⟩ := hf.out.1 (by kernel_rfl)
         unfold okAt
         go_simp
         exact ⟨⟨_, A5, c5, rfl, Bk.new _ _ _, q1, q2.ext ((Ext.refl _).alloc _), fun a ha => (by have := q3 a ha; exact ⟨this.1, by simp; omega⟩)⟩, (Ext.refl _).alloc _⟩
       · intro vs; go_simp; rfl)
      refine relW_nil fun vs w6 hw hf => ?_
      obtain ⟨⟨b5, A5, c5, e5, kb, l1, l2, l3⟩, -⟩ := hf
      have hE6 : Ext wr w6 := hw
      have hO6 := HO.out.ext hE6
      have Hkb := Lib.hid kb
      have hB6 : w.heap.size ≤ w6.heap.size := by have := HEr.out.size; have := hE6.size; omega
      clear kb
      refine wpList_append_lies (P := Try.prog) w6 rfl (.tmp 11) (.tmp 30) 62 rfl w.heap.size 70 i0 _ 3 40 Try.underlying62 hi0 hz0 hz1 hz2 (by rfl) (by omega) Pv qs.length (ocells qs) (by rfl) hO6.own ⟨b5, 0, none⟩ 1 1 [.int .u8 os[k].1, .int .i64 os[k].2.blk, .slice A5 os[k].2.bs.length c5] ?_ (by rfl) ?_ ?_ (by omega) ?_ ?_ hB6 w6.heap.size rfl ?_
      · exact e5
      · exact World.news_of_block (cs := #[.int .u8 os[k].1, .int .i64 os[k].2.blk, .slice A5 os[k].2.bs.length c5]) Hkb.out
      · intro u hu; simp at hu; rcases hu with rfl | rfl | rfl <;> rfl
      · have := Hql.out; simp only [maxLen]; omega
      · have := Hql.out; omega
      · intro g' cap w7 hown hgrow hat hlt7
        have hoff : ∀ a, A5 = some a → a.block < w6.heap.size ∧ some a.block ≠ Pv.ownBlock := fun a ha => by
          have h1 := l3 a ha
          refine ⟨h1.2, fun h => ?_⟩
          have := (HO.out.own.lt a.block h.symm).2
          omega
        have HO7 := Lib.hid (hO6.push (q := (os[k], A5, c5)) hown hgrow hat l1 l2 hoff)
        have HE7 : Hid (Ext w w7) := Below.grown (HEr.out.trans hE6) hgrow hB6 (fun x hx => (hO6.own.lt x hx).1)
        have Hq7 : Hid ((qs ++ [(os[k], A5, c5)]).map Prod.fst = os.take (k + 1)) := by
          show _ = _
          rw [List.map_append, Hqs.out]
          simp only [List.map_cons, List.map_nil]
          exact (List.take_succ_eq_append_getElem hlt).symm
        clear hown hgrow hat hoff l3 l2 hO6 hS hE6 hw
        go_wp2
        go_roundw
        case rel => exact ⟨k + 1, _, by omega, by go_num, HE7.out, HO7, Hq7⟩
        case measure => simp [intOf]; omega
    · obtain rfl : k = os.length := by omega
      obtain ⟨P', c', rfl, hOs⟩ := HO.out.os (by rw [Hqs.out, List.take_length])
      have HOs := Lib.hid hOs
      have HEr := Lib.hid hEr
      clear hOs hEr
      go_wp2
      go_ret
      exact ⟨P', c', rfl, HEr.out, HOs.out⟩
end Go.Proofs.Ytdlalmbnkcadfaa
