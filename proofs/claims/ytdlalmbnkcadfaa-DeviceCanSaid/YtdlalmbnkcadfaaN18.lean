/- DeviceBytes: the walk. -/
import Derived.Test.YtdlalmbnkcadfaaN17
import Derived.Test.YtdlalmbnkcadfaaN13
namespace Go.Proofs.Ytdlalmbnkcadfaa
open Go.RowKit

/-- A fate of so many numbers in a box. -/
structure GBx (w : World) (b : Nat) (A P : Option Addr) (n c p : Nat) (F : Ft) : Prop where
  k : Bk w b #[.slice A n c, .slice P n p] 34
  a : Is w A F.order
  p : Is w P F.part
theorem GBx.ext {w w' : World} {b n : Nat} {A P : Option Addr} {c p : Nat} {F : Ft} (h : GBx w b A P n c p F) (e : Ext w w') : GBx w' b A P n c p F := ⟨h.k.ext e, h.a.ext e, h.p.ext e⟩
theorem GBx.cells {w : World} {b n : Nat} {A P : Option Addr} {c p : Nat} {F : Ft} (h : GBx w b A P n c p F) : w.cell? ⟨b, 0, none⟩ = some (.slice A n c) ∧ w.cell? ⟨b, 1, none⟩ = some (.slice P n p) := ⟨h.k.cell 0, h.k.cell 1⟩
set_option maxRecDepth 100000 in
set_option maxHeartbeats 8000000 in
theorem dbytes_any (A P FA FQ : Option Addr) (c p fc fd : Nat) (D : Dk) (F : Ft) (w : World) (hA : By w A D.bytes) (hP : Ws w P D.pend) (hFA : Is w FA F.order) (hFQ : Is w FQ F.part) :
    Calls Try.prog 8 #[.agg #[.slice A D.bytes.length c, .slice P D.pend.length p], .agg #[.slice FA F.order.length fc, .slice FQ F.part.length fd]] w fun e w' => e = .returned (.bool true) ∧ Ext w w' := by
  obtain ⟨W, hW, hE, hz, k0, k1⟩ := box2 w #[.slice A D.bytes.length c, .slice P D.pend.length p] #[.slice FA F.order.length fc, .slice FQ F.part.length fd] 25 34
  have HD : Hid (DBx W w.heap.size A P c p D) := ⟨k0, hA.ext hE, hP.ext hE⟩
  have HF : Hid (FBx W (w.heap.size + 1) FA FQ fc fd F) := ⟨k1, hFA.ext hE, hFQ.ext hE⟩
  have HE := Lib.hid hE
  have hc := HD.out.cells
  clear hE hP hA hFA hFQ k0 k1 hz
  go_enter Try.func8, Try.ntmps8
  go_wp2_with fail
  refine (right_any A P c p D W HD.out.a HD.out.p).mono ?_
  rintro e w0 ⟨rfl, hE1⟩
  have Hq := Lib.hid (HD.out.ext hE1)
  clear HD
  have HD := Hq
  clear Hq
  have Hq := Lib.hid (HF.out.ext hE1)
  clear HF
  have HF := Hq
  clear Hq
  have Hq := Lib.hid (HE.out.trans hE1)
  clear HE
  have HE := Hq
  clear Hq
  clear hE1 hc hW
  have hd := HF.out.cells
  by_cases ht : pRight D = true
  · have hr : pThin D = true ∧ pCheck D = 0 := by
      unfold pRight at ht
      simpa using ht
    have Hsm := Lib.hid (thin_small hr.1)
    have Hck := Lib.hid hr.2
    obtain ⟨hr0, hr1, hr2, hr3, hr4⟩ := pCheck_ok hr.2
    have Hl : Hid (D.pend.length ≤ 64) := hr3
    have Hok := Lib.hid hr4
    rw [ht]
    clear ht hr hr0 hr1 hr2 hr3 hr4
    go_wp2_with fail
    refine (thinFate_any FA FQ fc fd F w0).mono ?_
    rintro e w1 ⟨rfl, hE1⟩
    have Hq := Lib.hid (HD.out.ext hE1)
    clear HD
    have HD := Hq
    clear Hq
    have Hq := Lib.hid (HF.out.ext hE1)
    clear HF
    have HF := Hq
    clear Hq
    have Hq := Lib.hid (HE.out.trans hE1)
    clear HE
    have HE := Hq
    clear Hq
    clear hE1 hd
    have hc := HD.out.cells
    have hd := HF.out.cells
    by_cases ht : pThinF F = true
    · rw [ht]
      clear ht
      go_wp2_with fail
      refine (fitW_any FA FQ fc fd D.pend.length F w1 HF.out.a HF.out.p Hl.out).mono ?_
      rintro e w2 ⟨GA, gc, GP, gp, rfl, hE2, hGA, hGP⟩
      clear hc hd HF
      have Hq := Lib.hid (HD.out.ext hE2)
      clear HD
      have HD := Hq
      clear Hq
      have Hq := Lib.hid (HE.out.trans hE2)
      clear HE
      have HE := Hq
      clear Hq
      obtain ⟨V2, hV2, hE3, hz3, k2⟩ := box1 w2 #[.slice GA D.pend.length gc, .slice GP D.pend.length gp] 34
      have HG : Hid (GBx V2 w2.heap.size GA GP D.pend.length gc gp (fitFt F D.pend.length)) := ⟨k2, hGA.ext hE3, hGP.ext hE3⟩
      have Hq := Lib.hid (HD.out.ext hE3)
      clear HD
      have HD := Hq
      clear Hq
      have Hq := Lib.hid (HE.out.trans hE3)
      clear HE
      have HE := Hq
      clear Hq
      clear hE2 hE3 hz3 k2 hGA hGP
      have Hfi := Lib.hid (fitFt_is F D.pend.length Hl.out)
      obtain ⟨X, hX⟩ : ∃ X, pCr D.bytes D.pend (fitFt F D.pend.length) = X := ⟨_, rfl⟩
      have HX := Lib.hid hX
      have Hat : Hid (∀ i : Nat, X[i]?.getD 0 = D.bytes[i]?.getD 0 ∨ D.pend.any (hitB i (X[i]?.getD 0)) = true) := fun i => by
        rw [← hX]
        exact pCr_at (D.bytes.length / 32) D.pend _ Hok.out (fitFt_part F _) i _ _ (by omega)
      have HXl : Hid (X.length = D.bytes.length) := by
        show _ = _
        rw [← hX]
        exact pCr_len (D.bytes.length / 32) D.pend _ Hok.out (fitFt_part F _) _ _ (by omega)
      clear hX
      obtain ⟨gb, hgb⟩ : ∃ gb, gb = w2.heap.size := ⟨_, rfl⟩
      go_wp2_with fail
      clear hV2
      rw [← hgb] at HG ⊢
      clear hgb
      have HD1 := HD
      have HG1 := HG
      have hS := Lib.hid (fun w' (h : Ext V2 w') => (⟨h, (HD1.out.ext h).cells.1, (HD1.out.ext h).cells.2, (HG1.out.ext h).cells.1, (HG1.out.ext h).cells.2⟩ : Ext V2 w' ∧ w'.cell? ⟨w.heap.size, 0, none⟩ = some (.slice A D.bytes.length c) ∧ w'.cell? ⟨w.heap.size, 1, none⟩ = some (.slice P D.pend.length p) ∧ w'.cell? ⟨gb, 0, none⟩ = some (.slice GA D.pend.length gc) ∧ w'.cell? ⟨gb, 1, none⟩ = some (.slice GP D.pend.length gp)))
      refine wp_region_rell 8 (by kernel_rfl) (by kernel_rfl) (fun _ _ _ _ _ h => h) (Ext.refl V2).drew ?_
      (apply relW_fix
       · intro vs w' hw hf
         have hc := hS.out w' hw
         unfold okAt
         go_simp
         first | exact ⟨rfl, Ext.refl _⟩ | exact rfl
       · intro vs; go_simp; rfl)
      (apply relW_any (SV.cd D)
       · intro vs w' hw hf
         have hc := hS.out w' hw
         skip
         unfold okAt
         go_simp
         refine ⟨Ext.refl _, ?_⟩; go_at_call 37; refine (own_dv2 A P c p D w' (HD1.out.a.ext hw) (HD1.out.p.ext hw) Hsm.out).mono ?_; rintro e w5 ⟨A', c', P', p', rfl, h1, h2, h3⟩; exact ⟨_, rfl, ⟨A', P', c', p', rfl, h2, h3⟩, h1⟩
       · intro vs; go_simp; rfl)
      (apply relW_fix
       · intro vs w' hw hf
         have hc := hS.out w' hw
         unfold okAt
         go_simp
         first | exact ⟨rfl, Ext.refl _⟩ | exact rfl
       · intro vs; go_simp; rfl)
      (apply relW_any (SV.tu X)
       · intro vs w' hw hf
         have hc := hS.out w' hw
         obtain ⟨B, Q, cb, cq, e1, hB, hQ⟩ := hf.out.1 (by kernel_rfl)
         unfold okAt
         go_simp
         refine ⟨Ext.refl _, ?_⟩; go_at_call 27; refine (crashG_any (fitFt F D.pend.length) X B Q GA GP cb cq gc gp D w' HX.out Hfi.out (fitFt_len F D.pend.length Hl.out).1 (fitFt_len F D.pend.length Hl.out).2 Hck.out hB hQ.ws (HG1.out.a.ext hw) (HG1.out.p.ext hw) Hsm.out).mono ?_; rintro e w5 ⟨A', P', c', p', rfl, h1, h2⟩; exact ⟨_, rfl, ⟨A', P', c', p', rfl, h2⟩, h1⟩
       · intro vs; go_simp; rfl)
      (apply relW_any (SV.tu X)
       · intro vs w' hw hf
         have hc := hS.out w' hw
         obtain ⟨A', P', c', p', e6, h2⟩ := hf.out.1 (by kernel_rfl)
         unfold okAt
         go_simp
         exact ⟨⟨A', P', c', p', rfl, h2⟩, Ext.refl _⟩
       · intro vs; go_simp; rfl)
      (apply relW_any (SV.dx X)
       · intro vs w' hw hf
         have hc := hS.out w' hw
         obtain ⟨A', P', c', p', e6, h2⟩ := hf.out.1 (by kernel_rfl)
         unfold okAt
         go_simp
         exact ⟨⟨A', P', c', p', rfl, h2⟩, Ext.refl _⟩
       · intro vs; go_simp; rfl)
      (apply relW_any (SV.eq (.int .i64 0))
       · intro vs w' hw hf
         have hc := hS.out w' hw
         obtain ⟨A', P', c', p', e6, h2⟩ := hf.out.2.1 (by kernel_rfl)
         unfold okAt
         go_simp
         exact ⟨rfl, Ext.refl _⟩
       · intro vs; go_simp; rfl)
      (apply relW_any (SV.al V2.heap.size #[.slice none 0 0, .slice none 0 0] 25)
       · intro vs w' hw hf
         have hc := hS.out w' hw
         skip
         unfold okAt
         go_simp
         exact ⟨⟨_, rfl, Bk.new _ _ _, hw.size⟩, (Ext.refl _).alloc _⟩
       · intro vs; go_simp; rfl)
      refine relW_nil fun vs w2 hw hf => ?_
      obtain ⟨⟨b6, e6, kb6, hb6⟩, e9, ⟨B, Q, cb, cq, e8, hB⟩, -⟩ := hf
      have e9 : vs 6 = .int .i64 0 := e9
      have g2 := kb6.cell 0
      have g3 := kb6.cell 1
      have g6 := kb6.frozen 0
      have g7 := kb6.frozen 1
      simp at g2 g3
      clear hS HD HG HG1
      simp only [List.drop]
      go_upto_region 5 with fail
      obtain ⟨V, hV, hVb, kb, hoff⟩ := one_box (B := V2.heap.size) kb6 hb6 (.slice B (X).length cb) (.slice Q 0 cq)
      rw [hV]; clear hV
      have hEV : Ext V2 V := Below.trans hw hVb
      have H1 : Hid (DBx V b6 B Q cb cq ⟨X, []⟩) := ⟨kb, hB.off1 kb6 clean_disk hoff, Ws.nil _ _⟩
      have HD := Lib.hid (HD1.out.ext hEV)
      have Hq := Lib.hid (HE.out.trans hEV)
      clear HE
      have HE := Hq
      clear Hq
      clear hVb kb hoff hEV hB kb6 hb6 hw HD1 g2 g3 g6 g7 e8
      have hc := HD.out.cells
      have h1 := H1.out.cells
      simp only at h1
      have t1 : ((X.length : Int) != (D.bytes.length : Int)) = false := by rw [HXl.out]; simp
      go_wp2_with fail
      have Hl2 := Lib.hid Hsm.out.1
      clear hc h1 t1
      go_loopw [9] (fun vi wr => ∃ i : Nat, i ≤ D.bytes.length ∧ vi = .int .i64 i ∧ Ext V wr) (fun vi _ => D.bytes.length - (intOf vi).toNat)
      case atStart => exact ⟨0, Nat.zero_le _, rfl, Ext.refl _⟩
      case round =>
        obtain ⟨i, hi, rfl, hEr⟩ := hrel
        have HVr := Lib.hid hEr
        have HDr := Lib.hid (HD.out.ext hEr)
        have H1r := Lib.hid (H1.out.ext hEr)
        have HEr := Lib.hid (HE.out.trans hEr)
        have hc := HDr.out.cells
        clear hEr
        by_cases hlt : i < D.bytes.length
        · have hlx : i < X.length := by have := HXl.out; omega
          obtain ⟨ab, ao, rfl, a1⟩ := HDr.out.a.at hlt
          obtain ⟨bb, bo, rfl, b1⟩ := H1r.out.a.at (j := i) hlx
          simp only at b1
          have hi9 : (i : Int) ≤ 100000 := by have := Hl2.out; omega
          have hi8 : (i : Int) < (D.bytes.length : Int) := by omega
          have hi7 : (i : Int) < (X.length : Int) := by omega
          obtain ⟨b, hb⟩ : ∃ b, b = ((X[i].toNat : Int) == (D.bytes[i].toNat : Int)) := ⟨_, rfl⟩
          have tq := hb.symm
          have Hfin : Hid ((b || D.pend.any (hitB i X[i])) = true) := by
            show _ = _
            have h := Hat.out i
            rw [List.getElem?_eq_getElem hlx, List.getElem?_eq_getElem hlt] at h
            simp only [Option.getD_some] at h
            rcases h with h | h
            · rw [hb, h]; simp
            · rw [h]; simp
          clear hb
          go_wp2_with fail
          have hS := Lib.hid (fun w' (h : Ext wr w') => (⟨h, (HDr.out.ext h).cells.1, (H1r.out.ext h).cells.1, cellExt h a1, cellExt h b1⟩ : Ext wr w' ∧ w'.cell? ⟨w.heap.size, 0, none⟩ = some (.slice (some ⟨ab, ao, none⟩) D.bytes.length c) ∧ w'.cell? ⟨b6, 0, none⟩ = some (.slice (some ⟨bb, bo, none⟩) X.length cb) ∧ w'.cell? ⟨ab, ao + i, none⟩ = some (.int .u8 (D.bytes[i].toNat : Int)) ∧ w'.cell? ⟨bb, bo + i, none⟩ = some (.int .u8 (X[i].toNat : Int))))
          refine wp_region_rel 11 (by kernel_rfl) (by kernel_rfl) (Ext.refl wr).drew ?_
          repeat (apply relW_fix
                  · intro vs w' hw hf
                    have hc := hS.out w' hw
                    unfold okAt
                    go_simp
                    first | exact ⟨rfl, Ext.refl _⟩ | exact rfl
                  · intro vs; go_simp; rfl)
          refine relW_nil fun vs2 w3 hw hf => ?_
          clear hS hf
          have Hw := Lib.hid hw
          have Hq := Lib.hid (HDr.out.ext hw)
          clear HDr
          have HDr := Hq
          clear Hq
          have Hq := Lib.hid (H1r.out.ext hw)
          clear H1r
          have H1r := Hq
          clear Hq
          have Hq := Lib.hid (HEr.out.trans hw)
          clear HEr
          have HEr := Hq
          have Hb1 := Lib.hid (cellExt hw b1)
          clear hc a1 b1 tq hw Hq
          go_wp2_with fail
          go_loopw [10, 11] (fun v10 v11 wx => ∃ k : Nat, k ≤ D.pend.length ∧ v11 = .int .i64 k ∧ v10 = .bool (b || (D.pend.take k).any (hitB i X[i])) ∧ Ext w3 wx) (fun _ v11 _ => D.pend.length - (intOf v11).toNat)
          case atStart => exact ⟨0, Nat.zero_le _, rfl, by simp, Ext.refl _⟩
          case round =>
            obtain ⟨k, hk, rfl, rfl, hEx⟩ := hrel
            have HDx := Lib.hid (HDr.out.ext hEx)
            have H1x := Lib.hid (H1r.out.ext hEx)
            have HEx := Lib.hid (HEr.out.trans hEx)
            have hb1 := cellExt hEx Hb1.out
            have hc := HDx.out.cells
            obtain ⟨q, hq⟩ : ∃ q, q = (b || (D.pend.take k).any (hitB i X[i])) := ⟨_, rfl⟩
            have Hq := Lib.hid hq
            rw [← hq]
            clear hq
            by_cases hlt2 : k < D.pend.length
            · obtain ⟨pb, po, Bx, xd, rfl, p1, p2, p3, p4⟩ := HDx.out.p k D.pend[k] (List.getElem?_eq_getElem hlt2)
              have hst : Hid ((b || (D.pend.take (k + 1)).any (hitB i X[i])) = (q || hitB i X[i] D.pend[k])) := by
                show _ = _
                rw [List.take_succ_eq_append_getElem hlt2, List.any_append, Hq.out, Bool.or_assoc]
                simp
              obtain ⟨m, hm, hmn, hml⟩ := okWr_iff (Hok.out D.pend[k] (List.getElem_mem hlt2))
              have Hm := Lib.hid hm
              have Hml := Lib.hid hml
              clear hm hml hmn
              have hk8 : (k : Int) < (D.pend.length : Int) := by omega
              have hk9 : (k : Int) ≤ 64 := by have := Hl.out; omega
              cases q with
              | true => 
                go_wp2_with fail
                obtain ⟨V3, hV3, hE3, hz3, kx⟩ := box1 wr #[.int .i64 D.pend[k].blk, .slice Bx D.pend[k].bs.length xd] 49
                rw [hV3]; clear hV3
                have hS := Lib.hid (fun w' (h : Ext V3 w') => (⟨h, trivial⟩ : Ext V3 w' ∧ True))
                refine wp_region_rel 28 (by kernel_rfl) (by kernel_rfl) (Ext.refl V3).drew ?_
                repeat (apply relW_fix
                        · intro vs w' hw hf
                          have hc := hS.out w' hw
                          unfold okAt
                          go_simp
                          first | exact ⟨rfl, Ext.refl _⟩ | exact rfl
                        · intro vs; go_simp; rfl)
                refine relW_nil fun vs3 w4 hw hf => ?_
                clear hS hf
                go_wp2
                go_roundw
                case rel => exact ⟨k + 1, by omega, by go_num, by rw [hst.out]; exact (by simp), (hEx.trans hE3).trans hw⟩
                case measure => simp [intOf]; omega
              | false =>
                have i32 : Hid (i % 32 < D.pend[k].bs.length) := by have := Hml.out; show _ < _; omega
                have tl : ((D.pend[k].bs.length : Int) == 32) = true := by rw [Hml.out]; rfl
                have q1 : (i : Int).tdiv 32 = (i : Int) / 32 := Int.tdiv_eq_ediv_of_nonneg (by omega)
                have q2 : (i : Int).tmod 32 = (i : Int) % 32 := Int.tmod_eq_emod_of_nonneg (by omega)
                have q3 : IntKind.i64.wrap ((i : Int) / 32) = (i : Int) / 32 := by simp [IntKind.wrap, IntKind.bits, IntKind.signed]; omega
                have q4 : IntKind.i64.wrap ((i : Int) % 32) = (i : Int) % 32 := by simp [IntKind.wrap, IntKind.bits, IntKind.signed]; omega
                have q5 : (0 : Int) ≤ (i : Int) % 32 := by omega
                have q6 : (i : Int) % 32 < (D.pend[k].bs.length : Int) := by have := Hml.out; omega
                have q7 : ((i : Int) % 32).toNat = i % 32 := by omega
                by_cases hblk : m = i / 32
                · obtain ⟨xb, xo, rfl, x1⟩ := p4.at i32.out
                  have tb : (D.pend[k].blk == (i : Int) / 32) = true := by rw [Hm.out, hblk]; simp
                  obtain ⟨r, hr⟩ : ∃ r, r = ((D.pend[k].bs[i % 32].toNat : Int) == (X[i].toNat : Int)) := ⟨_, rfl⟩
                  have tr := hr.symm
                  have Hr : Hid (hitB i X[i] D.pend[k] = r) := by
                    show _ = _
                    have d1 : decide (D.pend[k].bs.length = 32) = true := decide_eq_true Hml.out
                    have d2 : decide (D.pend[k].blk = ((i / 32 : Nat) : Int)) = true := by rw [Hm.out, hblk]; simp
                    unfold hitB
                    rw [List.getElem?_eq_getElem i32.out, d1, d2, hr]
                    simp only [Bool.true_and, Option.getD_some]
                    rw [Bool.eq_iff_iff, beq_iff_eq, beq_iff_eq, ← UInt8.toNat_inj]
                    omega
                  clear hr
                  go_wp2_with fail
                  obtain ⟨V3, hV3, hE3, hz3, kx⟩ := box1 wr #[.int .i64 D.pend[k].blk, .slice (some ⟨xb, xo, none⟩) D.pend[k].bs.length xd] 49
                  rw [hV3]; clear hV3
                  have hS := Lib.hid (fun w' (h : Ext V3 w') => (⟨h, (kx.ext h).cell 0, (kx.ext h).cell 1, (H1x.out.ext (hE3.trans h)).cells.1, cellExt (hE3.trans h) hb1, cellExt (hE3.trans h) x1⟩ : Ext V3 w' ∧ w'.cell? ⟨wr.heap.size, 0, none⟩ = some (.int .i64 D.pend[k].blk) ∧ w'.cell? ⟨wr.heap.size, 1, none⟩ = some (.slice (some ⟨xb, xo, none⟩) D.pend[k].bs.length xd) ∧ w'.cell? ⟨b6, 0, none⟩ = some (.slice (some ⟨bb, bo, none⟩) X.length cb) ∧ w'.cell? ⟨bb, bo + i, none⟩ = some (.int .u8 (X[i].toNat : Int)) ∧ w'.cell? ⟨xb, xo + i % 32, none⟩ = some (.int .u8 (D.pend[k].bs[i % 32].toNat : Int))))
                  refine wp_region_rel 28 (by kernel_rfl) (by kernel_rfl) (Ext.refl V3).drew ?_
                  repeat (apply relW_fix
                          · intro vs w' hw hf
                            have hc := hS.out w' hw
                            unfold okAt
                            go_simp
                            first | exact ⟨rfl, Ext.refl _⟩ | exact rfl
                          · intro vs; go_simp; rfl)
                  refine relW_nil fun vs3 w4 hw hf => ?_
                  clear hS hf
                  go_wp2
                  go_roundw
                  case rel => exact ⟨k + 1, by omega, by go_num, by rw [hst.out]; exact (by rw [Hr.out]; rfl), (hEx.trans hE3).trans hw⟩
                  case measure => simp [intOf]; omega
                · have tb : (D.pend[k].blk == (i : Int) / 32) = false := by rw [Hm.out, beq_eq_false_iff_ne]; omega
                  have Hr : Hid (hitB i X[i] D.pend[k] = false) := by
                    show _ = _
                    have d2 : decide (D.pend[k].blk = ((i / 32 : Nat) : Int)) = false := by rw [Hm.out, decide_eq_false_iff_not]; omega
                    unfold hitB
                    rw [d2]
                    simp
                  clear hblk
                  go_wp2_with fail
                  obtain ⟨V3, hV3, hE3, hz3, kx⟩ := box1 wr #[.int .i64 D.pend[k].blk, .slice Bx D.pend[k].bs.length xd] 49
                  rw [hV3]; clear hV3
                  have hS := Lib.hid (fun w' (h : Ext V3 w') => (⟨h, (kx.ext h).cell 0, trivial⟩ : Ext V3 w' ∧ w'.cell? ⟨wr.heap.size, 0, none⟩ = some (.int .i64 D.pend[k].blk) ∧ True))
                  refine wp_region_rel 28 (by kernel_rfl) (by kernel_rfl) (Ext.refl V3).drew ?_
                  repeat (apply relW_fix
                          · intro vs w' hw hf
                            have hc := hS.out w' hw
                            unfold okAt
                            go_simp
                            first | exact ⟨rfl, Ext.refl _⟩ | exact rfl
                          · intro vs; go_simp; rfl)
                  refine relW_nil fun vs3 w4 hw hf => ?_
                  clear hS hf
                  go_wp2
                  go_roundw
                  case rel => exact ⟨k + 1, by omega, by go_num, by rw [hst.out]; exact (by rw [Hr.out]; rfl), (hEx.trans hE3).trans hw⟩
                  case measure => simp [intOf]; omega
            · obtain rfl : k = D.pend.length := by omega
              have hq : q = true := by
                have h := Hq.out
                rw [List.take_length, Hfin.out] at h
                exact h
              subst hq
              go_wp2
              go_roundw
              case rel => exact ⟨i + 1, by omega, by go_num, (HVr.out.trans Hw.out).trans hEx⟩
              case measure => simp [intOf]; omega
        · have hi8 : ¬ (i : Int) < (D.bytes.length : Int) := by omega
          go_wp2_with fail
          refine (awake_any _).mono ?_
          rintro e w4 ⟨rfl, hE6⟩
          have HE' := Lib.hid (HEr.out.trans hE6)
          clear hE6
          go_wp2_with fail
          go_ret
          exact ⟨rfl, HE'.out⟩
    · rw [show pThinF F = false by simpa using ht]
      clear ht
      go_wp2_with fail
      refine (awake_any _).mono ?_
      rintro e w4 ⟨rfl, hE6⟩
      have HE' := Lib.hid (HE.out.trans hE6)
      clear hE6
      go_wp2_with fail
      go_ret
      exact ⟨rfl, HE'.out⟩
  · rw [show pRight D = false by simpa using ht]
    clear ht
    go_wp2_with fail
    refine (awake_any _).mono ?_
    rintro e w4 ⟨rfl, hE6⟩
    have HE' := Lib.hid (HE.out.trans hE6)
    clear hE6
    go_wp2_with fail
    go_ret
    exact ⟨rfl, HE'.out⟩
end Go.Proofs.Ytdlalmbnkcadfaa
