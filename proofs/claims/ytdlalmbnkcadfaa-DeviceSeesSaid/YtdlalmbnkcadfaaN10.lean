/- DeviceDiffers: the walk. -/
import Derived.Test.YtdlalmbnkcadfaaN08
import Derived.Test.YtdlalmbnkcadfaaN06
import Derived.Test.YtdlalmbnkcadfaaN09
namespace Go.Proofs.Ytdlalmbnkcadfaa
open Go.RowKit

/-- A box that the call has made, in its operation's stretch. -/
def SW.aln (N : Nat) (cs : Array Value) (t : TypeId) : SW PW.ext := ⟨fun v l h w => ∃ b, v = .pointer (some ⟨b, 0, none⟩) ∧ Bk w b cs t ∧ N ≤ b ∧ l ≤ b ∧ b < h, fun ⟨b, e, k, h0, h1, h2⟩ x => ⟨b, e, k.ext x, h0, h1, h2⟩⟩
theorem two_boxes2 {w : World} {b b' : Nat} {x y x' y' : Value} {t t' : TypeId} (h : Bk w b #[x, y] t) (h' : Bk w b' #[x', y'] t') (hbb : b ≠ b') {B : Nat} (hB : B ≤ b) (hB' : B ≤ b') (u0 u1 v0 v1 : Value) :
    ∃ V, (((w.setCell ⟨b, 0, none⟩ u0).setCell ⟨b, 1, none⟩ u1).setCell ⟨b', 0, none⟩ v0).setCell ⟨b', 1, none⟩ v1 = V ∧ Below B w V ∧ Bk V b #[u0, u1] t ∧ Bk V b' #[v0, v1] t' ∧ ∀ k, k ≠ b → k ≠ b' → V.heap[k]? = w.heap[k]? := by
  refine ⟨_, rfl, ((((Below.refl B w).setCell hB _).setCell hB _).setCell hB' _).setCell hB' _, ?_, ?_, fun k h1 h2 => ?_⟩
  · simpa using ((((h.set 0 u0).set 1 u1).far (p := ⟨b', 0, none⟩) hbb v0).far (p := ⟨b', 1, none⟩) hbb v1)
  · simpa using ((((h'.far (p := ⟨b, 0, none⟩) hbb.symm u0).far (p := ⟨b, 1, none⟩) hbb.symm u1).set 0 v0).set 1 v1)
  · rw [Below.heap_setCell _ _ _ _ h2, Below.heap_setCell _ _ _ _ h2, Below.heap_setCell _ _ _ _ h1, Below.heap_setCell _ _ _ _ h1]
set_option maxRecDepth 100000 in
set_option maxHeartbeats 8000000 in
theorem differs_any (A P A2 P2 : Option Addr) (c p c2 p2 : Nat) (D E : Dk) (w : World) (hA : By w A D.bytes) (hP : Ws w P D.pend) (hA2 : By w A2 E.bytes) (hP2 : Ws w P2 E.pend) :
    Calls Try.prog 14 #[.agg #[.slice A D.bytes.length c, .slice P D.pend.length p], .agg #[.slice A2 E.bytes.length c2, .slice P2 E.pend.length p2]] w fun e w' => e = .returned (.bool true) ∧ Ext w w' := by
  obtain ⟨W, hW, hE, hz, k0, k1⟩ := box2 w #[.slice A D.bytes.length c, .slice P D.pend.length p] #[.slice A2 E.bytes.length c2, .slice P2 E.pend.length p2] 25 25
  have HD : Hid (DBx W w.heap.size A P c p D) := ⟨k0, hA.ext hE, hP.ext hE⟩
  have HX : Hid (DBx W (w.heap.size + 1) A2 P2 c2 p2 E) := ⟨k1, hA2.ext hE, hP2.ext hE⟩
  have HE := Lib.hid hE
  have hc := HD.out.cells
  clear hE hP hA hA2 hP2 k0 k1 hz
  go_enter Try.func14, Try.ntmps14
  go_wp2_with fail
  refine (thin_any A P c p D W HD.out.p).mono ?_
  rintro e w0 ⟨rfl, hE1⟩
  have Hq := Lib.hid (HD.out.ext hE1)
  clear HD
  have HD := Hq
  clear Hq
  have Hq := Lib.hid (HX.out.ext hE1)
  clear HX
  have HX := Hq
  clear Hq
  have Hq := Lib.hid (HE.out.trans hE1)
  clear HE
  have HE := Hq
  clear Hq
  clear hE1 hc hW
  have hd := HX.out.cells
  by_cases ht : pThin D = true
  · have Hsm := Lib.hid (thin_small ht)
    rw [ht]
    clear ht
    go_wp2_with fail
    refine (thin_any A2 P2 c2 p2 E w0 HX.out.p).mono ?_
    rintro e w1 ⟨rfl, hE1⟩
    have Hq := Lib.hid (HD.out.ext hE1)
    clear HD
    have HD := Hq
    clear Hq
    have Hq := Lib.hid (HX.out.ext hE1)
    clear HX
    have HX := Hq
    clear Hq
    have Hq := Lib.hid (HE.out.trans hE1)
    clear HE
    have HE := Hq
    clear Hq
    clear hE1 hd
    by_cases ht : pThin E = true
    · have Hsm2 := Lib.hid (thin_small ht)
      rw [ht]
      clear ht
      have hc := HD.out.cells
      have hd := HX.out.cells
      go_wp2_with fail
      have HD1 := HD
      have HX1 := HX
      have hS := Lib.hid (fun w' (h : Ext w1 w') => (⟨h, (HD1.out.ext h).cells.1, (HD1.out.ext h).cells.2, (HX1.out.ext h).cells.1, (HX1.out.ext h).cells.2⟩ : Ext w1 w' ∧ w'.cell? ⟨w.heap.size, 0, none⟩ = some (.slice A D.bytes.length c) ∧ w'.cell? ⟨w.heap.size, 1, none⟩ = some (.slice P D.pend.length p) ∧ w'.cell? ⟨w.heap.size + 1, 0, none⟩ = some (.slice A2 E.bytes.length c2) ∧ w'.cell? ⟨w.heap.size + 1, 1, none⟩ = some (.slice P2 E.pend.length p2)))
      refine wp_region_r2 PW.ext 6 (by kernel_rfl) (by kernel_rfl) (Ext.refl w1).drew ?_
      (apply relW2_fix
       · intro vs iv w' hw hf
         have hc := hS.out w' hw
         unfold okAt2
         go_simp
         first | exact ⟨rfl, PW.refl _ _⟩ | exact rfl
       · intro vs; go_simp; rfl)
      (apply relW2_any ((SV.cd D).w)
       · intro vs iv w' hw hf
         have hc := hS.out w' hw
         have hw : Ext w1 w' := hw
         unfold okAt2
         go_simp
         refine ⟨Ext.refl _, ?_⟩; go_at_call 26; refine (copy_dv2 A P c p D w' (HD1.out.a.ext hw) (HD1.out.p.ext hw) Hsm.out).mono ?_; rintro e w5 ⟨A', c', P', p', rfl, h1, h2, h3⟩; exact ⟨_, rfl, ⟨A', P', c', p', rfl, h2, h3⟩, h1⟩
       · intro vs; go_simp; rfl)
      (apply relW2_fix
       · intro vs iv w' hw hf
         have hc := hS.out w' hw
         unfold okAt2
         go_simp
         first | exact ⟨rfl, PW.refl _ _⟩ | exact rfl
       · intro vs; go_simp; rfl)
      (apply relW2_any ((SV.cd E).w)
       · intro vs iv w' hw hf
         have hc := hS.out w' hw
         have hw : Ext w1 w' := hw
         unfold okAt2
         go_simp
         refine ⟨Ext.refl _, ?_⟩; go_at_call 26; refine (copy_dv2 A2 P2 c2 p2 E w' (HX1.out.a.ext hw) (HX1.out.p.ext hw) Hsm2.out).mono ?_; rintro e w5 ⟨A', c', P', p', rfl, h1, h2, h3⟩; exact ⟨_, rfl, ⟨A', P', c', p', rfl, h2, h3⟩, h1⟩
       · intro vs; go_simp; rfl)
      (apply relW2_any (SW.aln w1.heap.size #[.slice none 0 0, .slice none 0 0] 25)
       · intro vs iv w' hw hf
         have hc := hS.out w' hw
         have hw : Ext w1 w' := hw
         unfold okAt2
         go_simp
         exact ⟨⟨_, rfl, Bk.new _ _ _, hw.size, Nat.le_refl _, (by simp)⟩, (Ext.refl _).alloc _⟩
       · intro vs; go_simp; rfl)
      (apply relW2_any (SW.aln w1.heap.size #[.slice none 0 0, .slice none 0 0] 25)
       · intro vs iv w' hw hf
         have hc := hS.out w' hw
         have hw : Ext w1 w' := hw
         unfold okAt2
         go_simp
         exact ⟨⟨_, rfl, Bk.new _ _ _, hw.size, Nat.le_refl _, (by simp)⟩, (Ext.refl _).alloc _⟩
       · intro vs; go_simp; rfl)
      refine relW2_nil fun vs iv w2 hw hf hap => ?_
      obtain ⟨⟨b6, e6, kb6, hb6, hl6⟩, ⟨b5, e5, kb5, hb5, hl5⟩, ⟨C, Cp, cc, cp, e3, hC, hCp⟩, ⟨B, Q, cb, cq, e1, hB, hQ⟩, -⟩ := hf
      have hE2 : Ext w1 w2 := hw
      have hap := hap 4 5 (by omega) (by omega) (by omega)
      have hl5 : (iv 4).1 ≤ b5 ∧ b5 < (iv 4).2 := hl5
      have hl6 : (iv 5).1 ≤ b6 ∧ b6 < (iv 5).2 := hl6
      have hne : b5 ≠ b6 := by omega
      have hne' := hne.symm
      have g0 := kb5.cell 0
      have g1 := kb5.cell 1
      have g2 := kb6.cell 0
      have g3 := kb6.cell 1
      have g4 := kb5.frozen 0
      have g5 := kb5.frozen 1
      have g6 := kb6.frozen 0
      have g7 := kb6.frozen 1
      simp at g0 g1 g2 g3
      clear hS HD HX hap hl5 hl6
      go_upto_region 4 with fail
      obtain ⟨V, hV, hVb, kb, kc, hoff⟩ := two_boxes2 (B := w1.heap.size) kb5 kb6 hne hb5 hb6 (.slice B D.bytes.length cb) (.slice Q D.pend.length cq) (.slice C E.bytes.length cc) (.slice Cp E.pend.length cp)
      rw [hV]; clear hV
      have hEV : Ext w1 V := Below.trans hE2 hVb
      have HB : Hid (DBx V b5 B Q cb cq D) := ⟨kb, hB.off kb5 kb6 clean_disk clean_disk hoff, (hQ.off kb5 kb6 clean_disk clean_disk hoff).ws⟩
      have HC : Hid (DBx V b6 C Cp cc cp E) := ⟨kc, hC.off kb5 kb6 clean_disk clean_disk hoff, (hCp.off kb5 kb6 clean_disk clean_disk hoff).ws⟩
      have HDV := Lib.hid (HD1.out.ext hEV)
      have HXV := Lib.hid (HX1.out.ext hEV)
      have Hq := Lib.hid (HE.out.trans hEV)
      clear HE
      have HE := Hq
      clear Hq
      clear hE2 hne hne' g0 g1 g2 g3 g4 g5 g6 g7 hVb kb kc hoff hEV hB hQ hC hCp kb5 kb6 hb5 hb6 hw HD1 HX1 hc hd e1 e3 e5 e6
      have hc := HB.out.cells
      have hd := HC.out.cells
      go_wp2_with fail
      refine (dDiffer_any B Q C Cp cb cq cc cp D E V HB.out.a HB.out.p HC.out.a HC.out.p Hsm.out Hsm2.out).mono ?_
      rintro e w3 ⟨L1, lc1, rfl, hE3, hL1⟩
      clear hc hd
      have Hq := Lib.hid (HB.out.ext hE3)
      clear HB
      have HB := Hq
      clear Hq
      have Hq := Lib.hid (HC.out.ext hE3)
      clear HC
      have HC := Hq
      clear Hq
      have Hq := Lib.hid (HDV.out.ext hE3)
      clear HDV
      have HDV := Hq
      clear Hq
      have Hq := Lib.hid (HXV.out.ext hE3)
      clear HXV
      have HXV := Hq
      clear Hq
      have Hq := Lib.hid (HE.out.trans hE3)
      clear HE
      have HE := Hq
      clear Hq
      have HL1 := Lib.hid hL1
      clear hE3 hL1
      have hc := HDV.out.cells
      have hd := HXV.out.cells
      go_wp2_with fail
      refine (rDiffer_any A P A2 P2 c p c2 p2 D E w3 HDV.out.a HDV.out.p HXV.out.a HXV.out.p Hsm.out Hsm2.out).mono ?_
      rintro e w5 ⟨L2, lc2, rfl, hE5, hL2⟩
      clear hc hd
      have Hq := Lib.hid (HB.out.ext hE5)
      clear HB
      have HB := Hq
      clear Hq
      have Hq := Lib.hid (HC.out.ext hE5)
      clear HC
      have HC := Hq
      clear Hq
      have Hq := Lib.hid (HDV.out.ext hE5)
      clear HDV
      have HDV := Hq
      clear Hq
      have Hq := Lib.hid (HXV.out.ext hE5)
      clear HXV
      have HXV := Hq
      clear Hq
      have Hq := Lib.hid (HL1.out.ext hE5)
      clear HL1
      have HL1 := Hq
      clear Hq
      have Hq := Lib.hid (HE.out.trans hE5)
      clear HE
      have HE := Hq
      clear Hq
      have HL2 := Lib.hid hL2
      clear hE5 hL2
      have hlen : Hid ((pDifL D E).length ≤ 1000000) := by
        show _ ≤ _
        unfold pDifL
        split
        · have h1 := List.length_filter_le (difB D E) (List.range (D.bytes.length / 32))
          have h2 := Hsm.out.1
          simp at h1
          omega
        · simp
      obtain ⟨L, hL⟩ : ∃ L : List Int, (pDifL D E).map (fun n : Nat => (n : Int)) = L := ⟨_, rfl⟩
      have hLl : (pDifL D E).length = L.length := by rw [← hL]; simp
      rw [hL] at HL1 HL2
      have HLl := Lib.hid hLl
      rw [hLl]
      rw [hLl] at hlen
      clear hL hLl
      go_wp2_with fail
      refine (ints_any L1 L2 lc1 lc2 L L w5 HL1.out HL2.out hlen.out hlen.out).mono ?_
      rintro e w7 ⟨rfl, hE7⟩
      have Hq := Lib.hid (HB.out.ext hE7)
      clear HB
      have HB := Hq
      clear Hq
      have Hq := Lib.hid (HC.out.ext hE7)
      clear HC
      have HC := Hq
      clear Hq
      have Hq := Lib.hid (HDV.out.ext hE7)
      clear HDV
      have HDV := Hq
      clear Hq
      have Hq := Lib.hid (HXV.out.ext hE7)
      clear HXV
      have HXV := Hq
      clear Hq
      have Hq := Lib.hid (HE.out.trans hE7)
      clear HE
      have HE := Hq
      clear Hq
      clear hE7 HL1 HL2
      have hb := HB.out.cells
      have hd := HDV.out.cells
      simp only [decide_true]
      go_wp2_with fail
      refine (same_any B Q A P cb cq c p D D w7 HB.out.a HB.out.p HDV.out.a HDV.out.p (by have := Hsm.out.2.1; omega)).mono ?_
      rintro e w9 ⟨rfl, hE10⟩
      have Hq := Lib.hid (HC.out.ext hE10)
      clear HC
      have HC := Hq
      clear Hq
      have Hq := Lib.hid (HXV.out.ext hE10)
      clear HXV
      have HXV := Hq
      clear Hq
      have Hq := Lib.hid (HE.out.trans hE10)
      clear HE
      have HE := Hq
      clear Hq
      clear hE10 HB HDV hb hd
      have hb := HC.out.cells
      have hd := HXV.out.cells
      simp only [decide_true]
      go_wp2_with fail
      refine (same_any C Cp A2 P2 cc cp c2 p2 E E w9 HC.out.a HC.out.p HXV.out.a HXV.out.p (by have := Hsm2.out.2.1; omega)).mono ?_
      rintro e w10 ⟨rfl, hE11⟩
      have Hq := Lib.hid (HE.out.trans hE11)
      clear HE
      have HE := Hq
      clear Hq
      clear hE11 HC HXV hb hd
      simp only [decide_true]
      go_wp2_with fail
      refine (awake_any _).mono ?_
      rintro e w4 ⟨rfl, hE6⟩
      have HE' := Lib.hid (HE.out.trans hE6)
      clear hE6
      go_wp2_with fail
      go_ret
      exact ⟨rfl, HE'.out⟩
    · rw [show pThin E = false by simpa using ht]
      clear ht
      go_wp2_with fail
      refine (awake_any _).mono ?_
      rintro e w4 ⟨rfl, hE6⟩
      have HE' := Lib.hid (HE.out.trans hE6)
      clear hE6
      go_wp2_with fail
      go_ret
      exact ⟨rfl, HE'.out⟩
  · rw [show pThin D = false by simpa using ht]
    clear ht
    go_wp2_with fail
    refine (awake_any _).mono ?_
    rintro e w4 ⟨rfl, hE6⟩
    have HE' := Lib.hid (HE.out.trans hE6)
    clear hE6
    go_wp2_with fail
    go_ret
    exact ⟨rfl, HE'.out⟩
end Go.Proofs.Ytdlalmbnkcadfaa
