/- device: Differ. -/
import Derived.Test.YtdlalmbnkcadfaaN07
namespace Go.Proofs.Ytdlalmbnkcadfaa
open Go.RowKit

theorem PO.box {w W : World} {B g : Nat} {Pv : Value} {qs : List Rec} (h : PO w B [g] Pv qs) (hE : Ext w W) : PO W B [g, w.heap.size] Pv qs :=
  ⟨ownsRow_ext h.own hE, fun q hq => by
    obtain ⟨q1, q2, q3⟩ := h.one q hq
    refine ⟨q1, q2.ext hE, fun a ha => ?_⟩
    obtain ⟨a1, a2, a3, a4⟩ := q3 a ha
    refine ⟨a1, Nat.lt_of_lt_of_le a2 hE.size, fun x hx => ?_, a4⟩
    simp only [List.mem_cons, List.not_mem_nil, or_false] at hx
    rcases hx with rfl | rfl
    · exact a3 _ (by simp)
    · omega⟩
theorem OB.below {w w' : World} {g c B : Nat} {bs : BL} (h : OB w g c bs) (e : Below B w w') (hg : g < B) : OB w' g c bs := by
  obtain ⟨m, hm, hb⟩ := h
  exact ⟨m, hm, hb.below e hg⟩
theorem OB.hi {w w' : World} {g c B : Nat} {bs : BL} (h : OB w g c bs) (e : Hi B w w') (hg : B ≤ g) : OB w' g c bs := by
  obtain ⟨m, hm, hb⟩ := h
  exact ⟨m, hm, hb.hi hg e⟩
theorem blk_eq (bs : BL) (k : Nat) : blkN bs k = (bs.drop (k * 32)).take 32 := by unfold blkN; rw [Nat.mul_comm]
set_option maxRecDepth 100000 in
set_option maxHeartbeats 8000000 in
theorem dDiffer_any (A P A' P' : Option Addr) (c p c' p' : Nat) (D E : Dk) (w : World) (hA : By w A D.bytes) (hP : Ws w P D.pend) (hA' : By w A' E.bytes) (hP' : Ws w P' E.pend) (hsm : Small D) (hsm' : Small E) :
    Calls Try.prog 49 #[.agg #[.slice A D.bytes.length c, .slice P D.pend.length p], .agg #[.slice A' E.bytes.length c', .slice P' E.pend.length p']] w (RetI w (pDifE D E) (pDifL D E)) := by
  obtain ⟨W, hW, hE, hz, k0, k1⟩ := box2 w #[.slice A D.bytes.length c, .slice P D.pend.length p] #[.slice A' E.bytes.length c', .slice P' E.pend.length p'] 25 25
  have HA1 := Lib.hid (hA'.ext hE)
  have HP1 := Lib.hid (hP'.ext hE)
  have hA := hA.ext hE
  have hP := hP.ext hE
  have d0 := k0.cell 0
  have d1 := k0.cell 1
  simp at d0 d1
  have HK1 := Lib.hid k1
  have Hz := Lib.hid hE.size
  have HE := Lib.hid hE
  have Hsm := Lib.hid hsm
  have Hsm' := Lib.hid hsm'
  clear hE hz k0 k1 hA' hP' hsm hsm'
  go_enter Try.func49, Try.ntmps49
  go_wp2_with fail
  refine (open_any A P c p D W hA hP Hsm.out).mono ?_
  rintro e w1 ⟨v, rfl, hE1, h2, h3⟩
  clear hW d0 d1 hA hP
  have Hq := Lib.hid (HA1.out.ext hE1)
  clear HA1
  have HA1 := Hq
  clear Hq
  have Hq := Lib.hid (HP1.out.ext hE1)
  clear HP1
  have HP1 := Hq
  clear Hq
  have Hq := Lib.hid (HK1.out.ext hE1)
  clear HK1
  have HK1 := Hq
  clear Hq
  have Hq := Lib.hid (HE.out.trans hE1)
  clear HE
  have HE := Hq
  clear Hq
  by_cases h1 : pCheck D = 0
  · obtain ⟨g1, c1, Pv1, qs1, rfl, hB1, hc1, hOB1, hPO1, hm1⟩ := h2 h1
    obtain ⟨PA1, pc1, rfl, _⟩ := hPO1.form
    obtain ⟨V1, hV1, hEV1, hzV1, kx⟩ := box1 w1 #[.slice (some ⟨g1, 0, none⟩) D.bytes.length c1, .slice PA1 qs1.length pc1] 84
    have hg1 : g1 < w1.heap.size := hOB1.lt
    have HO1 := Lib.hid (hOB1.ext hEV1)
    have HQ1 := Lib.hid (hPO1.box hEV1)
    have HX := Lib.hid kx
    have Hm1 := Lib.hid hm1
    have Hb : Hid (W.heap.size ≤ w1.heap.size ∧ W.heap.size ≤ g1 ∧ g1 < V1.heap.size ∧ w1.heap.size < V1.heap.size ∧ D.bytes.length ≤ c1) := ⟨hE1.size, hB1, by have := hzV1.out; omega, by have := hzV1.out; omega, hc1⟩
    have Hq := Lib.hid (HA1.out.ext hEV1)
    clear HA1
    have HA1 := Hq
    clear Hq
    have Hq := Lib.hid (HP1.out.ext hEV1)
    clear HP1
    have HP1 := Hq
    clear Hq
    have Hq := Lib.hid (HK1.out.ext hEV1)
    clear HK1
    have HK1 := Hq
    clear Hq
    have Hq := Lib.hid (HE.out.trans hEV1)
    clear HE
    have HE := Hq
    clear Hq
    have d0 := HK1.out.cell 0
    have d1 := HK1.out.cell 1
    simp at d0 d1
    clear hE1 h2 h3 hB1 hc1 hOB1 hPO1 hm1 kx hg1 hzV1 hEV1
    rw [h1]
    go_wp2_with fail
    clear hV1 d0 d1
    refine (open_any A' P' c' p' E V1 HA1.out HP1.out Hsm'.out).mono ?_
    rintro e w2 ⟨v, rfl, hE2, h2, h3⟩
    clear HA1 HP1 HK1
    have Hq := Lib.hid (HO1.out.ext hE2)
    clear HO1
    have HO1 := Hq
    clear Hq
    have Hq := Lib.hid (HQ1.out.ext hE2)
    clear HQ1
    have HQ1 := Hq
    clear Hq
    have Hq := Lib.hid (HX.out.ext hE2)
    clear HX
    have HX := Hq
    clear Hq
    have Hq := Lib.hid (HE.out.trans hE2)
    clear HE
    have HE := Hq
    clear Hq
    by_cases h4 : pCheck E = 0
    · obtain ⟨g2, c2, Pv2, qs2, rfl, hB2, hc2, hOB2, hPO2, hm2⟩ := h2 h4
      obtain ⟨PA2, pc2, rfl, _⟩ := hPO2.form
      obtain ⟨V2, hV2, hEV2, hzV2, ky⟩ := box1 w2 #[.slice (some ⟨g2, 0, none⟩) E.bytes.length c2, .slice PA2 qs2.length pc2] 84
      have HO2 := Lib.hid (hOB2.ext hEV2)
      have HQ2 := Lib.hid (hPO2.box hEV2)
      have HY := Lib.hid ky
      have Hm2 := Lib.hid hm2
      have Hb2 : Hid (V1.heap.size ≤ w2.heap.size ∧ V1.heap.size ≤ g2 ∧ E.bytes.length ≤ c2) := ⟨hE2.size, hB2, hc2⟩
      have Hq := Lib.hid (HO1.out.ext hEV2)
      clear HO1
      have HO1 := Hq
      clear Hq
      have Hq := Lib.hid (HQ1.out.ext hEV2)
      clear HQ1
      have HQ1 := Hq
      clear Hq
      have Hq := Lib.hid (HX.out.ext hEV2)
      clear HX
      have HX := Hq
      clear Hq
      have Hq := Lib.hid (HE.out.trans hEV2)
      clear HE
      have HE := Hq
      clear Hq
      obtain ⟨hr0, hr1, hr2, hr3, hr4⟩ := pCheck_ok h1
      obtain ⟨hs0, hs1, hs2, hs3, hs4⟩ := pCheck_ok h4
      have Hok := Lib.hid hr4
      have Hok' := Lib.hid hs4
      have hs1' := Hsm.out.1
      have hs2' := Hsm'.out.1
      clear hE2 h2 h3 hB2 hc2 hOB2 hPO2 hm2 ky hEV2 hzV2
      rw [h4]
      go_wp2_with fail
      clear hV2
      have hS := Lib.hid (fun w' (h : Ext V2 w') => (⟨h, (HX.out.ext h).cell 0, (HX.out.ext h).cell 1, (HY.out.ext h).cell 0, (HY.out.ext h).cell 1⟩ : Ext V2 w' ∧ w'.cell? ⟨w1.heap.size, 0, none⟩ = some (.slice (some ⟨g1, 0, none⟩) D.bytes.length c1) ∧ w'.cell? ⟨w1.heap.size, 1, none⟩ = some (.slice PA1 qs1.length pc1) ∧ w'.cell? ⟨w2.heap.size, 0, none⟩ = some (.slice (some ⟨g2, 0, none⟩) E.bytes.length c2) ∧ w'.cell? ⟨w2.heap.size, 1, none⟩ = some (.slice PA2 qs2.length pc2)))
      refine wp_region_rel 3 (by kernel_rfl) (by kernel_rfl) (Ext.refl V2).drew ?_
      (apply relW_fix
       · intro vs w' hw hf
         have hc := hS.out w' hw
         unfold okAt
         go_simp
         first | exact ⟨rfl, Ext.refl _⟩ | exact rfl
       · intro vs; go_simp; rfl)
      (apply relW_fix
       · intro vs w' hw hf
         have hc := hS.out w' hw
         skip
         unfold okAt
         go_simp
         refine ⟨Ext.refl _, ?_⟩
         go_at_call 63
         refine (blocks_any _ _ D.bytes.length c1 _ _ w' (by omega)).mono ?_; rintro e w5 ⟨rfl, hb⟩; exact ⟨_, rfl, rfl, hb⟩
       · intro vs; go_simp; rfl)
      (apply relW_fix
       · intro vs w' hw hf
         have hc := hS.out w' hw
         unfold okAt
         go_simp
         first | exact ⟨rfl, Ext.refl _⟩ | exact rfl
       · intro vs; go_simp; rfl)
      refine relW_nil fun vs w3 hw hf => ?_
      clear hS hf
      have Hq := Lib.hid (HO1.out.ext hw)
      clear HO1
      have HO1 := Hq
      clear Hq
      have Hq := Lib.hid (HQ1.out.ext hw)
      clear HQ1
      have HQ1 := Hq
      clear Hq
      have Hq := Lib.hid (HX.out.ext hw)
      clear HX
      have HX := Hq
      clear Hq
      have Hq := Lib.hid (HO2.out.ext hw)
      clear HO2
      have HO2 := Hq
      clear Hq
      have Hq := Lib.hid (HQ2.out.ext hw)
      clear HQ2
      have HQ2 := Hq
      clear Hq
      have Hq := Lib.hid (HY.out.ext hw)
      clear HY
      have HY := Hq
      clear Hq
      have Hq := Lib.hid (HE.out.trans hw)
      clear HE
      have HE := Hq
      clear Hq
      clear hw
      go_wp2_with fail
      refine (blocks_any _ _ E.bytes.length c2 _ _ w3 (by omega)).mono ?_
      rintro e w4 ⟨rfl, hE4⟩
      have Hq := Lib.hid (HO1.out.ext hE4)
      clear HO1
      have HO1 := Hq
      clear Hq
      have Hq := Lib.hid (HQ1.out.ext hE4)
      clear HQ1
      have HQ1 := Hq
      clear Hq
      have Hq := Lib.hid (HX.out.ext hE4)
      clear HX
      have HX := Hq
      clear Hq
      have Hq := Lib.hid (HO2.out.ext hE4)
      clear HO2
      have HO2 := Hq
      clear Hq
      have Hq := Lib.hid (HQ2.out.ext hE4)
      clear HQ2
      have HQ2 := Hq
      clear Hq
      have Hq := Lib.hid (HY.out.ext hE4)
      clear HY
      have HY := Hq
      clear Hq
      have Hq := Lib.hid (HE.out.trans hE4)
      clear HE
      have HE := Hq
      clear Hq
      have hsz4 : V1.heap.size ≤ w4.heap.size := by have := Hb2.out.1; have := HY.out.lt; omega
      clear hE4
      by_cases h5 : D.bytes.length = E.bytes.length
      · have hr : Hid (pDifE D E = 0) := by show _ = _; unfold pDifE; simp [h1, h4, h5]
        have hl : Hid (pDifL D E = (List.range (D.bytes.length / 32)).filter (difB D E)) := by show _ = _; unfold pDifL; rw [if_pos hr.out]
        have t3 : (((D.bytes.length / 32 : Nat) : Int) != ((E.bytes.length / 32 : Nat) : Int)) = false := by simp [h5]
        have Hl := Lib.hid (pFl_length (D.bytes.length / 32) D.pend D.bytes (by omega) hr4)
        have Hl' := Lib.hid (pFl_length (E.bytes.length / 32) E.pend E.bytes (by omega) hs4)
        have H5 := Lib.hid h5
        have H32 : Hid (D.bytes.length % 32 = 0) := hr0
        have Hz4 := Lib.hid hsz4
        clear h1 h4 h5 hr0 hr1 hr2 hr3 hr4 hs0 hs1 hs2 hs3 hs4 hsz4 hs1' hs2'
        go_wp2_with fail
        refine (flush_fr w1.heap.size g1 c1 W.heap.size (.slice PA1 qs1.length pc1) qs1 D.bytes w4 HX.out HO1.out HQ1.out Hb.out.1 Hb.out.2.1 (by have := Hb.out; have := Hz4.out; omega) Hsm.out.1 (by have := Hsm.out.2.1; have := congrArg List.length Hm1.out; simp at this; omega) (fun q hq => Hok.out q.1 (by rw [← Hm1.out]; exact List.mem_map_of_mem hq))).mono ?_
        rintro e w5 ⟨rfl, hb5, hx5, ho5, hf5⟩
        have hi5 : Hi V1.heap.size w4 w5 := ⟨hb5.size, fun k h1 h2 => hf5 k h2 (by have := Hb.out; omega) (by have := Hb.out; omega)⟩
        rw [Hm1.out] at ho5
        have hO2 := HO2.out.hi hi5 Hb2.out.2.1
        have hQ2 := HQ2.out.hi hi5
        have hY := HY.out.hi Hb2.out.1 hi5
        have HE5 : Hid (Ext w w5) := Below.trans HE.out (Below.mono hb5 Hz.out)
        have Hz5 := Lib.hid hb5.size
        clear HO1 HQ1 HX HO2 HQ2 HY HE hf5 hb5 hi5
        go_wp2_with fail
        refine (flush_fr w2.heap.size g2 c2 V1.heap.size (.slice PA2 qs2.length pc2) qs2 E.bytes w5 hY hO2 hQ2 Hb2.out.1 Hb2.out.2.1 (by have := Hz4.out; have := Hz5.out; omega) Hsm'.out.1 (by have := Hsm'.out.2.1; have := congrArg List.length Hm2.out; simp at this; omega) (fun q hq => Hok'.out q.1 (by rw [← Hm2.out]; exact List.mem_map_of_mem hq))).mono ?_
        rintro e w6 ⟨rfl, hb6, hy6, ho6, hf6⟩
        rw [Hm2.out] at ho6
        have HE6 : Hid (Ext w w6) := Below.trans HE5.out (Below.mono hb6 (by have := Hz.out; have := Hb.out; omega))
        have HX := Lib.hid (hx5.below hb6 (by have := Hb.out; omega))
        have HO := Lib.hid (ho5.below hb6 (by have := Hb.out; omega))
        have HY := Lib.hid hy6
        have HO2 := Lib.hid ho6
        clear hx5 ho5 hy6 ho6 hf6 hb6 hO2 hQ2 hY HE5
        have d0 := HX.out.cell 0
        have d1 := HX.out.cell 1
        simp at d0 d1
        go_wp2_with fail
        have hs1' := Hsm.out.1
        refine (blocks_any _ _ D.bytes.length c1 _ _ w6 (by omega)).mono ?_
        rintro e w7 ⟨rfl, hE7⟩
        have KX := Lib.hid (HX.out.ext hE7)
        have KY := Lib.hid (HY.out.ext hE7)
        have OX := Lib.hid (HO.out.ext hE7)
        have OY := Lib.hid (HO2.out.ext hE7)
        have HE := Lib.hid (HE6.out.trans hE7)
        clear HX HY HO HO2 HE6 hE7 d0 d1
        obtain ⟨nb, hnb⟩ : ∃ nb, nb = D.bytes.length / 32 := ⟨_, rfl⟩
        have Hnb := Lib.hid hnb
        have Hx' : Hid (nb * 32 = D.bytes.length ∧ nb * 32 = E.bytes.length ∧ nb ≤ 100000 ∧ D.bytes.length ≤ c1 ∧ E.bytes.length ≤ c2 ∧ D.bytes.length ≤ 100000) := by have := H5.out; have := H32.out; have := Hb.out; have := Hb2.out; exact ⟨by omega, by omega, by omega, by omega, by omega, by omega⟩
        rw [← hnb]
        rw [← hnb] at hl
        obtain ⟨x1, hx1⟩ : ∃ x, x = w1.heap.size := ⟨_, rfl⟩
        obtain ⟨x2, hx2⟩ : ∃ x, x = w2.heap.size := ⟨_, rfl⟩
        rw [← hx1] at KX ⊢
        rw [← hx2] at KY ⊢
        obtain ⟨i0, hi0, hz0, hz1, hz2⟩ := info_parts info_int
        clear hnb t3 hs1' hx1 hx2 Hb Hb2
        go_wp2_with fail
        go_loopw [9, 38] (fun vo vi wr => ∃ k : Nat, k ≤ nb ∧ vi = .int .i64 k ∧ Ext w7 wr ∧ RI wr w7.heap.size vo ((List.range k).filter (difB D E))) (fun _ vi _ => nb - (intOf vi).toNat)
        case atStart => exact ⟨0, Nat.zero_le _, rfl, Ext.refl _, World.ownsRow_nil _ _ _ _⟩
        case round =>
          obtain ⟨k, hk, rfl, hEr, hRI⟩ := hrel
          have HRI := Lib.hid hRI
          clear hRI
          by_cases hlt : k < nb
          · have hkk := Hx'.out
            have hk9 : (k : Int) ≤ 100000 := by omega
            by_cases hd : difB D E k = true
            · have t4 : (blkN (pFl D.bytes D.pend) k == blkN (pFl E.bytes E.pend) k) = false := by unfold difB at hd; simpa using hd
              have hst : Hid ((List.range (k + 1)).filter (difB D E) = (List.range k).filter (difB D E) ++ [k]) := by show _ = _; rw [List.range_succ, List.filter_append]; simp [hd]
              clear hd
              have hS := Lib.hid (fun w' (h : Ext wr w') => (⟨h, (KX.out.ext (hEr.trans h)).cell 0, (KX.out.ext (hEr.trans h)).cell 1, (KY.out.ext (hEr.trans h)).cell 0, (KY.out.ext (hEr.trans h)).cell 1⟩ : Ext wr w' ∧ w'.cell? ⟨x1, 0, none⟩ = some (.slice (some ⟨g1, 0, none⟩) D.bytes.length c1) ∧ w'.cell? ⟨x1, 1, none⟩ = some (.slice none 0 0) ∧ w'.cell? ⟨x2, 0, none⟩ = some (.slice (some ⟨g2, 0, none⟩) E.bytes.length c2) ∧ w'.cell? ⟨x2, 1, none⟩ = some (.slice none 0 0)))
              go_wp2_with fail
              refine wp_region_rel 5 (by kernel_rfl) (by kernel_rfl) (Ext.refl wr).drew ?_
              (apply relW_fix
               · intro vs w' hw hf
                 have hc := hS.out w' hw
                 unfold okAt
                 go_simp
                 first | exact ⟨rfl, Ext.refl _⟩ | exact rfl
               · intro vs; go_simp; rfl)
              (apply relW_fix
               · intro vs w' hw hf
                 have hc := hS.out w' hw
                 unfold okAt
                 go_simp
                 first | exact ⟨rfl, Ext.refl _⟩ | exact rfl
               · intro vs; go_simp; rfl)
              (apply relW_fix
               · intro vs w' hw hf
                 have hc := hS.out w' hw
                 skip
                 unfold okAt
                 go_simp
                 refine ⟨Ext.refl _, ?_⟩
                 go_at_call 64
                 refine (block_any g1 0 D.bytes.length c1 _ k w' (by omega) (by omega) (by omega)).mono ?_; rintro e w5 ⟨rfl, hb⟩; exact ⟨_, rfl, rfl, hb⟩
               · intro vs; go_simp; rfl)
              (apply relW_fix
               · intro vs w' hw hf
                 have hc := hS.out w' hw
                 unfold okAt
                 go_simp
                 first | exact ⟨rfl, Ext.refl _⟩ | exact rfl
               · intro vs; go_simp; rfl)
              (apply relW_fix
               · intro vs w' hw hf
                 have hc := hS.out w' hw
                 unfold okAt
                 go_simp
                 first | exact ⟨rfl, Ext.refl _⟩ | exact rfl
               · intro vs; go_simp; rfl)
              refine relW_nil fun vs w8 hw hf => ?_
              go_wp2_with fail
              refine (block_any g2 0 E.bytes.length c2 _ k w8 (by omega) (by omega) (by omega)).mono ?_
              rintro e w9 ⟨rfl, hE9⟩
              have HE9 := Lib.hid ((hEr.trans hw).trans hE9)
              have HR9 := Lib.hid ((HRI.out.ext hw).ext hE9)
              clear hw hf hE9 hS
              go_wp2_with fail
              refine (bytesEq_any (xs := blkN (pFl D.bytes D.pend) k) (ys := blkN (pFl E.bytes E.pend) k) _ _ _ _ (by rw [blk_eq]; simp; have := Hl.out; omega) (by rw [blk_eq]; simp; have := Hl'.out; omega) ?_ ?_).mono ?_
              · rw [blk_eq]; exact ((OX.out.ext HE9.out).sub (k * 32) 32 (by have := Hl.out; omega))
              · rw [blk_eq]; exact ((OY.out.ext HE9.out).sub (k * 32) 32 (by have := Hl'.out; omega))
              rintro e w10 ⟨rfl, rfl⟩
              rw [t4]
              have hxl : ((List.range k).filter (difB D E)).length ≤ 100000 := by
                have h1 := List.length_filter_le (difB D E) (List.range k)
                simp at h1
                omega
              generalize (List.range k).filter (difB D E) = xs at *
              have hE2 : Ext w9 (w9.alloc (.cells #[.int .i64 (k : Int)] 3)) := (Ext.refl w9).alloc _
              have hsz := HE9.out.size
              clear hkk
              go_wp2_with (first
                | (at_builtin
                   refine wpList_append_lies (P := Try.prog) _ rfl _ _ 32 rfl w7.heap.size 3 i0 _ 1 8 Try.underlying32 hi0 hz0 hz1 hz2 (by rfl) (by omega) _ xs.length (ncells xs) (by rfl) (HR9.out.ext hE2) ⟨w9.heap.size, 0, none⟩ 1 1 [.int .i64 (k : Int)] ?e1 (by rfl) ?e2 ?e3 (by omega) ?e4 ?e5 ?e6 _ rfl ?e7)
                | fail)
              case e1 => rfl
              case e2 => exact World.news_of_block (cs := #[.int .i64 (k : Int)]) (Bk.new _ _ _)
              case e3 => intro u hu; simp at hu; subst hu; rfl
              case e4 => simp only [maxLen]; omega
              case e5 => omega
              case e6 => simp; omega
              case e7 =>
                intro g cap w11 hown hgrow hat hlt7
                have hE7 := Lib.hid (Below.grown (HE9.out.trans hE2) hgrow (by simp; omega) (fun x hx => (HR9.out.lt x hx).1))
                have hR7 : Hid (RI w11 w7.heap.size (.slice (some ⟨g, 0, none⟩) (xs.length + 1) cap) (xs ++ [k])) := by
                  have e : ncells (xs ++ [k]) = ncells xs ++ [.int .i64 (k : Int)] := by simp
                  show World.ownsRow _ _ _ _ _ _ _
                  rw [e]
                  simpa using hown
                clear hown hgrow hat hE2 hsz
                go_wp2
                go_roundw
                case rel => exact ⟨k + 1, by omega, by go_num, hE7.out, by rw [hst.out]; exact hR7.out⟩
                case measure => simp [intOf]; omega
            · have t4 : (blkN (pFl D.bytes D.pend) k == blkN (pFl E.bytes E.pend) k) = true := by unfold difB at hd; simpa using hd
              have hst : Hid ((List.range (k + 1)).filter (difB D E) = (List.range k).filter (difB D E)) := by show _ = _; rw [List.range_succ, List.filter_append]; simp [hd]
              clear hd
              have hS := Lib.hid (fun w' (h : Ext wr w') => (⟨h, (KX.out.ext (hEr.trans h)).cell 0, (KX.out.ext (hEr.trans h)).cell 1, (KY.out.ext (hEr.trans h)).cell 0, (KY.out.ext (hEr.trans h)).cell 1⟩ : Ext wr w' ∧ w'.cell? ⟨x1, 0, none⟩ = some (.slice (some ⟨g1, 0, none⟩) D.bytes.length c1) ∧ w'.cell? ⟨x1, 1, none⟩ = some (.slice none 0 0) ∧ w'.cell? ⟨x2, 0, none⟩ = some (.slice (some ⟨g2, 0, none⟩) E.bytes.length c2) ∧ w'.cell? ⟨x2, 1, none⟩ = some (.slice none 0 0)))
              go_wp2_with fail
              refine wp_region_rel 5 (by kernel_rfl) (by kernel_rfl) (Ext.refl wr).drew ?_
              (apply relW_fix
               · intro vs w' hw hf
                 have hc := hS.out w' hw
                 unfold okAt
                 go_simp
                 first | exact ⟨rfl, Ext.refl _⟩ | exact rfl
               · intro vs; go_simp; rfl)
              (apply relW_fix
               · intro vs w' hw hf
                 have hc := hS.out w' hw
                 unfold okAt
                 go_simp
                 first | exact ⟨rfl, Ext.refl _⟩ | exact rfl
               · intro vs; go_simp; rfl)
              (apply relW_fix
               · intro vs w' hw hf
                 have hc := hS.out w' hw
                 skip
                 unfold okAt
                 go_simp
                 refine ⟨Ext.refl _, ?_⟩
                 go_at_call 64
                 refine (block_any g1 0 D.bytes.length c1 _ k w' (by omega) (by omega) (by omega)).mono ?_; rintro e w5 ⟨rfl, hb⟩; exact ⟨_, rfl, rfl, hb⟩
               · intro vs; go_simp; rfl)
              (apply relW_fix
               · intro vs w' hw hf
                 have hc := hS.out w' hw
                 unfold okAt
                 go_simp
                 first | exact ⟨rfl, Ext.refl _⟩ | exact rfl
               · intro vs; go_simp; rfl)
              (apply relW_fix
               · intro vs w' hw hf
                 have hc := hS.out w' hw
                 unfold okAt
                 go_simp
                 first | exact ⟨rfl, Ext.refl _⟩ | exact rfl
               · intro vs; go_simp; rfl)
              refine relW_nil fun vs w8 hw hf => ?_
              go_wp2_with fail
              refine (block_any g2 0 E.bytes.length c2 _ k w8 (by omega) (by omega) (by omega)).mono ?_
              rintro e w9 ⟨rfl, hE9⟩
              have HE9 := Lib.hid ((hEr.trans hw).trans hE9)
              have HR9 := Lib.hid ((HRI.out.ext hw).ext hE9)
              clear hw hf hE9 hS
              go_wp2_with fail
              refine (bytesEq_any (xs := blkN (pFl D.bytes D.pend) k) (ys := blkN (pFl E.bytes E.pend) k) _ _ _ _ (by rw [blk_eq]; simp; have := Hl.out; omega) (by rw [blk_eq]; simp; have := Hl'.out; omega) ?_ ?_).mono ?_
              · rw [blk_eq]; exact ((OX.out.ext HE9.out).sub (k * 32) 32 (by have := Hl.out; omega))
              · rw [blk_eq]; exact ((OY.out.ext HE9.out).sub (k * 32) 32 (by have := Hl'.out; omega))
              rintro e w10 ⟨rfl, rfl⟩
              rw [t4]
              clear hkk
              go_wp2
              go_roundw
              case rel => exact ⟨k + 1, by omega, by go_num, HE9.out, by rw [hst.out]; exact HR9.out⟩
              case measure => simp [intOf]; omega
          · obtain rfl : k = nb := by omega
            obtain ⟨RA, rc, rfl, hIs⟩ := HRI.out.is
            have HIs := Lib.hid hIs
            have HEr := Lib.hid hEr
            clear hIs HRI hEr
            go_wp2
            go_ret2
            rw [hr.out, hl.out]
            exact ⟨RA, rc, rfl, HE.out.trans HEr.out, HIs.out⟩
      · have hr : Hid (pDifE D E = 2) := by show _ = _; unfold pDifE; simp [h1, h4, h5]
        have hl : Hid (pDifL D E = []) := by show _ = _; unfold pDifL; rw [if_neg (by rw [hr.out]; decide)]
        have t3 : (((D.bytes.length / 32 : Nat) : Int) != ((E.bytes.length / 32 : Nat) : Int)) = true := by simp; omega
        clear h1 h4 h5 hr0 hr1 hr2 hr3 hr4 hs0 hs1 hs2 hs3 hs4 hsz4 hs1' hs2'
        go_wp2
        go_ret2
        rw [hr.out, hl.out]
        exact ⟨none, 0, rfl, HE.out, Is.nil _ _⟩
    · have hr : Hid (pDifE D E = pCheck E) := by show _ = _; unfold pDifE; simp [h1, h4]
      have hl : Hid (pDifL D E = []) := by show _ = _; unfold pDifL; rw [if_neg (by rw [hr.out]; exact h4)]
      have t2 : (pCheck E != 0) = true := by simp [h4]
      obtain rfl := h3 h4
      unfold zeroDk
      clear h1 h4 h2 h3 hE2
      go_wp2
      go_ret2
      rw [hr.out, hl.out]
      exact ⟨none, 0, rfl, HE.out.alloc _, Is.nil _ _⟩
  · have hr : Hid (pDifE D E = pCheck D) := by show _ = _; unfold pDifE; simp [h1]
    have hl : Hid (pDifL D E = []) := by show _ = _; unfold pDifL; rw [if_neg (by rw [hr.out]; exact h1)]
    have t1 : (pCheck D != 0) = true := by simp [h1]
    obtain rfl := h3 h1
    unfold zeroDk
    clear h1 h2 h3 hE1
    go_wp2
    go_ret2
    rw [hr.out, hl.out]
    exact ⟨none, 0, rfl, HE.out.alloc _, Is.nil _ _⟩
end Go.Proofs.Ytdlalmbnkcadfaa
