/- DeviceApart: the walk. -/
import Derived.Test.YtdlalmbnkcadfaaN27
import Derived.Test.YtdlalmbnkcadfaaN11
namespace Go.Proofs.Ytdlalmbnkcadfaa
open Go.RowKit

theorem goR_le (F : Ft) : ∀ (xs : List Op) (i : Nat) (D : Dk), (goR F (-1) xs i D).2.1 ≤ i + xs.length
  | [], i, D => Nat.le_refl _
  | x :: r, i, D => by
    have hf : ¬ (i : Int) = -1 := by omega
    rw [List.length_cons]
    by_cases h : pDoE D x.1 x.2 = 0
    · rw [goR_go hf h]
      have := goR_le F r (i + 1) (pDoD D x.1 x.2)
      omega
    · rw [goR_bad hf h]
      show i ≤ _
      omega
theorem run_le (D : Dk) (os : List Op) (F : Ft) : (pRun D os (-1) F).2.1 ≤ os.length := by
  unfold pRun
  split
  · have := goR_le F os 0 D; omega
  · exact Nat.zero_le _
def noF : Ft := ⟨[], []⟩
set_option maxRecDepth 100000 in
set_option maxHeartbeats 8000000 in
theorem apart_any (A P L FA FQ : Option Addr) (c p lc fc fd : Nat) (D : Dk) (os : List Op) (fuse : Int) (F : Ft) (o : Int) (w : World) (hA : By w A D.bytes) (hP : Ws w P D.pend) (hL : Os w L os) (hFA : Is w FA F.order) (hFQ : Is w FQ F.part) (hlc : os.length ≤ lc) (ho : 0 ≤ o ∧ o < 256) :
    Calls Try.prog 13 #[.agg #[.slice A D.bytes.length c, .slice P D.pend.length p], .agg #[.slice L os.length lc, .int .i64 fuse, .slice FA F.order.length fc, .slice FQ F.part.length fd], .int .u8 o] w fun e w' => e = .returned (.bool true) ∧ Ext w w' := by
  obtain ⟨W, hW, hE, hz, k0, k1⟩ := box2 w #[.slice A D.bytes.length c, .slice P D.pend.length p] #[.slice L os.length lc, .int .i64 fuse, .slice FA F.order.length fc, .slice FQ F.part.length fd] 25 64
  have HD : Hid (DBx W w.heap.size A P c p D) := ⟨k0, hA.ext hE, hP.ext hE⟩
  have HX : Hid (OBx W (w.heap.size + 1) L FA FQ lc fc fd os fuse F) := ⟨k1, hL.ext hE, hFA.ext hE, hFQ.ext hE⟩
  have HE := Lib.hid hE
  have hc := HD.out.cells
  have Ho := Lib.hid ho
  have Hlc := Lib.hid hlc
  clear hE hP hA hL hFA hFQ k0 k1 hz ho hlc
  go_enter Try.func13, Try.ntmps13
  go_wp2_with fail
  refine (right_any A P c p D W HD.out.a HD.out.p).mono ?_
  rintro e w0 ⟨rfl, hE1⟩
  have Hq := Lib.hid (HD.out.ext hE1)
  clear HD
  have HD := Hq
  clear Hq
  have Hq := Lib.hid (HX.out.ext hE1)
  clear HX
  have HX := Hq
  clear Hq
  have Hq := Lib.hid (HE.out.trans hE1)
  clear HE
  have HE := Hq
  clear Hq
  clear hE1 hc hW
  have hd := HX.out.cells
  by_cases ht : pRight D = true
  · have hr : pThin D = true ∧ pCheck D = 0 := by
      unfold pRight at ht
      simpa using ht
    have Hsm := Lib.hid (thin_small hr.1)
    have Hck := Lib.hid hr.2
    rw [ht]
    clear ht hr
    go_wp2_with fail
    refine (thinOps_any L FA FQ lc fc fd os fuse F w0 HX.out.l).mono ?_
    rintro e w1 ⟨rfl, hE1⟩
    have Hq := Lib.hid (HD.out.ext hE1)
    clear HD
    have HD := Hq
    clear Hq
    have Hq := Lib.hid (HX.out.ext hE1)
    clear HX
    have HX := Hq
    clear Hq
    have Hq := Lib.hid (HE.out.trans hE1)
    clear HE
    have HE := Hq
    clear Hq
    clear hE1 hd
    have hc := HD.out.cells
    have hd := HX.out.cells
    by_cases ht : pThinO os F = true
    · have Hl := Lib.hid (thinO_parts ht)
      have q6 : wrap64 o = o := by have := Ho.out; unfold wrap64; omega
      have q7 : wrap64 ((os.length : Int) + 1) = (os.length : Int) + 1 := by have := Hl.out.1; unfold wrap64; omega
      have q5 : ¬ ((os.length : Int) + 1 = 0) := by omega
      obtain ⟨n, hn⟩ : ∃ n : Nat, o.tmod ((os.length : Int) + 1) = n := ⟨(o % ((os.length : Int) + 1)).toNat, by
        have h0 := Ho.out
        rw [Int.tmod_eq_emod_of_nonneg h0.1]
        have := Int.emod_nonneg o q5
        omega⟩
      have Hn : Hid (n ≤ os.length) := by
        have h0 := Ho.out
        rw [Int.tmod_eq_emod_of_nonneg h0.1] at hn
        have h2 := Int.emod_lt_of_pos o (show 0 < (os.length : Int) + 1 by omega)
        show _ ≤ _
        omega
      have q8 : wrap64 (n : Int) = n := by have := Hn.out; have := Hl.out.1; unfold wrap64; omega
      rw [ht]
      clear ht
      go_wp2_with fail
      clear q6 q7 q5 hn q8
      obtain ⟨ax, hsl1, hax⟩ := ops_to HX.out.l Hlc.out n Hn.out
      obtain ⟨ay, hsl2, hay⟩ := ops_from HX.out.l Hlc.out n Hn.out
      have HXos := Lib.hid HX.out.l
      have HXxs := Lib.hid hax
      have HXys := Lib.hid hay
      have Hnos : Hid (os.length ≤ 1000 ∧ ∀ x ∈ os, x.2.bs.length ≤ 100000) := ⟨by have := Hl.out.1; omega, fun x hx => by have := Hl.out.2.2.2 x hx; omega⟩
      have Hnxs : Hid ((os.take n).length ≤ 1000 ∧ ∀ x ∈ os.take n, x.2.bs.length ≤ 100000) := ⟨by have := Hl.out.1; rw [List.length_take]; omega, fun x hx => Hnos.out.2 x (List.mem_of_mem_take hx)⟩
      have Hnys : Hid ((os.drop n).length ≤ 1000 ∧ ∀ x ∈ os.drop n, x.2.bs.length ≤ 100000) := ⟨by have := Hl.out.1; rw [List.length_drop]; omega, fun x hx => Hnos.out.2 x (List.mem_of_mem_drop hx)⟩
      have hcut := run_cut Hck.out os noF n Hn.out
      have hle := run_le (pRun D (os.take n) (-1) noF).1 (os.drop n) noF
      have hsm1 := run_len D (os.take n) (-1) noF
      have hsm2 := run_len (pRun D (os.take n) (-1) noF).1 (os.drop n) (-1) noF
      obtain ⟨xs, hxs⟩ : ∃ xs, os.take n = xs := ⟨_, rfl⟩
      obtain ⟨ys, hys⟩ : ∃ ys, os.drop n = ys := ⟨_, rfl⟩
      rw [hxs] at hsl1 HXxs Hnxs hcut hle hsm1 hsm2
      rw [hys] at hsl2 HXys Hnys hcut hle hsm2
      clear hax hay hxs hys
      obtain ⟨R, hR⟩ : ∃ R, pRun D os (-1) noF = R := ⟨_, rfl⟩
      obtain ⟨R1, hR1⟩ : ∃ R1, pRun D xs (-1) noF = R1 := ⟨_, rfl⟩
      rw [hR1] at hcut hle hsm1 hsm2
      obtain ⟨R2, hR2⟩ : ∃ R2, pRun R1.1 ys (-1) noF = R2 := ⟨_, rfl⟩
      rw [hR, hR2] at hcut
      rw [hR2] at hle hsm2
      have HR := Lib.hid hR
      have HR1 := Lib.hid hR1
      have HR2 := Lib.hid hR2
      have Hcut := Lib.hid hcut
      have Hle := Lib.hid hle
      have Hsm1 := Lib.hid hsm1
      have Hsm2 := Lib.hid hsm2
      have Hs1 := Lib.hid hsl1
      have Hs2 := Lib.hid hsl2
      clear hR hR1 hR2 hcut hle hsl1 hsl2 hc hd hsm1 hsm2
      have HD1 := HD
      have HX1 := HX
      have hS := Lib.hid (fun w' (h : Ext w1 w') => (⟨h, (HD1.out.ext h).cells.1, (HD1.out.ext h).cells.2, (HX1.out.ext h).cells.1⟩ : Ext w1 w' ∧ w'.cell? ⟨w.heap.size, 0, none⟩ = some (.slice A D.bytes.length c) ∧ w'.cell? ⟨w.heap.size, 1, none⟩ = some (.slice P D.pend.length p) ∧ w'.cell? ⟨w.heap.size + 1, 0, none⟩ = some (.slice L os.length lc)))
      refine wp_region_rell 12 (by kernel_rfl) (by kernel_rfl) (fun _ _ _ _ _ h => h) (Ext.refl w1).drew ?_
      (apply relW_fix
       · intro vs w' hw hf
         have hc := hS.out w' hw
         unfold okAt
         go_simp
         first | exact ⟨rfl, Ext.refl _⟩ | exact rfl
       · intro vs; go_simp; rfl)
      (apply relW_any (SV.cd D)
       · intro vs w' hw hf
         have hc := hS.out w' hw
         skip
         unfold okAt
         go_simp
         refine ⟨Ext.refl _, ?_⟩; go_at_call 37; refine (own_dv2 A P c p D w' (HD1.out.a.ext hw) (HD1.out.p.ext hw) Hsm.out).mono ?_; rintro e w5 ⟨A', c', P', p', rfl, h1, h2, h3⟩; exact ⟨_, rfl, ⟨A', P', c', p', rfl, h2, h3⟩, h1⟩
       · intro vs; go_simp; rfl)
      (apply relW_fix
       · intro vs w' hw hf
         have hc := hS.out w' hw
         unfold okAt
         go_simp
         first | exact ⟨rfl, Ext.refl _⟩ | exact rfl
       · intro vs; go_simp; rfl)
      (apply relW_fix
       · intro vs w' hw hf
         have hc := hS.out w' hw
         unfold okAt
         go_simp
         first | exact ⟨rfl, Ext.refl _⟩ | exact rfl
       · intro vs; go_simp; rfl)
      (apply relW_any (SV.osv os)
       · intro vs w' hw hf
         have hc := hS.out w' hw
         skip
         unfold okAt
         go_simp
         refine ⟨Ext.refl _, ?_⟩; go_at_call 44; refine (owns_any L lc os w' (HXos.out.ext hw) (by have := Hnos.out.1; omega) (fun x hx => by have := Hnos.out.2 x hx; omega)).mono ?_; rintro e w5 ⟨P', c', rfl, h1, h2⟩; exact ⟨_, rfl, ⟨P', c', rfl, h2⟩, h1⟩
       · intro vs; go_simp; rfl)
      (apply relW_fix
       · intro vs w' hw hf
         have hc := hS.out w' hw
         unfold okAt
         go_simp
         first | exact ⟨rfl, Ext.refl _⟩ | exact rfl
       · intro vs; go_simp; rfl)
      (apply relW_any (SV.rr R)
       · intro vs w' hw hf
         have hc := hS.out w' hw
         obtain ⟨OL, olc, e4, hOL⟩ := hf.out.1 (by kernel_rfl); obtain ⟨B, Q, cb, cq, e1, hB, hQ⟩ := hf.out.2.1 (by kernel_rfl)
         unfold okAt
         go_simp
         refine ⟨Ext.refl _, ?_⟩; go_at_call 45; rw [← HR.out]; exact run_rr B Q OL none none cb cq olc 0 0 D os (-1) noF w' hB hQ.ws hOL (Is.nil _ _) (Is.nil _ _) Hsm.out Hnos.out.1 Hnos.out.2
       · intro vs; go_simp; rfl)
      (apply relW_any (SV.rr R)
       · intro vs w' hw hf
         have hc := hS.out w' hw
         obtain ⟨A7, c7, P7, p7, e6, h2, h3⟩ := hf.out.1 (by kernel_rfl)
         unfold okAt
         go_simp
         exact ⟨⟨A7, c7, P7, p7, rfl, h2, h3⟩, Ext.refl _⟩
       · intro vs; go_simp; rfl)
      (apply relW_any (SV.r1 R.1)
       · intro vs w' hw hf
         have hc := hS.out w' hw
         obtain ⟨A7, c7, P7, p7, e6, h2, h3⟩ := hf.out.1 (by kernel_rfl)
         unfold okAt
         go_simp
         exact ⟨⟨A7, P7, c7, p7, rfl, h2, h3⟩, Ext.refl _⟩
       · intro vs; go_simp; rfl)
      (apply relW_any (SV.eq (.int .i64 (R.2.1 : Int)))
       · intro vs w' hw hf
         have hc := hS.out w' hw
         obtain ⟨A7, c7, P7, p7, e6, h2, h3⟩ := hf.out.2.1 (by kernel_rfl)
         unfold okAt
         go_simp
         exact ⟨rfl, Ext.refl _⟩
       · intro vs; go_simp; rfl)
      (apply relW_any (SV.eq (.int .i64 R.2.2))
       · intro vs w' hw hf
         have hc := hS.out w' hw
         obtain ⟨A7, c7, P7, p7, e6, h2, h3⟩ := hf.out.2.2.1 (by kernel_rfl)
         unfold okAt
         go_simp
         exact ⟨rfl, Ext.refl _⟩
       · intro vs; go_simp; rfl)
      (apply relW_any (SV.al w1.heap.size #[.slice none 0 0, .slice none 0 0] 25)
       · intro vs w' hw hf
         have hc := hS.out w' hw
         skip
         unfold okAt
         go_simp
         exact ⟨⟨_, rfl, Bk.new _ _ _, hw.size⟩, (Ext.refl _).alloc _⟩
       · intro vs; go_simp; rfl)
      refine relW_nil fun vs w2 hw hf => ?_
      obtain ⟨⟨b7, e7, kb7, hb7⟩, e11, e10, ⟨A7, P7, c7, p7, e9, hA7, hP7⟩, -⟩ := hf
      have e11 : vs 10 = .int .i64 R.2.2 := e11
      have e10 : vs 9 = .int .i64 (R.2.1 : Int) := e10
      have g0 := kb7.cell 0
      have g1 := kb7.cell 1
      have g4 := kb7.frozen 0
      have g5 := kb7.frozen 1
      simp at g0 g1
      clear hS HD HX
      simp only [List.drop]
      go_upto_region 5 with fail
      obtain ⟨V3, hV3, hVb, kb, hoff⟩ := one_box (B := w1.heap.size) kb7 hb7 (.slice A7 R.1.bytes.length c7) (.slice P7 R.1.pend.length p7)
      rw [hV3]; clear hV3
      have hEV : Ext w1 V3 := Below.trans hw hVb
      have H7 : Hid (DBx V3 b7 A7 P7 c7 p7 R.1) := ⟨kb, hA7.offS kb7 hoff, hP7.offS kb7 hoff⟩
      have HD := Lib.hid (HD1.out.ext hEV)
      have HX := Lib.hid (HX1.out.ext hEV)
      have Hq := Lib.hid (HXxs.out.ext hEV)
      clear HXxs
      have HXxs := Hq
      clear Hq
      have Hq := Lib.hid (HXys.out.ext hEV)
      clear HXys
      have HXys := Hq
      clear Hq
      have Hq := Lib.hid (HE.out.trans hEV)
      clear HE
      have HE := Hq
      clear Hq
      clear g0 g1 g4 g5 hVb kb hoff hEV hA7 hP7 kb7 hb7 hw HD1 HX1 HXos e9
      have HD1 := HD
      have HX1 := HX
      have hS := Lib.hid (fun w' (h : Ext V3 w') => (⟨h, (HD1.out.ext h).cells.1, (HD1.out.ext h).cells.2, (HX1.out.ext h).cells.1⟩ : Ext V3 w' ∧ w'.cell? ⟨w.heap.size, 0, none⟩ = some (.slice A D.bytes.length c) ∧ w'.cell? ⟨w.heap.size, 1, none⟩ = some (.slice P D.pend.length p) ∧ w'.cell? ⟨w.heap.size + 1, 0, none⟩ = some (.slice L os.length lc)))
      have hsl := Hs1.out
      refine wp_region_rell 14 (by kernel_rfl) (by kernel_rfl) (fun _ _ _ _ _ h => h) (Ext.refl V3).drew ?_
      (apply relW_fix
       · intro vs w' hw hf
         have hc := hS.out w' hw
         unfold okAt
         go_simp
         first | exact ⟨rfl, Ext.refl _⟩ | exact rfl
       · intro vs; go_simp; rfl)
      (apply relW_any (SV.cd D)
       · intro vs w' hw hf
         have hc := hS.out w' hw
         skip
         unfold okAt
         go_simp
         refine ⟨Ext.refl _, ?_⟩; go_at_call 37; refine (own_dv2 A P c p D w' (HD1.out.a.ext hw) (HD1.out.p.ext hw) Hsm.out).mono ?_; rintro e w5 ⟨A', c', P', p', rfl, h1, h2, h3⟩; exact ⟨_, rfl, ⟨A', P', c', p', rfl, h2, h3⟩, h1⟩
       · intro vs; go_simp; rfl)
      (apply relW_fix
       · intro vs w' hw hf
         have hc := hS.out w' hw
         unfold okAt
         go_simp
         first | exact ⟨rfl, Ext.refl _⟩ | exact rfl
       · intro vs; go_simp; rfl)
      (apply relW_fix
       · intro vs w' hw hf
         have hc := hS.out w' hw
         unfold okAt
         go_simp
         first | exact ⟨rfl, Ext.refl _⟩ | exact rfl
       · intro vs; go_simp; rfl)
      (apply relW_fix
       · intro vs w' hw hf
         have hc := hS.out w' hw
         unfold okAt
         go_simp
         first | exact ⟨rfl, Ext.refl _⟩ | exact rfl
       · intro vs; go_simp; rfl)
      (apply relW_fix
       · intro vs w' hw hf
         have hc := hS.out w' hw
         unfold okAt
         go_simp
         first | exact ⟨rfl, Ext.refl _⟩ | exact rfl
       · intro vs; go_simp; rfl)
      (apply relW_any (SV.osv xs)
       · intro vs w' hw hf
         have hc := hS.out w' hw
         skip
         unfold okAt
         go_simp
         refine ⟨Ext.refl _, ?_⟩; go_at_call 44; refine (owns_any ax lc xs w' (HXxs.out.ext hw) (by have := Hnxs.out.1; omega) (fun x hx => by have := Hnxs.out.2 x hx; omega)).mono ?_; rintro e w5 ⟨P', c', rfl, h1, h2⟩; exact ⟨_, rfl, ⟨P', c', rfl, h2⟩, h1⟩
       · intro vs; go_simp; rfl)
      (apply relW_fix
       · intro vs w' hw hf
         have hc := hS.out w' hw
         unfold okAt
         go_simp
         first | exact ⟨rfl, Ext.refl _⟩ | exact rfl
       · intro vs; go_simp; rfl)
      (apply relW_any (SV.rr R1)
       · intro vs w' hw hf
         have hc := hS.out w' hw
         obtain ⟨OL, olc, e4, hOL⟩ := hf.out.1 (by kernel_rfl); obtain ⟨B, Q, cb, cq, e1, hB, hQ⟩ := hf.out.2.1 (by kernel_rfl)
         unfold okAt
         go_simp
         refine ⟨Ext.refl _, ?_⟩; go_at_call 45; rw [← HR1.out]; exact run_rr B Q OL none none cb cq olc 0 0 D xs (-1) noF w' hB hQ.ws hOL (Is.nil _ _) (Is.nil _ _) Hsm.out Hnxs.out.1 Hnxs.out.2
       · intro vs; go_simp; rfl)
      (apply relW_any (SV.rr R1)
       · intro vs w' hw hf
         have hc := hS.out w' hw
         obtain ⟨A7, c7, P7, p7, e6, h2, h3⟩ := hf.out.1 (by kernel_rfl)
         unfold okAt
         go_simp
         exact ⟨⟨A7, c7, P7, p7, rfl, h2, h3⟩, Ext.refl _⟩
       · intro vs; go_simp; rfl)
      (apply relW_any (SV.r1 R1.1)
       · intro vs w' hw hf
         have hc := hS.out w' hw
         obtain ⟨A7, c7, P7, p7, e6, h2, h3⟩ := hf.out.1 (by kernel_rfl)
         unfold okAt
         go_simp
         exact ⟨⟨A7, P7, c7, p7, rfl, h2, h3⟩, Ext.refl _⟩
       · intro vs; go_simp; rfl)
      (apply relW_any (SV.eq (.int .i64 (R1.2.1 : Int)))
       · intro vs w' hw hf
         have hc := hS.out w' hw
         obtain ⟨A7, c7, P7, p7, e6, h2, h3⟩ := hf.out.2.1 (by kernel_rfl)
         unfold okAt
         go_simp
         exact ⟨rfl, Ext.refl _⟩
       · intro vs; go_simp; rfl)
      (apply relW_any (SV.eq (.int .i64 R1.2.2))
       · intro vs w' hw hf
         have hc := hS.out w' hw
         obtain ⟨A7, c7, P7, p7, e6, h2, h3⟩ := hf.out.2.2.1 (by kernel_rfl)
         unfold okAt
         go_simp
         exact ⟨rfl, Ext.refl _⟩
       · intro vs; go_simp; rfl)
      (apply relW_any (SV.al V3.heap.size #[.slice none 0 0, .slice none 0 0] 25)
       · intro vs w' hw hf
         have hc := hS.out w' hw
         skip
         unfold okAt
         go_simp
         exact ⟨⟨_, rfl, Bk.new _ _ _, hw.size⟩, (Ext.refl _).alloc _⟩
       · intro vs; go_simp; rfl)
      refine relW_nil fun vs2 w3 hw hf => ?_
      obtain ⟨⟨b8, e7, kb7, hb7⟩, e13, e12, ⟨A8, P8, c8, p8, e9, hA7, hP7⟩, -⟩ := hf
      have e13 : vs2 12 = .int .i64 R1.2.2 := e13
      have e12 : vs2 11 = .int .i64 (R1.2.1 : Int) := e12
      have g0 := kb7.cell 0
      have g1 := kb7.cell 1
      have g4 := kb7.frozen 0
      have g5 := kb7.frozen 1
      simp at g0 g1
      clear hS HD HX hsl
      simp only [List.drop]
      go_upto_region 6 with fail
      obtain ⟨V5, hV5, hVb, kb, hoff⟩ := one_box (B := V3.heap.size) kb7 hb7 (.slice A8 R1.1.bytes.length c8) (.slice P8 R1.1.pend.length p8)
      rw [hV5]; clear hV5
      have hEV : Ext V3 V5 := Below.trans hw hVb
      have H8 : Hid (DBx V5 b8 A8 P8 c8 p8 R1.1) := ⟨kb, hA7.offS kb7 hoff, hP7.offS kb7 hoff⟩
      have HX := Lib.hid (HX1.out.ext hEV)
      have Hq := Lib.hid (HXys.out.ext hEV)
      clear HXys
      have HXys := Hq
      clear Hq
      have Hq := Lib.hid (H7.out.ext hEV)
      clear H7
      have H7 := Hq
      clear Hq
      have Hq := Lib.hid (HE.out.trans hEV)
      clear HE
      have HE := Hq
      clear Hq
      clear g0 g1 g4 g5 hVb kb hoff hEV hA7 hP7 kb7 hb7 hw HD1 HX1 HXxs e9
      by_cases h0 : R1.2.2 = 0
      · obtain ⟨hm1, hck1, hRR⟩ := Hcut.out.2 h0
        have t0 : (R1.2.2 != 0) = false := by rw [h0]; rfl
        have Hck1 := Lib.hid hck1
        have Hs8 := Lib.hid (check_small hck1).1
        rw [hm1] at e12
        rw [h0] at e13
        clear h0 hm1 hck1 Hcut
        go_wp2_with fail
        have HX1 := HX
        have H81 := H8
        have hS := Lib.hid (fun w' (h : Ext V5 w') => (⟨h, (H81.out.ext h).cells.1, (H81.out.ext h).cells.2, (HX1.out.ext h).cells.1⟩ : Ext V5 w' ∧ w'.cell? ⟨b8, 0, none⟩ = some (.slice A8 R1.1.bytes.length c8) ∧ w'.cell? ⟨b8, 1, none⟩ = some (.slice P8 R1.1.pend.length p8) ∧ w'.cell? ⟨w.heap.size + 1, 0, none⟩ = some (.slice L os.length lc)))
        have hsl := Hs2.out
        refine wp_region_rell 13 (by kernel_rfl) (by kernel_rfl) (fun _ _ _ _ _ h => h) (Ext.refl V5).drew ?_
        (apply relW_fix
         · intro vs w' hw hf
           have hc := hS.out w' hw
           unfold okAt
           go_simp
           first | exact ⟨rfl, Ext.refl _⟩ | exact rfl
         · intro vs; go_simp; rfl)
        (apply relW_fix
         · intro vs w' hw hf
           have hc := hS.out w' hw
           unfold okAt
           go_simp
           first | exact ⟨rfl, Ext.refl _⟩ | exact rfl
         · intro vs; go_simp; rfl)
        (apply relW_fix
         · intro vs w' hw hf
           have hc := hS.out w' hw
           unfold okAt
           go_simp
           first | exact ⟨rfl, Ext.refl _⟩ | exact rfl
         · intro vs; go_simp; rfl)
        (apply relW_fix
         · intro vs w' hw hf
           have hc := hS.out w' hw
           unfold okAt
           go_simp
           first | exact ⟨rfl, Ext.refl _⟩ | exact rfl
         · intro vs; go_simp; rfl)
        (apply relW_fix
         · intro vs w' hw hf
           have hc := hS.out w' hw
           unfold okAt
           go_simp
           first | exact ⟨rfl, Ext.refl _⟩ | exact rfl
         · intro vs; go_simp; rfl)
        (apply relW_any (SV.osv ys)
         · intro vs w' hw hf
           have hc := hS.out w' hw
           skip
           unfold okAt
           go_simp
           refine ⟨Ext.refl _, ?_⟩; go_at_call 44; refine (owns_any ay (lc - n) ys w' (HXys.out.ext hw) (by have := Hnys.out.1; omega) (fun x hx => by have := Hnys.out.2 x hx; omega)).mono ?_; rintro e w5 ⟨P', c', rfl, h1, h2⟩; exact ⟨_, rfl, ⟨P', c', rfl, h2⟩, h1⟩
         · intro vs; go_simp; rfl)
        (apply relW_fix
         · intro vs w' hw hf
           have hc := hS.out w' hw
           unfold okAt
           go_simp
           first | exact ⟨rfl, Ext.refl _⟩ | exact rfl
         · intro vs; go_simp; rfl)
        (apply relW_any (SV.rr R2)
         · intro vs w' hw hf
           have hc := hS.out w' hw
           obtain ⟨OL, olc, e4, hOL⟩ := hf.out.1 (by kernel_rfl)
           unfold okAt
           go_simp
           refine ⟨Ext.refl _, ?_⟩; go_at_call 45; rw [← HR2.out]; exact run_rr A8 P8 OL none none c8 p8 olc 0 0 R1.1 ys (-1) noF w' (H81.out.a.ext hw) (H81.out.p.ext hw) hOL (Is.nil _ _) (Is.nil _ _) Hs8.out Hnys.out.1 Hnys.out.2
         · intro vs; go_simp; rfl)
        (apply relW_any (SV.rr R2)
         · intro vs w' hw hf
           have hc := hS.out w' hw
           obtain ⟨A7, c7, P7, p7, e6, h2, h3⟩ := hf.out.1 (by kernel_rfl)
           unfold okAt
           go_simp
           exact ⟨⟨A7, c7, P7, p7, rfl, h2, h3⟩, Ext.refl _⟩
         · intro vs; go_simp; rfl)
        (apply relW_any (SV.r1 R2.1)
         · intro vs w' hw hf
           have hc := hS.out w' hw
           obtain ⟨A7, c7, P7, p7, e6, h2, h3⟩ := hf.out.1 (by kernel_rfl)
           unfold okAt
           go_simp
           exact ⟨⟨A7, P7, c7, p7, rfl, h2, h3⟩, Ext.refl _⟩
         · intro vs; go_simp; rfl)
        (apply relW_any (SV.eq (.int .i64 (R2.2.1 : Int)))
         · intro vs w' hw hf
           have hc := hS.out w' hw
           obtain ⟨A7, c7, P7, p7, e6, h2, h3⟩ := hf.out.2.1 (by kernel_rfl)
           unfold okAt
           go_simp
           exact ⟨rfl, Ext.refl _⟩
         · intro vs; go_simp; rfl)
        (apply relW_any (SV.eq (.int .i64 R2.2.2))
         · intro vs w' hw hf
           have hc := hS.out w' hw
           obtain ⟨A7, c7, P7, p7, e6, h2, h3⟩ := hf.out.2.2.1 (by kernel_rfl)
           unfold okAt
           go_simp
           exact ⟨rfl, Ext.refl _⟩
         · intro vs; go_simp; rfl)
        (apply relW_any (SV.al V5.heap.size #[.slice none 0 0, .slice none 0 0] 25)
         · intro vs w' hw hf
           have hc := hS.out w' hw
           skip
           unfold okAt
           go_simp
           exact ⟨⟨_, rfl, Bk.new _ _ _, hw.size⟩, (Ext.refl _).alloc _⟩
         · intro vs; go_simp; rfl)
        refine relW_nil fun vs3 w6 hw hf => ?_
        obtain ⟨⟨b9, e7, kb7, hb7⟩, e15, e14, ⟨A9, P9, c9, p9, e9, hA7, hP7⟩, -⟩ := hf
        have e15 : vs3 11 = .int .i64 R2.2.2 := e15
        have e14 : vs3 10 = .int .i64 (R2.2.1 : Int) := e14
        have g0 := kb7.cell 0
        have g1 := kb7.cell 1
        have g4 := kb7.frozen 0
        have g5 := kb7.frozen 1
        simp at g0 g1
        clear hS HX hsl
        simp only [List.drop]
        go_upto_region 9 with fail
        obtain ⟨V7, hV7, hVb, kb, hoff⟩ := one_box (B := V5.heap.size) kb7 hb7 (.slice A9 R2.1.bytes.length c9) (.slice P9 R2.1.pend.length p9)
        rw [hV7]; clear hV7
        have hEV : Ext V5 V7 := Below.trans hw hVb
        have H9 : Hid (DBx V7 b9 A9 P9 c9 p9 R2.1) := ⟨kb, hA7.offS kb7 hoff, hP7.offS kb7 hoff⟩
        have Hq := Lib.hid (H7.out.ext hEV)
        clear H7
        have H7 := Hq
        clear Hq
        have Hq := Lib.hid (HE.out.trans hEV)
        clear HE
        have HE := Hq
        clear Hq
        clear g0 g1 g4 g5 hVb kb hoff hEV hA7 hP7 kb7 hb7 hw HX1 H8 H81 e9 HXys
        subst hRR
        obtain ⟨E, m2, er⟩ := R2
        simp only at H7 H9 e10 e11 e14 e15
        have Hpl : Hid (E.pend.length ≤ 64) := Hsm2.out
        have hm : wrap64 ((n : Int) + (m2 : Int)) = (n : Int) + (m2 : Int) := by
          have h1 : m2 ≤ ys.length := Hle.out
          have := Hnys.out.1
          have := Hn.out
          have := Hl.out.1
          unfold wrap64
          omega
        have h7 := H7.out.cells
        have h9 := H9.out.cells
        have cv1 := conv_by H7.out.a c7
        have cv2 := conv_by H9.out.a c9
        have ts := strB_toList
        go_wp2_with fail
        clear h7 h9 cv1 cv2
        go_loopw [17] (fun vi wr => ∃ i : Nat, i ≤ E.pend.length ∧ vi = .int .i64 i ∧ Ext V7 wr) (fun vi _ => E.pend.length - (intOf vi).toNat)
        case atStart => exact ⟨0, Nat.zero_le _, rfl, Ext.refl _⟩
        case round =>
          obtain ⟨i, hi, rfl, hEr⟩ := hrel
          have hi9 : (i : Int) ≤ 64 := by have := Hpl.out; omega
          have h7 := (H7.out.ext hEr).cells
          by_cases hlt : i < E.pend.length
          · obtain ⟨ob, oo, B1, d1, rfl, p1, p2, p3, p4⟩ := (H7.out.p.ext hEr) i E.pend[i] (List.getElem?_eq_getElem hlt)
            obtain ⟨lb, lo, B2, d2, rfl, r1, r2, r3, r4⟩ := (H9.out.p.ext hEr) i E.pend[i] (List.getElem?_eq_getElem hlt)
            have hlt' : (i : Int) < (E.pend.length : Int) := by omega
            have hS := Lib.hid (fun w' (h : Ext wr w') => (⟨h, cellExt h p1, cellExt h p2, cellExt h r1, cellExt h r2, (H7.out.ext (hEr.trans h)).cells.2, (H9.out.ext (hEr.trans h)).cells.2, conv_by (p4.ext h) d1, conv_by (r4.ext h) d2⟩ : Ext wr w' ∧ w'.cell? ⟨ob, oo + i * 2, none⟩ = some (.int .i64 E.pend[i].blk) ∧ w'.cell? ⟨ob, oo + i * 2 + 1, none⟩ = some (.slice B1 E.pend[i].bs.length d1) ∧ w'.cell? ⟨lb, lo + i * 2, none⟩ = some (.int .i64 E.pend[i].blk) ∧ w'.cell? ⟨lb, lo + i * 2 + 1, none⟩ = some (.slice B2 E.pend[i].bs.length d2) ∧ w'.cell? ⟨b7, 1, none⟩ = some (.slice (some ⟨ob, oo, none⟩) E.pend.length p7) ∧ w'.cell? ⟨b9, 1, none⟩ = some (.slice (some ⟨lb, lo, none⟩) E.pend.length p9) ∧ (convert 22 9 (.slice B1 E.pend[i].bs.length d1)).run Try.prog w' = .ok (.string (strB E.pend[i].bs)) w' ∧ (convert 22 9 (.slice B2 E.pend[i].bs.length d2)).run Try.prog w' = .ok (.string (strB E.pend[i].bs)) w'))
            clear p1 p2 p3 p4 r1 r2 r3 r4
            go_wp2_with fail
            refine wp_region_rel 30 (by kernel_rfl) (by kernel_rfl) (Ext.refl wr).drew ?_
            repeat (apply relW_fix
                    · intro vs w' hw hf
                      have hc := hS.out w' hw
                      unfold okAt
                      go_simp
                      first | exact ⟨rfl, Ext.refl _⟩ | exact rfl
                    · intro vs; go_simp; rfl)
            refine relW_nil fun vs6 w8 hw hf => ?_
            refine wpList_nil ?_
            have HE8 := Lib.hid (hEr.trans hw)
            clear hS hf hEr hw
            go_wp2
            go_roundw
            case rel => exact ⟨i + 1, by omega, by go_num, HE8.out⟩
            case measure => simp [intOf]; omega
          · obtain rfl : i = E.pend.length := by omega
            have Hq := Lib.hid (HE.out.trans hEr)
            clear HE
            have HE := Hq
            clear Hq
            clear hEr
            go_wp2_with fail
            refine (awake_any _).mono ?_
            rintro e w4 ⟨rfl, hE6⟩
            have HE' := Lib.hid (HE.out.trans hE6)
            clear hE6
            go_wp2_with fail
            go_ret
            exact ⟨rfl, HE'.out⟩
      · have hRR : R = R1 := Hcut.out.1 h0
        have t0 : (R1.2.2 != 0) = true := by simpa using h0
        subst hRR
        have h7 := H7.out.cells
        have h8 := H8.out.cells
        have cv1 := conv_by H7.out.a c7
        have cv2 := conv_by H8.out.a c8
        have ts := strB_toList
        clear h0
        go_wp2_with fail
        refine (awake_any _).mono ?_
        rintro e w4 ⟨rfl, hE6⟩
        have HE' := Lib.hid (HE.out.trans hE6)
        clear hE6
        go_wp2_with fail
        go_ret
        exact ⟨rfl, HE'.out⟩
    · rw [show pThinO os F = false by simpa using ht]
      clear ht
      go_wp2_with fail
      refine (awake_any _).mono ?_
      rintro e w4 ⟨rfl, hE6⟩
      have HE' := Lib.hid (HE.out.trans hE6)
      clear hE6
      go_wp2_with fail
      go_ret
      exact ⟨rfl, HE'.out⟩
  · rw [show pRight D = false by simpa using ht]
    clear ht
    go_wp2_with fail
    refine (awake_any _).mono ?_
    rintro e w4 ⟨rfl, hE6⟩
    have HE' := Lib.hid (HE.out.trans hE6)
    clear hE6
    go_wp2_with fail
    go_ret
    exact ⟨rfl, HE'.out⟩
end Go.Proofs.Ytdlalmbnkcadfaa
