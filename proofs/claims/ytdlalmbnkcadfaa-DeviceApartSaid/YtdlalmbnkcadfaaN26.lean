/- DeviceRuns: the walk. -/
import Derived.Test.YtdlalmbnkcadfaaN25
import Derived.Test.YtdlalmbnkcadfaaN06
namespace Go.Proofs.Ytdlalmbnkcadfaa
open Go.RowKit

theorem Os.offS {w V : World} {b n m c d : Nat} {X Y : Option Addr} {t : TypeId} {A : Option Addr} {os : List Op} (h : Os w A os) (hk : Bk w b #[.slice X n c, .slice Y m d] t) (hV : ∀ k, k ≠ b → V.heap[k]? = w.heap[k]?) : Os V A os := fun j x hj => by
  obtain ⟨ab, o, B, c', rfl, g1, g2, g3, g4, g5⟩ := h j x hj
  have h1 : ab ≠ b := fun e => by
    subst e
    rw [hk.cell] at g1
    match o + j * 3, g1 with
    | 0, g1 => simp at g1
    | 1, g1 => simp at g1
    | n + 2, g1 => simp at g1
  exact ⟨ab, o, B, c', rfl, (World.cell?_of_block (hV ab h1)).trans g1, (World.cell?_of_block (hV ab h1)).trans g2, (World.cell?_of_block (hV ab h1)).trans g3, g4, g5.offS hk hV⟩
def SV.osv (os : List Op) : SV := ⟨fun v w => ∃ P c, v = .slice P os.length c ∧ Os w P os, fun ⟨P, c, h1, h2⟩ e => ⟨P, c, h1, h2.ext e⟩⟩
/-- What a run hands back, as one value; the device alone. -/
def SV.rr (R : Dk × Nat × Int) : SV := ⟨fun v w => ∃ A c P p, v = .tuple #[.agg #[.slice A R.1.bytes.length c, .slice P R.1.pend.length p], .int .i64 (R.2.1 : Int), .int .i64 R.2.2] ∧ By w A R.1.bytes ∧ Ws w P R.1.pend, fun ⟨A, c, P, p, h1, h2, h3⟩ e => ⟨A, c, P, p, h1, h2.ext e, h3.ext e⟩⟩
theorem run_rr (A P L FA FQ : Option Addr) (c p lc fc fd : Nat) (D : Dk) (os : List Op) (fuse : Int) (F : Ft) (w : World) (hA : By w A D.bytes) (hP : Ws w P D.pend) (hL : Os w L os) (hFA : Is w FA F.order) (hFQ : Is w FQ F.part) (hsm : Small D) (hos : os.length ≤ 1000) (hxs : ∀ x ∈ os, x.2.bs.length ≤ 100000) :
    Calls Try.prog 45 #[.agg #[.slice A D.bytes.length c, .slice P D.pend.length p], .slice L os.length lc, .int .i64 fuse, .agg #[.slice FA F.order.length fc, .slice FQ F.part.length fd]] w fun e w' => ∃ v, e = .returned v ∧ (SV.rr (pRun D os fuse F)).p v w' ∧ Ext w w' := by
  refine (run_any A P L FA FQ c p lc fc fd D os fuse F w hA hP hL hFA hFQ hsm hos hxs).mono ?_
  rintro e w' ⟨v, rfl, hE, A7, c7, P7, p7, rfl, _, h1, _, h2⟩
  exact ⟨_, rfl, ⟨A7, c7, P7, p7, rfl, h1, h2⟩, hE⟩
theorem thinO_parts {os : List Op} {F : Ft} (h : pThinO os F = true) : os.length ≤ 40 ∧ F.order.length ≤ 100 ∧ F.part.length ≤ 100 ∧ ∀ x ∈ os, x.2.bs.length ≤ 40 := by
  unfold pThinO pThinF at h
  simp only [Bool.and_eq_true, decide_eq_true_eq, List.all_eq_true] at h
  exact ⟨h.1.1, h.1.2.1, h.1.2.2, h.2⟩
theorem goR_len (F : Ft) (fuse : Int) : ∀ (os : List Op) (i : Nat) (D : Dk), pCheck D = 0 → (goR F fuse os i D).1.pend.length ≤ 64
  | [], i, D, h => (check_small h).2
  | x :: r, i, D, h => by
    by_cases hf : (i : Int) = fuse
    · rw [goR_fuse hf]; simp
    · by_cases h0 : pDoE D x.1 x.2 = 0
      · rw [goR_go hf h0]; exact goR_len F fuse r (i + 1) _ (do_check h _ _)
      · rw [goR_bad hf h0]; exact (check_small h).2
theorem run_len (D : Dk) (os : List Op) (fuse : Int) (F : Ft) : (pRun D os fuse F).1.pend.length ≤ 64 := by
  unfold pRun
  split
  · rename_i h; exact goR_len F fuse os 0 D h
  · simp
/-- Ops in a box. -/
structure OBx (w : World) (b : Nat) (L FA FQ : Option Addr) (lc fc fd : Nat) (os : List Op) (fuse : Int) (F : Ft) : Prop where
  k : Bk w b #[.slice L os.length lc, .int .i64 fuse, .slice FA F.order.length fc, .slice FQ F.part.length fd] 64
  l : Os w L os
  a : Is w FA F.order
  p : Is w FQ F.part
theorem OBx.ext {w w' : World} {b : Nat} {L FA FQ : Option Addr} {lc fc fd : Nat} {os : List Op} {fuse : Int} {F : Ft} (h : OBx w b L FA FQ lc fc fd os fuse F) (e : Ext w w') : OBx w' b L FA FQ lc fc fd os fuse F := ⟨h.k.ext e, h.l.ext e, h.a.ext e, h.p.ext e⟩
theorem OBx.cells {w : World} {b : Nat} {L FA FQ : Option Addr} {lc fc fd : Nat} {os : List Op} {fuse : Int} {F : Ft} (h : OBx w b L FA FQ lc fc fd os fuse F) : w.cell? ⟨b, 0, none⟩ = some (.slice L os.length lc) ∧ w.cell? ⟨b, 1, none⟩ = some (.int .i64 fuse) ∧ w.cell? ⟨b, 2, none⟩ = some (.slice FA F.order.length fc) ∧ w.cell? ⟨b, 3, none⟩ = some (.slice FQ F.part.length fd) := ⟨h.k.cell 0, h.k.cell 1, h.k.cell 2, h.k.cell 3⟩
set_option maxRecDepth 100000 in
set_option maxHeartbeats 8000000 in
theorem runs_any (A P L FA FQ : Option Addr) (c p lc fc fd : Nat) (D : Dk) (os : List Op) (fuse : Int) (F : Ft) (w : World) (hA : By w A D.bytes) (hP : Ws w P D.pend) (hL : Os w L os) (hFA : Is w FA F.order) (hFQ : Is w FQ F.part) :
    Calls Try.prog 12 #[.agg #[.slice A D.bytes.length c, .slice P D.pend.length p], .agg #[.slice L os.length lc, .int .i64 fuse, .slice FA F.order.length fc, .slice FQ F.part.length fd]] w fun e w' => e = .returned (.bool true) ∧ Ext w w' := by
  obtain ⟨W, hW, hE, hz, k0, k1⟩ := box2 w #[.slice A D.bytes.length c, .slice P D.pend.length p] #[.slice L os.length lc, .int .i64 fuse, .slice FA F.order.length fc, .slice FQ F.part.length fd] 25 64
  have HD : Hid (DBx W w.heap.size A P c p D) := ⟨k0, hA.ext hE, hP.ext hE⟩
  have HX : Hid (OBx W (w.heap.size + 1) L FA FQ lc fc fd os fuse F) := ⟨k1, hL.ext hE, hFA.ext hE, hFQ.ext hE⟩
  have HE := Lib.hid hE
  have hc := HD.out.cells
  clear hE hP hA hL hFA hFQ k0 k1 hz
  go_enter Try.func12, Try.ntmps12
  go_wp2_with fail
  refine (thin_any A P c p D W HD.out.p).mono ?_
  rintro e w0 ⟨rfl, hE1⟩
  have Hq := Lib.hid (HD.out.ext hE1)
  clear HD
  have HD := Hq
  clear Hq
  have Hq := Lib.hid (HX.out.ext hE1)
  clear HX
  have HX := Hq
  clear Hq
  have Hq := Lib.hid (HE.out.trans hE1)
  clear HE
  have HE := Hq
  clear Hq
  clear hE1 hc hW
  have hd := HX.out.cells
  by_cases ht : pThin D = true
  · have Hsm := Lib.hid (thin_small ht)
    rw [ht]
    clear ht
    go_wp2_with fail
    refine (thinOps_any L FA FQ lc fc fd os fuse F w0 HX.out.l).mono ?_
    rintro e w1 ⟨rfl, hE1⟩
    have Hq := Lib.hid (HD.out.ext hE1)
    clear HD
    have HD := Hq
    clear Hq
    have Hq := Lib.hid (HX.out.ext hE1)
    clear HX
    have HX := Hq
    clear Hq
    have Hq := Lib.hid (HE.out.trans hE1)
    clear HE
    have HE := Hq
    clear Hq
    clear hE1 hd
    have hc := HD.out.cells
    have hd := HX.out.cells
    by_cases ht : pThinO os F = true
    · have Hl := Lib.hid (thinO_parts ht)
      rw [ht]
      clear ht
      go_wp2_with fail
      have HD1 := HD
      have HX1 := HX
      have hS := Lib.hid (fun w' (h : Ext w1 w') => (⟨h, (HD1.out.ext h).cells.1, (HD1.out.ext h).cells.2, (HX1.out.ext h).cells.1⟩ : Ext w1 w' ∧ w'.cell? ⟨w.heap.size, 0, none⟩ = some (.slice A D.bytes.length c) ∧ w'.cell? ⟨w.heap.size, 1, none⟩ = some (.slice P D.pend.length p) ∧ w'.cell? ⟨w.heap.size + 1, 0, none⟩ = some (.slice L os.length lc)))
      refine wp_region_rel 6 (by kernel_rfl) (by kernel_rfl) (Ext.refl w1).drew ?_
      (apply relW_fix
       · intro vs w' hw hf
         have hc := hS.out w' hw
         unfold okAt
         go_simp
         first | exact ⟨rfl, Ext.refl _⟩ | exact rfl
       · intro vs; go_simp; rfl)
      (apply relW_any (SV.cd D)
       · intro vs w' hw hf
         have hc := hS.out w' hw
         skip
         unfold okAt
         go_simp
         refine ⟨Ext.refl _, ?_⟩; go_at_call 26; refine (copy_dv2 A P c p D w' (HD1.out.a.ext hw) (HD1.out.p.ext hw) Hsm.out).mono ?_; rintro e w5 ⟨A', c', P', p', rfl, h1, h2, h3⟩; exact ⟨_, rfl, ⟨A', P', c', p', rfl, h2, h3⟩, h1⟩
       · intro vs; go_simp; rfl)
      (apply relW_fix
       · intro vs w' hw hf
         have hc := hS.out w' hw
         unfold okAt
         go_simp
         first | exact ⟨rfl, Ext.refl _⟩ | exact rfl
       · intro vs; go_simp; rfl)
      (apply relW_fix
       · intro vs w' hw hf
         have hc := hS.out w' hw
         unfold okAt
         go_simp
         first | exact ⟨rfl, Ext.refl _⟩ | exact rfl
       · intro vs; go_simp; rfl)
      (apply relW_any (SV.osv os)
       · intro vs w' hw hf
         have hc := hS.out w' hw
         skip
         unfold okAt
         go_simp
         refine ⟨Ext.refl _, ?_⟩; go_at_call 44; refine (owns_any L lc os w' (HX1.out.l.ext hw) (by have := Hl.out.1; omega) (fun x hx => by have := Hl.out.2.2.2 x hx; omega)).mono ?_; rintro e w5 ⟨P', c', rfl, h1, h2⟩; exact ⟨_, rfl, ⟨P', c', rfl, h2⟩, h1⟩
       · intro vs; go_simp; rfl)
      (apply relW_any (SV.al w1.heap.size #[.slice none 0 0, .slice none 0 0] 25)
       · intro vs w' hw hf
         have hc := hS.out w' hw
         skip
         unfold okAt
         go_simp
         exact ⟨⟨_, rfl, Bk.new _ _ _, hw.size⟩, (Ext.refl _).alloc _⟩
       · intro vs; go_simp; rfl)
      refine relW_nil fun vs w2 hw hf => ?_
      obtain ⟨⟨b5, e5, kb5, hb5⟩, ⟨OL, olc, e4, hOL⟩, ⟨B, Q, cb, cq, e1, hB, hQ⟩, -⟩ := hf
      have hE2 : Ext w1 w2 := hw
      have g0 := kb5.cell 0
      have g1 := kb5.cell 1
      have g4 := kb5.frozen 0
      have g5 := kb5.frozen 1
      simp at g0 g1
      clear hS HD HX
      go_upto_region 4 with fail
      obtain ⟨V, hV, hVb, kb, hoff⟩ := one_box (B := w1.heap.size) kb5 hb5 (.slice B D.bytes.length cb) (.slice Q D.pend.length cq)
      rw [hV]; clear hV
      have hEV : Ext w1 V := Below.trans hE2 hVb
      have HB : Hid (DBx V b5 B Q cb cq D) := ⟨kb, hB.offS kb5 hoff, hQ.ws.offS kb5 hoff⟩
      have HO := Lib.hid (hOL.offS kb5 hoff)
      have HD := Lib.hid (HD1.out.ext hEV)
      have HX := Lib.hid (HX1.out.ext hEV)
      have Hq := Lib.hid (HE.out.trans hEV)
      clear HE
      have HE := Hq
      clear Hq
      clear hE2 g0 g1 g4 g5 hVb kb hoff hEV hB hQ hOL kb5 hb5 hw HD1 HX1 hc hd e1
      have HB1 := HB
      have HX1 := HX
      have HO1 := HO
      have hS := Lib.hid (fun w' (h : Ext V w') => (⟨h, (HB1.out.ext h).cells.1, (HB1.out.ext h).cells.2, (HX1.out.ext h).cells.2.1, (HX1.out.ext h).cells.2.2.1, (HX1.out.ext h).cells.2.2.2⟩ : Ext V w' ∧ w'.cell? ⟨b5, 0, none⟩ = some (.slice B D.bytes.length cb) ∧ w'.cell? ⟨b5, 1, none⟩ = some (.slice Q D.pend.length cq) ∧ w'.cell? ⟨w.heap.size + 1, 1, none⟩ = some (.int .i64 fuse) ∧ w'.cell? ⟨w.heap.size + 1, 2, none⟩ = some (.slice FA F.order.length fc) ∧ w'.cell? ⟨w.heap.size + 1, 3, none⟩ = some (.slice FQ F.part.length fd)))
      obtain ⟨R, hR⟩ : ∃ R, pRun D os fuse F = R := ⟨_, rfl⟩
      have HR := Lib.hid hR
      clear hR
      refine wp_region_rell 13 (by kernel_rfl) (by kernel_rfl) (fun _ _ _ _ _ h => h) (Ext.refl V).drew ?_
      (apply relW_fix
       · intro vs w' hw hf
         have hc := hS.out w' hw
         unfold okAt
         go_simp
         first | exact ⟨rfl, Ext.refl _⟩ | exact rfl
       · intro vs; go_simp; rfl)
      (apply relW_fix
       · intro vs w' hw hf
         have hc := hS.out w' hw
         unfold okAt
         go_simp
         first | exact ⟨rfl, Ext.refl _⟩ | exact rfl
       · intro vs; go_simp; rfl)
      (apply relW_fix
       · intro vs w' hw hf
         have hc := hS.out w' hw
         unfold okAt
         go_simp
         first | exact ⟨rfl, Ext.refl _⟩ | exact rfl
       · intro vs; go_simp; rfl)
      (apply relW_fix
       · intro vs w' hw hf
         have hc := hS.out w' hw
         unfold okAt
         go_simp
         first | exact ⟨rfl, Ext.refl _⟩ | exact rfl
       · intro vs; go_simp; rfl)
      (apply relW_fix
       · intro vs w' hw hf
         have hc := hS.out w' hw
         unfold okAt
         go_simp
         first | exact ⟨rfl, Ext.refl _⟩ | exact rfl
       · intro vs; go_simp; rfl)
      (apply relW_fix
       · intro vs w' hw hf
         have hc := hS.out w' hw
         unfold okAt
         go_simp
         first | exact ⟨rfl, Ext.refl _⟩ | exact rfl
       · intro vs; go_simp; rfl)
      (apply relW_any (SV.cf F)
       · intro vs w' hw hf
         have hc := hS.out w' hw
         skip
         unfold okAt
         go_simp
         refine ⟨Ext.refl _, ?_⟩; go_at_call 21; refine (copyFate_any FA FQ fc fd F w' (HX1.out.a.ext hw) (HX1.out.p.ext hw) (by have := Hl.out; omega) (by have := Hl.out; omega)).mono ?_; rintro e w5 ⟨v, rfl, ⟨A', c', P', p', rfl, h1, h2, h3, h4⟩, h5⟩; exact ⟨_, rfl, ⟨A', P', c', p', rfl, h2, h4⟩, h5⟩
       · intro vs; go_simp; rfl)
      (apply relW_any (SV.rr R)
       · intro vs w' hw hf
         have hc := hS.out w' hw
         obtain ⟨CA, CP, cca, ccp, e6, hCA, hCP⟩ := hf.out.1 (by kernel_rfl)
         unfold okAt
         go_simp
         refine ⟨Ext.refl _, ?_⟩; go_at_call 45; rw [← HR.out]; exact run_rr B Q OL CA CP cb cq olc cca ccp D os fuse F w' (HB1.out.a.ext hw) (HB1.out.p.ext hw) (HO1.out.ext hw) hCA hCP Hsm.out (by have := Hl.out.1; omega) (fun x hx => by have := Hl.out.2.2.2 x hx; omega)
       · intro vs; go_simp; rfl)
      (apply relW_any (SV.rr R)
       · intro vs w' hw hf
         have hc := hS.out w' hw
         obtain ⟨A7, c7, P7, p7, e6, h2, h3⟩ := hf.out.1 (by kernel_rfl)
         unfold okAt
         go_simp
         exact ⟨⟨A7, c7, P7, p7, rfl, h2, h3⟩, Ext.refl _⟩
       · intro vs; go_simp; rfl)
      (apply relW_any (SV.r1 R.1)
       · intro vs w' hw hf
         have hc := hS.out w' hw
         obtain ⟨A7, c7, P7, p7, e6, h2, h3⟩ := hf.out.1 (by kernel_rfl)
         unfold okAt
         go_simp
         exact ⟨⟨A7, P7, c7, p7, rfl, h2, h3⟩, Ext.refl _⟩
       · intro vs; go_simp; rfl)
      (apply relW_any (SV.eq (.int .i64 (R.2.1 : Int)))
       · intro vs w' hw hf
         have hc := hS.out w' hw
         obtain ⟨A7, c7, P7, p7, e6, h2, h3⟩ := hf.out.2.1 (by kernel_rfl)
         unfold okAt
         go_simp
         exact ⟨rfl, Ext.refl _⟩
       · intro vs; go_simp; rfl)
      (apply relW_any (SV.eq (.int .i64 R.2.2))
       · intro vs w' hw hf
         have hc := hS.out w' hw
         obtain ⟨A7, c7, P7, p7, e6, h2, h3⟩ := hf.out.2.2.1 (by kernel_rfl)
         unfold okAt
         go_simp
         exact ⟨rfl, Ext.refl _⟩
       · intro vs; go_simp; rfl)
      (apply relW_any (SV.al V.heap.size #[.slice none 0 0, .slice none 0 0] 25)
       · intro vs w' hw hf
         have hc := hS.out w' hw
         skip
         unfold okAt
         go_simp
         exact ⟨⟨_, rfl, Bk.new _ _ _, hw.size⟩, (Ext.refl _).alloc _⟩
       · intro vs; go_simp; rfl)
      refine relW_nil fun vs3 w3 hw hf => ?_
      obtain ⟨⟨b7, e12, kb7, hb7⟩, e11, e10, ⟨A7, P7, c7, p7, e9, hA7, hP7⟩, -⟩ := hf
      have e11 : vs3 11 = .int .i64 R.2.2 := e11
      have e10 : vs3 10 = .int .i64 (R.2.1 : Int) := e10
      have hE3 : Ext V w3 := hw
      have g0 := kb7.cell 0
      have g1 := kb7.cell 1
      have g4 := kb7.frozen 0
      have g5 := kb7.frozen 1
      simp at g0 g1
      clear hS HB HX HO
      simp only [List.drop]
      go_upto_region 5 with fail
      obtain ⟨V3, hV3, hVb, kb, hoff⟩ := one_box (B := V.heap.size) kb7 hb7 (.slice A7 R.1.bytes.length c7) (.slice P7 R.1.pend.length p7)
      rw [hV3]; clear hV3
      have hEV : Ext V V3 := Below.trans hE3 hVb
      have H7 : Hid (DBx V3 b7 A7 P7 c7 p7 R.1) := ⟨kb, hA7.offS kb7 hoff, hP7.offS kb7 hoff⟩
      have HB := Lib.hid (HB1.out.ext hEV)
      have HX := Lib.hid (HX1.out.ext hEV)
      have HO := Lib.hid (HO1.out.ext hEV)
      have Hq := Lib.hid (HD.out.ext hEV)
      clear HD
      have HD := Hq
      clear Hq
      have Hq := Lib.hid (HE.out.trans hEV)
      clear HE
      have HE := Hq
      clear Hq
      clear hE3 g0 g1 g4 g5 hVb kb hoff hEV hA7 hP7 kb7 hb7 hw HB1 HX1 HO1 e9
      have hc := HD.out.cells
      have hd := HX.out.cells
      go_wp2_with fail
      refine (rRun_any A P L FA FQ c p lc fc fd D os fuse F V3 HD.out.a HD.out.p HX.out.l HX.out.a HX.out.p Hsm.out (by have := Hl.out.1; omega) (fun x hx => by have := Hl.out.2.2.2 x hx; omega)).mono ?_
      rw [HR.out]
      rintro e w5 ⟨A8, c8, P8, p8, rfl, hE5, hA8, hP8⟩
      clear hc hd
      have Hq := Lib.hid (HD.out.ext hE5)
      clear HD
      have HD := Hq
      clear Hq
      have Hq := Lib.hid (HX.out.ext hE5)
      clear HX
      have HX := Hq
      clear Hq
      have Hq := Lib.hid (HB.out.ext hE5)
      clear HB
      have HB := Hq
      clear Hq
      have Hq := Lib.hid (HO.out.ext hE5)
      clear HO
      have HO := Hq
      clear Hq
      have Hq := Lib.hid (H7.out.ext hE5)
      clear H7
      have H7 := Hq
      clear Hq
      have Hq := Lib.hid (HE.out.trans hE5)
      clear HE
      have HE := Hq
      clear Hq
      obtain ⟨V5, hV5, hE6, hz5, k8⟩ := box1 w5 #[.slice A8 R.1.bytes.length c8, .slice P8 R.1.pend.length p8] 25
      have H8 : Hid (DBx V5 w5.heap.size A8 P8 c8 p8 R.1) := ⟨k8, hA8.ext hE6, hP8.ext hE6⟩
      have Hq := Lib.hid (HD.out.ext hE6)
      clear HD
      have HD := Hq
      clear Hq
      have Hq := Lib.hid (HX.out.ext hE6)
      clear HX
      have HX := Hq
      clear Hq
      have Hq := Lib.hid (HB.out.ext hE6)
      clear HB
      have HB := Hq
      clear Hq
      have Hq := Lib.hid (HO.out.ext hE6)
      clear HO
      have HO := Hq
      clear Hq
      have Hq := Lib.hid (H7.out.ext hE6)
      clear H7
      have H7 := Hq
      clear Hq
      have Hq := Lib.hid (HE.out.trans hE6)
      clear HE
      have HE := Hq
      clear Hq
      clear hE5 hE6 hz5 k8 hA8 hP8
      have h7 := H7.out.cells
      have h8 := H8.out.cells
      go_wp2_with fail
      clear hV5
      have hrl : R.1.pend.length ≤ 64 := by rw [← HR.out]; exact run_len D os fuse F
      refine (same_any A7 P7 A8 P8 c7 p7 c8 p8 R.1 R.1 V5 H7.out.a H7.out.p H8.out.a H8.out.p (by omega)).mono ?_
      rintro e w6 ⟨rfl, hE6⟩
      clear h7 h8 hrl
      have Hq := Lib.hid (HD.out.ext hE6)
      clear HD
      have HD := Hq
      clear Hq
      have Hq := Lib.hid (HX.out.ext hE6)
      clear HX
      have HX := Hq
      clear Hq
      have Hq := Lib.hid (HB.out.ext hE6)
      clear HB
      have HB := Hq
      clear Hq
      have Hq := Lib.hid (HO.out.ext hE6)
      clear HO
      have HO := Hq
      clear Hq
      have Hq := Lib.hid (HE.out.trans hE6)
      clear HE
      have HE := Hq
      clear Hq
      clear hE6 H7 H8
      have hb := HB.out.cells
      have hc := HD.out.cells
      simp only [decide_true]
      go_wp2_with fail
      refine (same_any B Q A P cb cq c p D D w6 HB.out.a HB.out.p HD.out.a HD.out.p (by have := Hsm.out.2.1; omega)).mono ?_
      rintro e w7 ⟨rfl, hE7⟩
      clear hb hc
      have Hq := Lib.hid (HD.out.ext hE7)
      clear HD
      have HD := Hq
      clear Hq
      have Hq := Lib.hid (HX.out.ext hE7)
      clear HX
      have HX := Hq
      clear Hq
      have Hq := Lib.hid (HB.out.ext hE7)
      clear HB
      have HB := Hq
      clear Hq
      have Hq := Lib.hid (HO.out.ext hE7)
      clear HO
      have HO := Hq
      clear Hq
      have Hq := Lib.hid (HE.out.trans hE7)
      clear HE
      have HE := Hq
      clear Hq
      clear hE7
      have hd := HX.out.cells
      simp only [decide_true]
      go_wp2_with fail
      clear hd
      go_loopw [13] (fun vi wr => ∃ i : Nat, i ≤ os.length ∧ vi = .int .i64 i ∧ Ext w7 wr) (fun vi _ => os.length - (intOf vi).toNat)
      case atStart => exact ⟨0, Nat.zero_le _, rfl, Ext.refl _⟩
      case round =>
        obtain ⟨i, hi, rfl, hEr⟩ := hrel
        have hi9 : (i : Int) ≤ 40 := by have := Hl.out.1; omega
        by_cases hlt : i < os.length
        · obtain ⟨ob, oo, B1, d1, rfl, p1, p2, p3, p4, p5⟩ := (HO.out.ext hEr) i os[i] (List.getElem?_eq_getElem hlt)
          obtain ⟨lb, lo, B2, d2, rfl, r1, r2, r3, r4, r5⟩ := (HX.out.l.ext hEr) i os[i] (List.getElem?_eq_getElem hlt)
          have hlt' : (i : Int) < (os.length : Int) := by omega
          have hS := Lib.hid (fun w' (h : Ext wr w') => (⟨h, cellExt h p1, cellExt h p2, cellExt h p3, cellExt h r1, cellExt h r2, cellExt h r3, (HX.out.ext (hEr.trans h)).cells.1, conv_by (p5.ext h) d1, conv_by (r5.ext h) d2⟩ : Ext wr w' ∧ w'.cell? ⟨ob, oo + i * 3, none⟩ = some (.int .u8 os[i].1) ∧ w'.cell? ⟨ob, oo + i * 3 + 1, none⟩ = some (.int .i64 os[i].2.blk) ∧ w'.cell? ⟨ob, oo + i * 3 + 2, none⟩ = some (.slice B1 os[i].2.bs.length d1) ∧ w'.cell? ⟨lb, lo + i * 3, none⟩ = some (.int .u8 os[i].1) ∧ w'.cell? ⟨lb, lo + i * 3 + 1, none⟩ = some (.int .i64 os[i].2.blk) ∧ w'.cell? ⟨lb, lo + i * 3 + 2, none⟩ = some (.slice B2 os[i].2.bs.length d2) ∧ w'.cell? ⟨w.heap.size + 1, 0, none⟩ = some (.slice (some ⟨lb, lo, none⟩) os.length lc) ∧ (convert 22 9 (.slice B1 os[i].2.bs.length d1)).run Try.prog w' = .ok (.string (strB os[i].2.bs)) w' ∧ (convert 22 9 (.slice B2 os[i].2.bs.length d2)).run Try.prog w' = .ok (.string (strB os[i].2.bs)) w'))
          have ts := strB_toList
          clear p1 p2 p3 p4 p5 r1 r2 r3 r4 r5
          go_wp2_with fail
          refine wp_region_rel 42 (by kernel_rfl) (by kernel_rfl) (Ext.refl wr).drew ?_
          repeat (apply relW_fix
                  · intro vs w' hw hf
                    have hc := hS.out w' hw
                    unfold okAt
                    go_simp
                    first | exact ⟨rfl, Ext.refl _⟩ | exact rfl
                  · intro vs; go_simp; rfl)
          refine relW_nil fun vs6 w8 hw hf => ?_
          refine wpList_nil ?_
          have HE8 := Lib.hid (hEr.trans hw)
          clear hS hf hEr hw
          go_wp2
          go_roundw
          case rel => exact ⟨i + 1, by omega, by go_num, HE8.out⟩
          case measure => simp [intOf]; omega
        · obtain rfl : i = os.length := by omega
          have Hq := Lib.hid (HD.out.ext hEr)
          clear HD
          have HD := Hq
          clear Hq
          have Hq := Lib.hid (HX.out.ext hEr)
          clear HX
          have HX := Hq
          clear Hq
          have Hq := Lib.hid (HB.out.ext hEr)
          clear HB
          have HB := Hq
          clear Hq
          have Hq := Lib.hid (HO.out.ext hEr)
          clear HO
          have HO := Hq
          clear Hq
          have Hq := Lib.hid (HE.out.trans hEr)
          clear HE
          have HE := Hq
          clear Hq
          clear hEr
          by_cases h0 : os = []
          · subst h0
            go_wp2_with fail
            refine (awake_any _).mono ?_
            rintro e w4 ⟨rfl, hE6⟩
            have HE' := Lib.hid (HE.out.trans hE6)
            clear hE6
            go_wp2_with fail
            go_ret
            exact ⟨rfl, HE'.out⟩
          · have hpos : 0 < os.length := List.length_pos_iff.2 h0
            obtain ⟨ob, oo, B1, d1, rfl, p1, p2, p3, p4, p5⟩ := HO.out 0 os[0] (List.getElem?_eq_getElem hpos)
            obtain ⟨lb, lo, B2, d2, rfl, r1, r2, r3, r4, r5⟩ := HX.out.l 0 os[0] (List.getElem?_eq_getElem hpos)
            simp only [Nat.zero_mul, Nat.add_zero] at p1 p2 p3 r1 r2 r3
            have hp1 : (0 : Int) < (os.length : Int) := by omega
            have hp2 : decide ((0 : Int) < (os.length : Int)) = true := decide_eq_true hp1
            have Hp5 := Lib.hid p5
            have Hr5 := Lib.hid r5
            have hbs := Hl.out.2.2.2 os[0] (List.getElem_mem hpos)
            have hS := Lib.hid (fun w' (h : Ext wr w') => (⟨h, (HB.out.ext h).cells.1, (HB.out.ext h).cells.2, cellExt h p1, cellExt h p2, cellExt h p3⟩ : Ext wr w' ∧ w'.cell? ⟨b5, 0, none⟩ = some (.slice B D.bytes.length cb) ∧ w'.cell? ⟨b5, 1, none⟩ = some (.slice Q D.pend.length cq) ∧ w'.cell? ⟨ob, oo, none⟩ = some (.int .u8 os[0].1) ∧ w'.cell? ⟨ob, oo + 1, none⟩ = some (.int .i64 os[0].2.blk) ∧ w'.cell? ⟨ob, oo + 2, none⟩ = some (.slice B1 os[0].2.bs.length d1)))
            have HR1 := Lib.hid r1
            have HR2 := Lib.hid r2
            have HR3 := Lib.hid r3
            obtain ⟨E, hE⟩ : ∃ E, resD (pDo D os[0].1 os[0].2) (pDoD D os[0].1 os[0].2) = E := ⟨_, rfl⟩
            obtain ⟨er, her⟩ : ∃ er, pDo D os[0].1 os[0].2 = er := ⟨_, rfl⟩
            rw [her] at hE
            have HEq := Lib.hid hE
            have Her := Lib.hid her
            clear h0 p1 p2 p3 p4 p5 r1 r2 r3 r4 r5 hE her
            go_wp2_with fail
            refine wp_region_rell 9 (by kernel_rfl) (by kernel_rfl) (fun _ _ _ _ _ h => h) (Ext.refl wr).drew ?_
            (apply relW_fix
             · intro vs w' hw hf
               have hc := hS.out w' hw
               unfold okAt
               go_simp
               first | exact ⟨rfl, Ext.refl _⟩ | exact rfl
             · intro vs; go_simp; rfl)
            (apply relW_fix
             · intro vs w' hw hf
               have hc := hS.out w' hw
               unfold okAt
               go_simp
               first | exact ⟨rfl, Ext.refl _⟩ | exact rfl
             · intro vs; go_simp; rfl)
            (apply relW_fix
             · intro vs w' hw hf
               have hc := hS.out w' hw
               unfold okAt
               go_simp
               first | exact ⟨rfl, Ext.refl _⟩ | exact rfl
             · intro vs; go_simp; rfl)
            (apply relW_fix
             · intro vs w' hw hf
               have hc := hS.out w' hw
               unfold okAt
               go_simp
               first | exact ⟨rfl, Ext.refl _⟩ | exact rfl
             · intro vs; go_simp; rfl)
            (apply relW_any (SV.rv E er)
             · intro vs w' hw hf
               have hc := hS.out w' hw
               skip
               unfold okAt
               go_simp
               refine ⟨Ext.refl _, ?_⟩; go_at_call 47; refine (doF_any B Q B1 cb cq d1 D os[0].1 os[0].2 w' (HB.out.a.ext hw) (HB.out.p.ext hw) (Hp5.out.ext hw) Hsm.out (by omega)).mono ?_; rintro e w5 hr; obtain ⟨v, rfl, h1, h2⟩ := hr.retV; rw [Her.out, HEq.out] at h2; rw [Her.out]; obtain ⟨A7, c7, P7, p7, rfl, _, hA7, _, hP7⟩ := h2; exact ⟨_, rfl, ⟨A7, P7, c7, p7, rfl, hA7, hP7⟩, h1⟩
             · intro vs; go_simp; rfl)
            (apply relW_any (SV.rv E er)
             · intro vs w' hw hf
               have hc := hS.out w' hw
               obtain ⟨A7, P7, c7, p7, e6, h2, h3⟩ := hf.out.1 (by kernel_rfl)
               unfold okAt
               go_simp
               exact ⟨⟨A7, P7, c7, p7, rfl, h2, h3⟩, Ext.refl _⟩
             · intro vs; go_simp; rfl)
            (apply relW_any (SV.r1 E)
             · intro vs w' hw hf
               have hc := hS.out w' hw
               obtain ⟨A7, P7, c7, p7, e6, h2, h3⟩ := hf.out.1 (by kernel_rfl)
               unfold okAt
               go_simp
               exact ⟨⟨A7, P7, c7, p7, rfl, h2, h3⟩, Ext.refl _⟩
             · intro vs; go_simp; rfl)
            (apply relW_any (SV.eq (.int .i64 er))
             · intro vs w' hw hf
               have hc := hS.out w' hw
               obtain ⟨A7, P7, c7, p7, e6, h2, h3⟩ := hf.out.2.1 (by kernel_rfl)
               unfold okAt
               go_simp
               exact ⟨rfl, Ext.refl _⟩
             · intro vs; go_simp; rfl)
            (apply relW_any (SV.al wr.heap.size #[.slice none 0 0, .slice none 0 0] 25)
             · intro vs w' hw hf
               have hc := hS.out w' hw
               skip
               unfold okAt
               go_simp
               exact ⟨⟨_, rfl, Bk.new _ _ _, hw.size⟩, (Ext.refl _).alloc _⟩
             · intro vs; go_simp; rfl)
            refine relW_nil fun vs6 w8 hw hf => ?_
            obtain ⟨⟨b14, e14, kb7, hb7⟩, e15, ⟨A7, P7, c7, p7, e9, hA7, hP7⟩, -⟩ := hf
            have e15 : vs6 7 = .int .i64 er := e15
            have g0 := kb7.cell 0
            have g1 := kb7.cell 1
            have g4 := kb7.frozen 0
            have g5 := kb7.frozen 1
            simp at g0 g1
            clear hS
            simp only [List.drop]
            go_upto_region 15 with fail
            obtain ⟨V9, hV9, hVb, kb, hoff⟩ := one_box (B := wr.heap.size) kb7 hb7 (.slice A7 E.bytes.length c7) (.slice P7 E.pend.length p7)
            rw [hV9]; clear hV9
            have hEV : Ext wr V9 := Below.trans hw hVb
            have H7 : Hid (DBx V9 b14 A7 P7 c7 p7 E) := ⟨kb, hA7.offS kb7 hoff, hP7.offS kb7 hoff⟩
            have hS := Lib.hid (fun w' (h : Ext V9 w') => (⟨h, (HD.out.ext (hEV.trans h)).cells.1, (HD.out.ext (hEV.trans h)).cells.2, (HX.out.ext (hEV.trans h)).cells.1, cellExt (hEV.trans h) HR1.out, cellExt (hEV.trans h) HR2.out, cellExt (hEV.trans h) HR3.out⟩ : Ext V9 w' ∧ w'.cell? ⟨w.heap.size, 0, none⟩ = some (.slice A D.bytes.length c) ∧ w'.cell? ⟨w.heap.size, 1, none⟩ = some (.slice P D.pend.length p) ∧ w'.cell? ⟨w.heap.size + 1, 0, none⟩ = some (.slice (some ⟨lb, lo, none⟩) os.length lc) ∧ w'.cell? ⟨lb, lo, none⟩ = some (.int .u8 os[0].1) ∧ w'.cell? ⟨lb, lo + 1, none⟩ = some (.int .i64 os[0].2.blk) ∧ w'.cell? ⟨lb, lo + 2, none⟩ = some (.slice B2 os[0].2.bs.length d2)))
            clear hVb kb hoff hA7 hP7 kb7 hb7 g0 g1 g4 g5 e9 hp1
            refine wp_region_rell 10 (by kernel_rfl) (by kernel_rfl) (fun _ _ _ _ _ h => h) (Ext.refl V9).drew ?_
            (apply relW_fix
             · intro vs w' hw hf
               have hc := hS.out w' hw
               unfold okAt
               go_simp
               first | exact ⟨rfl, Ext.refl _⟩ | exact rfl
             · intro vs; go_simp; rfl)
            (apply relW_fix
             · intro vs w' hw hf
               have hc := hS.out w' hw
               unfold okAt
               go_simp
               first | exact ⟨rfl, Ext.refl _⟩ | exact rfl
             · intro vs; go_simp; rfl)
            (apply relW_fix
             · intro vs w' hw hf
               have hc := hS.out w' hw
               unfold okAt
               go_simp
               first | exact ⟨rfl, Ext.refl _⟩ | exact rfl
             · intro vs; go_simp; rfl)
            (apply relW_fix
             · intro vs w' hw hf
               have hc := hS.out w' hw
               unfold okAt
               go_simp
               first | exact ⟨rfl, Ext.refl _⟩ | exact rfl
             · intro vs; go_simp; rfl)
            (apply relW_fix
             · intro vs w' hw hf
               have hc := hS.out w' hw
               unfold okAt
               go_simp
               first | exact ⟨rfl, Ext.refl _⟩ | exact rfl
             · intro vs; go_simp; rfl)
            (apply relW_any (SV.rv E er)
             · intro vs w' hw hf
               have hc := hS.out w' hw
               skip
               unfold okAt
               go_simp
               refine ⟨Ext.refl _, ?_⟩; go_at_call 48; refine (rDo_any A P B2 c p d2 D os[0].1 os[0].2 w' (HD.out.a.ext (hEV.trans hw)) (HD.out.p.ext (hEV.trans hw)) (Hr5.out.ext (hEV.trans hw)) Hsm.out (by omega)).mono ?_; rintro e w5 ⟨v, rfl, h1, h2⟩; rw [Her.out, HEq.out] at h2; rw [Her.out]; obtain ⟨A7, c7, P7, p7, rfl, _, hA7, _, hP7⟩ := h2; exact ⟨_, rfl, ⟨A7, P7, c7, p7, rfl, hA7, hP7⟩, h1⟩
             · intro vs; go_simp; rfl)
            (apply relW_any (SV.rv E er)
             · intro vs w' hw hf
               have hc := hS.out w' hw
               obtain ⟨A7, P7, c7, p7, e6, h2, h3⟩ := hf.out.1 (by kernel_rfl)
               unfold okAt
               go_simp
               exact ⟨⟨A7, P7, c7, p7, rfl, h2, h3⟩, Ext.refl _⟩
             · intro vs; go_simp; rfl)
            (apply relW_any (SV.r1 E)
             · intro vs w' hw hf
               have hc := hS.out w' hw
               obtain ⟨A7, P7, c7, p7, e6, h2, h3⟩ := hf.out.1 (by kernel_rfl)
               unfold okAt
               go_simp
               exact ⟨⟨A7, P7, c7, p7, rfl, h2, h3⟩, Ext.refl _⟩
             · intro vs; go_simp; rfl)
            (apply relW_any (SV.eq (.int .i64 er))
             · intro vs w' hw hf
               have hc := hS.out w' hw
               obtain ⟨A7, P7, c7, p7, e6, h2, h3⟩ := hf.out.2.1 (by kernel_rfl)
               unfold okAt
               go_simp
               exact ⟨rfl, Ext.refl _⟩
             · intro vs; go_simp; rfl)
            (apply relW_any (SV.al V9.heap.size #[.slice none 0 0, .slice none 0 0] 25)
             · intro vs w' hw hf
               have hc := hS.out w' hw
               skip
               unfold okAt
               go_simp
               exact ⟨⟨_, rfl, Bk.new _ _ _, hw.size⟩, (Ext.refl _).alloc _⟩
             · intro vs; go_simp; rfl)
            refine relW_nil fun vs7 w10 hw hf => ?_
            obtain ⟨⟨b16, e16, kb7, hb7⟩, e17, ⟨A9, P9, c9, p9, e9, hA9, hP9⟩, -⟩ := hf
            have e17 : vs7 8 = .int .i64 er := e17
            have g0 := kb7.cell 0
            have g1 := kb7.cell 1
            have g4 := kb7.frozen 0
            have g5 := kb7.frozen 1
            simp at g0 g1
            clear hS
            simp only [List.drop]
            go_upto_region 16 with fail
            obtain ⟨V11, hV11, hVb, kb, hoff⟩ := one_box (B := V9.heap.size) kb7 hb7 (.slice A9 E.bytes.length c9) (.slice P9 E.pend.length p9)
            rw [hV11]; clear hV11
            have hEV2 : Ext V9 V11 := Below.trans hw hVb
            have H9 : Hid (DBx V11 b16 A9 P9 c9 p9 E) := ⟨kb, hA9.offS kb7 hoff, hP9.offS kb7 hoff⟩
            have Hq := Lib.hid (H7.out.ext hEV2)
            clear H7
            have H7 := Hq
            clear Hq
            have Hq := Lib.hid (HE.out.trans (hEV.trans hEV2))
            clear HE
            have HE := Hq
            clear Hq
            have hpe : E.pend.length ≤ 1000000 := by
              rw [← HEq.out]
              unfold resD
              split
              · rename_i h
                rw [← Her.out] at h
                have hc0 : pCheck D = 0 := by
                  unfold pDo at h
                  split at h
                  · assumption
                  · exact absurd h (by assumption)
                have := (check_small (do_check hc0 os[0].1 os[0].2)).2
                omega
              · simp
            clear hEV hEV2 hVb kb hoff hA9 hP9 kb7 hb7 g0 g1 g4 g5 hw e9
            have h7 := H7.out.cells
            have h9 := H9.out.cells
            go_wp2_with fail
            refine (same_any A7 P7 A9 P9 c7 p7 c9 p9 E E V11 H7.out.a H7.out.p H9.out.a H9.out.p hpe).mono ?_
            rintro e w12 ⟨rfl, hE12⟩
            have Hq := Lib.hid (HE.out.trans hE12)
            clear HE
            have HE := Hq
            clear Hq
            clear hE12 H7 H9 h7 h9
            simp only [decide_true]
            go_wp2_with fail
            refine (awake_any _).mono ?_
            rintro e w4 ⟨rfl, hE6⟩
            have HE' := Lib.hid (HE.out.trans hE6)
            clear hE6
            go_wp2_with fail
            go_ret
            exact ⟨rfl, HE'.out⟩
    · rw [show pThinO os F = false by simpa using ht]
      clear ht
      go_wp2_with fail
      refine (awake_any _).mono ?_
      rintro e w4 ⟨rfl, hE6⟩
      have HE' := Lib.hid (HE.out.trans hE6)
      clear hE6
      go_wp2_with fail
      go_ret
      exact ⟨rfl, HE'.out⟩
  · rw [show pThin D = false by simpa using ht]
    clear ht
    go_wp2_with fail
    refine (awake_any _).mono ?_
    rintro e w4 ⟨rfl, hE6⟩
    have HE' := Lib.hid (HE.out.trans hE6)
    clear hE6
    go_wp2_with fail
    go_ret
    exact ⟨rfl, HE'.out⟩
end Go.Proofs.Ytdlalmbnkcadfaa
