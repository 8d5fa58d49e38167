/- DeviceCrashes: the walk. -/
import Derived.Test.YtdlalmbnkcadfaaN05
import Derived.Test.YtdlalmbnkcadfaaN04
namespace Go.Proofs.Ytdlalmbnkcadfaa
open Go.RowKit

/-- A fate in a box. -/
structure FBx (w : World) (b : Nat) (A P : Option Addr) (c p : Nat) (F : Ft) : Prop where
  k : Bk w b #[.slice A F.order.length c, .slice P F.part.length p] 34
  a : Is w A F.order
  p : Is w P F.part
theorem FBx.ext {w w' : World} {b : Nat} {A P : Option Addr} {c p : Nat} {F : Ft} (h : FBx w b A P c p F) (e : Ext w w') : FBx w' b A P c p F := ⟨h.k.ext e, h.a.ext e, h.p.ext e⟩
theorem FBx.cells {w : World} {b : Nat} {A P : Option Addr} {c p : Nat} {F : Ft} (h : FBx w b A P c p F) : w.cell? ⟨b, 0, none⟩ = some (.slice A F.order.length c) ∧ w.cell? ⟨b, 1, none⟩ = some (.slice P F.part.length p) := ⟨h.k.cell 0, h.k.cell 1⟩
theorem FBx.cellsA {w : World} {b : Nat} {A P : Option Addr} {c p : Nat} {F : Ft} (h : FBx w b A P c p F) (o : Obj) : (w.alloc o).cell? ⟨b, 0, none⟩ = some (.slice A F.order.length c) ∧ (w.alloc o).cell? ⟨b, 1, none⟩ = some (.slice P F.part.length p) := (h.ext ((Ext.refl _).alloc o)).cells
def SV.cf (F : Ft) : SV := ⟨fun v w => ∃ A P c p, v = .agg #[.slice A F.order.length c, .slice P F.part.length p] ∧ Is w A F.order ∧ Is w P F.part, fun ⟨A, P, c, p, h1, h2, h3⟩ e => ⟨A, P, c, p, h1, h2.ext e, h3.ext e⟩⟩
theorem Is.off {w V : World} {b b' : Nat} {t t' : TypeId} {A : Option Addr} {xs : List Int} (h : Is w A xs) (hk : Bk w b #[.slice none 0 0, .slice none 0 0] t) (hk' : Bk w b' #[.slice none 0 0, .slice none 0 0] t') (hV : ∀ k, k ≠ b → k ≠ b' → V.heap[k]? = w.heap[k]?) : Is V A xs := fun j v hj => by
  obtain ⟨ab, ao, rfl, hc⟩ := h j v hj
  have hv : ∃ z, v = .int .i64 z := by
    obtain ⟨x, _, rfl⟩ := List.mem_map.1 (List.mem_of_getElem? hj)
    exact ⟨_, rfl⟩
  obtain ⟨z, rfl⟩ := hv
  have hz : ∀ i : Nat, (#[Value.slice none 0 0, Value.slice none 0 0] : Array Value)[i]? ≠ some (Value.int .i64 z) := fun i => by
    match i with
    | 0 => simp
    | 1 => simp
    | n + 2 => simp
  have h1 : ab ≠ b := fun e => by subst e; rw [hk.cell] at hc; exact hz _ hc
  have h2 : ab ≠ b' := fun e => by subst e; rw [hk'.cell] at hc; exact hz _ hc
  exact ⟨ab, ao, rfl, (World.cell?_of_block (hV ab h1 h2)).trans hc⟩
set_option maxRecDepth 100000 in
set_option maxHeartbeats 8000000 in
theorem crashes_any (A P FA FQ : Option Addr) (c p fc fd : Nat) (D : Dk) (F : Ft) (w : World) (hA : By w A D.bytes) (hP : Ws w P D.pend) (hFA : Is w FA F.order) (hFQ : Is w FQ F.part) :
    Calls Try.prog 5 #[.agg #[.slice A D.bytes.length c, .slice P D.pend.length p], .agg #[.slice FA F.order.length fc, .slice FQ F.part.length fd]] w fun e w' => e = .returned (.bool true) ∧ Ext w w' := by
  obtain ⟨W, hW, hE, hz, k0, k1⟩ := box2 w #[.slice A D.bytes.length c, .slice P D.pend.length p] #[.slice FA F.order.length fc, .slice FQ F.part.length fd] 25 34
  have HD : Hid (DBx W w.heap.size A P c p D) := ⟨k0, hA.ext hE, hP.ext hE⟩
  have HX : Hid (FBx W (w.heap.size + 1) FA FQ fc fd F) := ⟨k1, hFA.ext hE, hFQ.ext hE⟩
  have HE := Lib.hid hE
  have hc := HD.out.cells
  clear hE hP hA hFA hFQ k0 k1 hz
  go_enter Try.func5, Try.ntmps5
  go_wp2_with fail
  refine (thin_any A P c p D W HD.out.p).mono ?_
  rintro e w0 ⟨rfl, hE1⟩
  have Hq := Lib.hid (HD.out.ext hE1)
  clear HD
  have HD := Hq
  clear Hq
  have Hq := Lib.hid (HX.out.ext hE1)
  clear HX
  have HX := Hq
  clear Hq
  have Hq := Lib.hid (HE.out.trans hE1)
  clear HE
  have HE := Hq
  clear Hq
  clear hE1 hc hW
  have hd := HX.out.cells
  by_cases ht : pThin D = true
  · have Hsm := Lib.hid (thin_small ht)
    rw [ht]
    clear ht
    go_wp2_with fail
    refine (thinFate_any FA FQ fc fd F w0).mono ?_
    rintro e w1 ⟨rfl, hE1⟩
    have Hq := Lib.hid (HD.out.ext hE1)
    clear HD
    have HD := Hq
    clear Hq
    have Hq := Lib.hid (HX.out.ext hE1)
    clear HX
    have HX := Hq
    clear Hq
    have Hq := Lib.hid (HE.out.trans hE1)
    clear HE
    have HE := Hq
    clear Hq
    clear hE1 hd
    have hc := HD.out.cells
    have hd := HX.out.cells
    by_cases ht : pThinF F = true
    · have Hl : Hid (F.order.length ≤ 100 ∧ F.part.length ≤ 100) := by
        unfold pThinF at ht
        simp only [Bool.and_eq_true, decide_eq_true_eq] at ht
        exact ht
      rw [ht]
      clear ht
      go_wp2_with fail
      have HD1 := HD
      have HX1 := HX
      have hS := Lib.hid (fun w' (h : Ext w1 w') => (⟨h, (HD1.out.ext h).cells.1, (HD1.out.ext h).cells.2, (HX1.out.ext h).cells.1, (HX1.out.ext h).cells.2⟩ : Ext w1 w' ∧ w'.cell? ⟨w.heap.size, 0, none⟩ = some (.slice A D.bytes.length c) ∧ w'.cell? ⟨w.heap.size, 1, none⟩ = some (.slice P D.pend.length p) ∧ w'.cell? ⟨w.heap.size + 1, 0, none⟩ = some (.slice FA F.order.length fc) ∧ w'.cell? ⟨w.heap.size + 1, 1, none⟩ = some (.slice FQ F.part.length fd)))
      refine wp_region_rel 6 (by kernel_rfl) (by kernel_rfl) (Ext.refl w1).drew ?_
      (apply relW_fix
       · intro vs w' hw hf
         have hc := hS.out w' hw
         unfold okAt
         go_simp
         first | exact ⟨rfl, Ext.refl _⟩ | exact rfl
       · intro vs; go_simp; rfl)
      (apply relW_any (SV.cd D)
       · intro vs w' hw hf
         have hc := hS.out w' hw
         skip
         unfold okAt
         go_simp
         refine ⟨Ext.refl _, ?_⟩; go_at_call 26; refine (copy_dv2 A P c p D w' (HD1.out.a.ext hw) (HD1.out.p.ext hw) Hsm.out).mono ?_; rintro e w5 ⟨A', c', P', p', rfl, h1, h2, h3⟩; exact ⟨_, rfl, ⟨A', P', c', p', rfl, h2, h3⟩, h1⟩
       · intro vs; go_simp; rfl)
      (apply relW_fix
       · intro vs w' hw hf
         have hc := hS.out w' hw
         unfold okAt
         go_simp
         first | exact ⟨rfl, Ext.refl _⟩ | exact rfl
       · intro vs; go_simp; rfl)
      (apply relW_any (SV.cf F)
       · intro vs w' hw hf
         have hc := hS.out w' hw
         skip
         unfold okAt
         go_simp
         refine ⟨Ext.refl _, ?_⟩; go_at_call 21; refine (copyFate_any FA FQ fc fd F w' (HX1.out.a.ext hw) (HX1.out.p.ext hw) (by have := Hl.out; omega) (by have := Hl.out; omega)).mono ?_; rintro e w5 ⟨v, rfl, ⟨A', c', P', p', rfl, h1, h2, h3, h4⟩, h5⟩; exact ⟨_, rfl, ⟨A', P', c', p', rfl, h2, h4⟩, h5⟩
       · intro vs; go_simp; rfl)
      (apply relW_any (SV.al w1.heap.size #[.slice none 0 0, .slice none 0 0] 25)
       · intro vs w' hw hf
         have hc := hS.out w' hw
         skip
         unfold okAt
         go_simp
         exact ⟨⟨_, rfl, Bk.new _ _ _, hw.size⟩, (Ext.refl _).alloc _⟩
       · intro vs; go_simp; rfl)
      (apply relW_any (SV.al w1.heap.size #[.slice none 0 0, .slice none 0 0] 34)
       · intro vs w' hw hf
         have hc := hS.out w' hw
         skip
         unfold okAt
         go_simp
         exact ⟨⟨_, rfl, Bk.new _ _ _, hw.size⟩, (Ext.refl _).alloc _⟩
       · intro vs; go_simp; rfl)
      refine relW_nil fun vs w2 hw hf => ?_
      obtain ⟨⟨b6, e6, kb6, hb6⟩, ⟨b5, e5, kb5, hb5⟩, ⟨C, Cp, cc, cp, e3, hC, hCp⟩, ⟨B, Q, cb, cq, e1, hB, hQ⟩, _⟩ := hf
      have hE2 : Ext w1 w2 := hw
      have hne := Bk.ne kb5 kb6 (by decide)
      have hne' := hne.symm
      have g0 := kb5.cell 0
      have g1 := kb5.cell 1
      have g2 := kb6.cell 0
      have g3 := kb6.cell 1
      have g4 := kb5.frozen 0
      have g5 := kb5.frozen 1
      have g6 := kb6.frozen 0
      have g7 := kb6.frozen 1
      simp at g0 g1 g2 g3
      clear hS HD HX
      go_upto_region 4 with fail
      obtain ⟨V, hV, hVb, kb, kc, hoff⟩ := two_boxes (B := w1.heap.size) kb5 kb6 (by decide) hb5 hb6 (.slice B D.bytes.length cb) (.slice Q D.pend.length cq) (.slice C F.order.length cc) (.slice Cp F.part.length cp)
      rw [hV]; clear hV
      have hEV : Ext w1 V := Below.trans hE2 hVb
      have HB : Hid (DBx V b5 B Q cb cq D) := ⟨kb, hB.off kb5 kb6 clean_disk clean_disk hoff, (hQ.off kb5 kb6 clean_disk clean_disk hoff).ws⟩
      have HC : Hid (FBx V b6 C Cp cc cp F) := ⟨kc, hC.off kb5 kb6 hoff, hCp.off kb5 kb6 hoff⟩
      have HDV := Lib.hid (HD1.out.ext hEV)
      have HXV := Lib.hid (HX1.out.ext hEV)
      have Hq := Lib.hid (HE.out.trans hEV)
      clear HE
      have HE := Hq
      clear Hq
      clear hE2 hne hne' g0 g1 g2 g3 g4 g5 g6 g7 hVb kb kc hoff hEV hB hQ hC hCp kb5 kb6 hb5 hb6 hw HD1 HX1 hc hd e1 e3 e5 e6
      have hc := HB.out.cells
      have hd := HC.out.cells
      obtain ⟨E7, hE7⟩ : ∃ E, resD (pCrash D F) (pCrashD D F) = E := ⟨_, rfl⟩
      have HE7 := Lib.hid hE7
      clear hE7
      go_wp2_with fail
      refine (crashF_any B Q C Cp cb cq cc cp D F V HB.out.a HB.out.p HC.out.a HC.out.p Hsm.out ⟨by have := Hl.out; omega, by have := Hl.out; omega⟩).mono ?_
      rintro e w3 hr
      obtain ⟨v, rfl, hE3, h3⟩ := hr.retV
      rw [HE7.out] at h3
      obtain ⟨A7, c7, P7, p7, rfl, _, hA7, _, hP7⟩ := h3
      clear hr hc hd
      have Hq := Lib.hid (HB.out.ext hE3)
      clear HB
      have HB := Hq
      clear Hq
      have Hq := Lib.hid (HC.out.ext hE3)
      clear HC
      have HC := Hq
      clear Hq
      have Hq := Lib.hid (HDV.out.ext hE3)
      clear HDV
      have HDV := Hq
      clear Hq
      have Hq := Lib.hid (HXV.out.ext hE3)
      clear HXV
      have HXV := Hq
      clear Hq
      have Hq := Lib.hid (HE.out.trans hE3)
      clear HE
      have HE := Hq
      clear Hq
      clear hE3
      have hc := HDV.out.cellsA
      have hd := HXV.out.cellsA
      go_wp2_with fail
      obtain ⟨V3, hV3, hE4, hz3, k7⟩ := box1 w3 #[.slice A7 E7.bytes.length c7, .slice P7 E7.pend.length p7] 25
      rw [hV3]; clear hV3 hz3
      have H7 : Hid (DBx V3 w3.heap.size A7 P7 c7 p7 E7) := ⟨k7, hA7.ext hE4, hP7.ext hE4⟩
      have Hq := Lib.hid (HB.out.ext hE4)
      clear HB
      have HB := Hq
      clear Hq
      have Hq := Lib.hid (HC.out.ext hE4)
      clear HC
      have HC := Hq
      clear Hq
      have Hq := Lib.hid (HDV.out.ext hE4)
      clear HDV
      have HDV := Hq
      clear Hq
      have Hq := Lib.hid (HXV.out.ext hE4)
      clear HXV
      have HXV := Hq
      clear Hq
      have Hq := Lib.hid (HE.out.trans hE4)
      clear HE
      have HE := Hq
      clear Hq
      clear hE4 k7 hA7 hP7 hc hd
      refine (rCrash_any A P FA FQ c p fc fd D F V3 HDV.out.a HDV.out.p HXV.out.a HXV.out.p Hsm.out (by have := Hl.out; omega)).mono ?_
      rintro e w5 ⟨v, rfl, hE5, h5⟩
      rw [HE7.out] at h5
      obtain ⟨A11, c11, P11, p11, rfl, _, hA11, _, hP11⟩ := h5
      have Hq := Lib.hid (HB.out.ext hE5)
      clear HB
      have HB := Hq
      clear Hq
      have Hq := Lib.hid (HC.out.ext hE5)
      clear HC
      have HC := Hq
      clear Hq
      have Hq := Lib.hid (HDV.out.ext hE5)
      clear HDV
      have HDV := Hq
      clear Hq
      have Hq := Lib.hid (HXV.out.ext hE5)
      clear HXV
      have HXV := Hq
      clear Hq
      have Hq := Lib.hid (H7.out.ext hE5)
      clear H7
      have H7 := Hq
      clear Hq
      have Hq := Lib.hid (HE.out.trans hE5)
      clear HE
      have HE := Hq
      clear Hq
      clear hE5
      have hc := H7.out.cellsA
      go_wp2_with fail
      obtain ⟨V5, hV5, hE6, hz5, k11⟩ := box1 w5 #[.slice A11 E7.bytes.length c11, .slice P11 E7.pend.length p11] 25
      rw [hV5]; clear hV5 hz5
      have H11 : Hid (DBx V5 w5.heap.size A11 P11 c11 p11 E7) := ⟨k11, hA11.ext hE6, hP11.ext hE6⟩
      have Hq := Lib.hid (HB.out.ext hE6)
      clear HB
      have HB := Hq
      clear Hq
      have Hq := Lib.hid (HC.out.ext hE6)
      clear HC
      have HC := Hq
      clear Hq
      have Hq := Lib.hid (HDV.out.ext hE6)
      clear HDV
      have HDV := Hq
      clear Hq
      have Hq := Lib.hid (HXV.out.ext hE6)
      clear HXV
      have HXV := Hq
      clear Hq
      have Hq := Lib.hid (H7.out.ext hE6)
      clear H7
      have H7 := Hq
      clear Hq
      have Hq := Lib.hid (HE.out.trans hE6)
      clear HE
      have HE := Hq
      clear Hq
      clear hE6 k11 hA11 hP11 hc
      refine (same_any A7 P7 A11 P11 c7 p7 c11 p11 E7 E7 V5 H7.out.a H7.out.p H11.out.a H11.out.p ?_).mono ?_
      · rw [← HE7.out]
        unfold resD pCrashD
        split <;> simp
      rintro e w7 ⟨rfl, hE8⟩
      have Hq := Lib.hid (HB.out.ext hE8)
      clear HB
      have HB := Hq
      clear Hq
      have Hq := Lib.hid (HC.out.ext hE8)
      clear HC
      have HC := Hq
      clear Hq
      have Hq := Lib.hid (HDV.out.ext hE8)
      clear HDV
      have HDV := Hq
      clear Hq
      have Hq := Lib.hid (HXV.out.ext hE8)
      clear HXV
      have HXV := Hq
      clear Hq
      have Hq := Lib.hid (HE.out.trans hE8)
      clear HE
      have HE := Hq
      clear Hq
      clear hE8 H7 H11
      have hb := HB.out.cells
      have hd := HDV.out.cells
      simp only [decide_true]
      go_wp2_with fail
      refine (same_any B Q A P cb cq c p D D w7 HB.out.a HB.out.p HDV.out.a HDV.out.p (by have := Hsm.out.2.1; omega)).mono ?_
      rintro e w9 ⟨rfl, hE10⟩
      have Hq := Lib.hid (HC.out.ext hE10)
      clear HC
      have HC := Hq
      clear Hq
      have Hq := Lib.hid (HXV.out.ext hE10)
      clear HXV
      have HXV := Hq
      clear Hq
      have Hq := Lib.hid (HE.out.trans hE10)
      clear HE
      have HE := Hq
      clear Hq
      clear hE10 HB HDV hb hd
      have hb := HC.out.cells
      have hd := HXV.out.cells
      simp only [decide_true]
      go_wp2_with fail
      refine (sameFate_any C Cp FA FQ cc cp fc fd F F w9 HC.out.a HC.out.p HXV.out.a HXV.out.p (by have := Hl.out; omega)).mono ?_
      rintro e w10 ⟨rfl, hE11⟩
      have Hq := Lib.hid (HE.out.trans hE11)
      clear HE
      have HE := Hq
      clear Hq
      clear hE11 HC HXV hb hd
      simp only [decide_true]
      go_wp2_with fail
      refine (awake_any _).mono ?_
      rintro e w4 ⟨rfl, hE6⟩
      have HE' := Lib.hid (HE.out.trans hE6)
      clear hE6
      go_wp2_with fail
      go_ret
      exact ⟨rfl, HE'.out⟩
    · rw [show pThinF F = false by simpa using ht]
      clear ht
      go_wp2_with fail
      refine (awake_any _).mono ?_
      rintro e w4 ⟨rfl, hE6⟩
      have HE' := Lib.hid (HE.out.trans hE6)
      clear hE6
      go_wp2_with fail
      go_ret
      exact ⟨rfl, HE'.out⟩
  · rw [show pThin D = false by simpa using ht]
    clear ht
    go_wp2_with fail
    refine (awake_any _).mono ?_
    rintro e w4 ⟨rfl, hE6⟩
    have HE' := Lib.hid (HE.out.trans hE6)
    clear hE6
    go_wp2_with fail
    go_ret
    exact ⟨rfl, HE'.out⟩
end Go.Proofs.Ytdlalmbnkcadfaa
