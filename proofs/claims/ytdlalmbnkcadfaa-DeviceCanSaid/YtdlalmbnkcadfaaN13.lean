/- DeviceWhole: the walk. -/
import Derived.Test.YtdlalmbnkcadfaaN12
import Derived.Test.YtdlalmbnkcadfaaN06
import Derived.Test.YtdlalmbnkcadfaaN11
namespace Go.Proofs.Ytdlalmbnkcadfaa
open Go.RowKit

theorem one_box {w : World} {b : Nat} {x y : Value} {t : TypeId} (h : Bk w b #[x, y] t) {B : Nat} (hB : B ≤ b) (u0 u1 : Value) :
    ∃ V, (w.setCell ⟨b, 0, none⟩ u0).setCell ⟨b, 1, none⟩ u1 = V ∧ Below B w V ∧ Bk V b #[u0, u1] t ∧ ∀ k, k ≠ b → V.heap[k]? = w.heap[k]? := by
  refine ⟨_, rfl, ((Below.refl B w).setCell hB _).setCell hB _, ?_, fun k h1 => ?_⟩
  · simpa using (h.set 0 u0).set 1 u1
  · rw [Below.heap_setCell _ _ _ _ h1, Below.heap_setCell _ _ _ _ h1]
theorem By.off1 {w V : World} {b : Nat} {zs : Array Value} {t : TypeId} {A : Option Addr} {bs : BL} (h : By w A bs) (hk : Bk w b zs t) (hz : Clean zs) (hV : ∀ k, k ≠ b → V.heap[k]? = w.heap[k]?) : By V A bs := h.off hk hk hz hz (fun k h1 _ => hV k h1)
def SV.cfa (n : Nat) (p : Int) : SV := ⟨fun v w => ∃ A P c d, v = .agg #[.slice A n c, .slice P n d] ∧ Is w A (allF n p).order ∧ Is w P (allF n p).part, fun ⟨A, P, c, d, h1, h2, h3⟩ e => ⟨A, P, c, d, h1, h2.ext e, h3.ext e⟩⟩
/-- A device of these bytes on which none waits, and no error; it alone. -/
def SV.tu (X : BL) : SV := ⟨fun v w => ∃ A P c p, v = .tuple #[.agg #[.slice A X.length c, .slice P 0 p], .int .i64 0] ∧ By w A X, fun ⟨A, P, c, p, h1, h2⟩ e => ⟨A, P, c, p, h1, h2.ext e⟩⟩
def SV.dx (X : BL) : SV := ⟨fun v w => ∃ A P c p, v = .agg #[.slice A X.length c, .slice P 0 p] ∧ By w A X, fun ⟨A, P, c, p, h1, h2⟩ e => ⟨A, P, c, p, h1, h2.ext e⟩⟩
theorem crashAll_any (part : Nat) (X : BL) (A P FA FP : Option Addr) (c p fc fd : Nat) (D : Dk) (w : World) (hX : pCr D.bytes D.pend (allF D.pend.length part) = X) (hp : part ≤ 32) (hck : pCheck D = 0) (hA : By w A D.bytes) (hP : Ws w P D.pend)
    (hFA : Is w FA (allF D.pend.length part).order) (hFP : Is w FP (allF D.pend.length part).part) (hsm : Small D) :
    Calls Try.prog 27 #[.agg #[.slice A D.bytes.length c, .slice P D.pend.length p], .agg #[.slice FA D.pend.length fc, .slice FP D.pend.length fd]] w fun e w' =>
      ∃ A' P' c' p', e = .returned (.tuple #[.agg #[.slice A' X.length c', .slice P' 0 p'], .int .i64 0]) ∧ Ext w w' ∧ By w' A' X := by
  have e0 : pCrash D (allF D.pend.length part) = 0 := by
    unfold pCrash
    rw [if_pos hck, if_pos (allF_is D.pend.length part (by omega))]
  have h := crashF_any A P FA FP c p fc fd D (allF D.pend.length part) w hA hP hFA hFP hsm ⟨by simp [allF]; have := hsm.2.1; omega, by simp [allF]; have := hsm.2.1; omega⟩
  rw [show (allF D.pend.length part).order.length = D.pend.length by simp [allF], show (allF D.pend.length part).part.length = D.pend.length by simp [allF]] at h
  refine h.mono ?_
  rintro e w' hr
  obtain ⟨v, rfl, hE, h3⟩ := hr.retV
  rw [e0] at h3 ⊢
  obtain ⟨A7, c7, P7, p7, rfl, _, hA7, _, hP7⟩ := h3
  unfold resD pCrashD at hA7 ⊢
  rw [if_pos rfl] at hA7 ⊢
  rw [hX] at hA7 ⊢
  exact ⟨A7, P7, c7, p7, rfl, hE, hA7⟩
theorem flushAll_any (A P : Option Addr) (c p : Nat) (D : Dk) (w : World) (hck : pCheck D = 0) (hA : By w A D.bytes) (hP : Ws w P D.pend) (hsm : Small D) :
    Calls Try.prog 33 #[.agg #[.slice A D.bytes.length c, .slice P D.pend.length p]] w fun e w' =>
      ∃ A' P' c' p', e = .returned (.tuple #[.agg #[.slice A' (pFl D.bytes D.pend).length c', .slice P' 0 p'], .int .i64 0]) ∧ Ext w w' ∧ By w' A' (pFl D.bytes D.pend) := by
  refine (flushF_any A P c p D w hA hP hsm).mono ?_
  rintro e w' hr
  have e0 : pFlush D = 0 := by rw [pFlush_eq]; exact hck
  have e1 : pFlushD D = ⟨pFl D.bytes D.pend, []⟩ := rfl
  obtain ⟨v, rfl, hE, h3⟩ := hr.retV
  rw [e0, e1] at h3
  rw [e0]
  obtain ⟨A7, c7, P7, p7, rfl, _, hA7, _, hP7⟩ := h3
  unfold resD at hA7 ⊢
  rw [if_pos rfl] at hA7 ⊢
  exact ⟨A7, P7, c7, p7, rfl, hE, hA7⟩
set_option maxRecDepth 100000 in
set_option maxHeartbeats 8000000 in
theorem whole_any (A P : Option Addr) (c p : Nat) (D : Dk) (w : World) (hA : By w A D.bytes) (hP : Ws w P D.pend) :
    Calls Try.prog 9 #[.agg #[.slice A D.bytes.length c, .slice P D.pend.length p]] w fun e w' => e = .returned (.bool true) ∧ Ext w w' := by
  obtain ⟨W, hW, hE, hz, k0⟩ := box1 w #[.slice A D.bytes.length c, .slice P D.pend.length p] 25
  have HD : Hid (DBx W w.heap.size A P c p D) := ⟨k0, hA.ext hE, hP.ext hE⟩
  have HE := Lib.hid hE
  have hc := HD.out.cells
  clear hE hP hA k0 hz
  go_enter Try.func9, Try.ntmps9
  go_wp2_with fail
  refine (right_any A P c p D W HD.out.a HD.out.p).mono ?_
  rintro e w1 ⟨rfl, hE1⟩
  have Hq := Lib.hid (HD.out.ext hE1)
  clear HD
  have HD := Hq
  clear Hq
  have Hq := Lib.hid (HE.out.trans hE1)
  clear HE
  have HE := Hq
  clear Hq
  clear hE1 hc hW
  by_cases ht : pRight D = true
  · have hr : pThin D = true ∧ pCheck D = 0 := by
      unfold pRight at ht
      simpa using ht
    have Hsm := Lib.hid (thin_small hr.1)
    have Hck := Lib.hid hr.2
    have Hl : Hid (D.pend.length ≤ 1000) := by
      have h := hr.1
      unfold pThin at h
      simp only [Bool.and_eq_true, decide_eq_true_eq] at h
      have := h.1.2
      show _ ≤ _
      omega
    have H32 := Lib.hid (cr_whole D.bytes D.pend)
    have H0 := Lib.hid (cr_nothing D.bytes D.pend)
    rw [ht]
    clear ht hr
    go_wp2_with fail
    have HD1 := HD
    have hS := Lib.hid (fun w' (h : Ext w1 w') => (⟨h, (HD1.out.ext h).cells.1, (HD1.out.ext h).cells.2⟩ : Ext w1 w' ∧ w'.cell? ⟨w.heap.size, 0, none⟩ = some (.slice A D.bytes.length c) ∧ w'.cell? ⟨w.heap.size, 1, none⟩ = some (.slice P D.pend.length p)))
    refine wp_region_rell 11 (by kernel_rfl) (by kernel_rfl) (fun _ _ _ _ _ h => h) (Ext.refl w1).drew ?_
    (apply relW_fix
     · intro vs w' hw hf
       have hc := hS.out w' hw
       unfold okAt
       go_simp
       first | exact ⟨rfl, Ext.refl _⟩ | exact rfl
     · intro vs; go_simp; rfl)
    (apply relW_any (SV.cd D)
     · intro vs w' hw hf
       have hc := hS.out w' hw
       skip
       unfold okAt
       go_simp
       refine ⟨Ext.refl _, ?_⟩; go_at_call 37; refine (own_dv2 A P c p D w' (HD1.out.a.ext hw) (HD1.out.p.ext hw) Hsm.out).mono ?_; rintro e w5 ⟨A', c', P', p', rfl, h1, h2, h3⟩; exact ⟨_, rfl, ⟨A', P', c', p', rfl, h2, h3⟩, h1⟩
     · intro vs; go_simp; rfl)
    (apply relW_fix
     · intro vs w' hw hf
       have hc := hS.out w' hw
       unfold okAt
       go_simp
       first | exact ⟨rfl, Ext.refl _⟩ | exact rfl
     · intro vs; go_simp; rfl)
    (apply relW_fix
     · intro vs w' hw hf
       have hc := hS.out w' hw
       unfold okAt
       go_simp
       first | exact ⟨rfl, Ext.refl _⟩ | exact rfl
     · intro vs; go_simp; rfl)
    (apply relW_fix
     · intro vs w' hw hf
       have hc := hS.out w' hw
       unfold okAt
       go_simp
       first | exact ⟨rfl, Ext.refl _⟩ | exact rfl
     · intro vs; go_simp; rfl)
    (apply relW_any (SV.cfa D.pend.length 32)
     · intro vs w' hw hf
       have hc := hS.out w' hw
       skip
       unfold okAt
       go_simp
       refine ⟨Ext.refl _, ?_⟩; go_at_call 38; refine (allF_any D.pend.length 32 w' Hl.out).mono ?_; rintro e w5 ⟨A', c', P', d', rfl, h1, h2, h3⟩; exact ⟨_, rfl, ⟨A', P', c', d', rfl, h2, h3⟩, h1⟩
     · intro vs; go_simp; rfl)
    (apply relW_any (SV.tu (pFl D.bytes D.pend))
     · intro vs w' hw hf
       have hc := hS.out w' hw
       obtain ⟨FA, FP, fc, fd, e5, hFA, hFP⟩ := hf.out.1 (by kernel_rfl); obtain ⟨B, Q, cb, cq, e1, hB, hQ⟩ := hf.out.2.1 (by kernel_rfl)
       unfold okAt
       go_simp
       refine ⟨Ext.refl _, ?_⟩; go_at_call 27; refine (crashAll_any 32 (pFl D.bytes D.pend) B Q FA FP cb cq fc fd D w' H32.out (by omega) Hck.out hB hQ.ws hFA hFP Hsm.out).mono ?_; rintro e w5 ⟨A', P', c', p', rfl, h1, h2⟩; exact ⟨_, rfl, ⟨A', P', c', p', rfl, h2⟩, h1⟩
     · intro vs; go_simp; rfl)
    (apply relW_any (SV.tu (pFl D.bytes D.pend))
     · intro vs w' hw hf
       have hc := hS.out w' hw
       obtain ⟨A', P', c', p', e6, h2⟩ := hf.out.1 (by kernel_rfl)
       unfold okAt
       go_simp
       exact ⟨⟨A', P', c', p', rfl, h2⟩, Ext.refl _⟩
     · intro vs; go_simp; rfl)
    (apply relW_any (SV.dx (pFl D.bytes D.pend))
     · intro vs w' hw hf
       have hc := hS.out w' hw
       obtain ⟨A', P', c', p', e6, h2⟩ := hf.out.1 (by kernel_rfl)
       unfold okAt
       go_simp
       exact ⟨⟨A', P', c', p', rfl, h2⟩, Ext.refl _⟩
     · intro vs; go_simp; rfl)
    (apply relW_any (SV.eq (.int .i64 0))
     · intro vs w' hw hf
       have hc := hS.out w' hw
       obtain ⟨A', P', c', p', e6, h2⟩ := hf.out.2.1 (by kernel_rfl)
       unfold okAt
       go_simp
       exact ⟨rfl, Ext.refl _⟩
     · intro vs; go_simp; rfl)
    (apply relW_any (SV.al w1.heap.size #[.slice none 0 0, .slice none 0 0] 25)
     · intro vs w' hw hf
       have hc := hS.out w' hw
       skip
       unfold okAt
       go_simp
       exact ⟨⟨_, rfl, Bk.new _ _ _, hw.size⟩, (Ext.refl _).alloc _⟩
     · intro vs; go_simp; rfl)
    refine relW_nil fun vs w2 hw hf => ?_
    obtain ⟨⟨b6, e6, kb6, hb6⟩, e9, ⟨B, Q, cb, cq, e8, hB⟩, -⟩ := hf
    have e9 : vs 9 = .int .i64 0 := e9
    have g2 := kb6.cell 0
    have g3 := kb6.cell 1
    have g6 := kb6.frozen 0
    have g7 := kb6.frozen 1
    simp at g2 g3
    clear hS HD
    simp only [List.drop]
    go_upto_region 4 with fail
    obtain ⟨V, hV, hVb, kb, hoff⟩ := one_box (B := w1.heap.size) kb6 hb6 (.slice B ((pFl D.bytes D.pend)).length cb) (.slice Q 0 cq)
    rw [hV]; clear hV
    have hEV : Ext w1 V := Below.trans hw hVb
    have H1 : Hid (DBx V b6 B Q cb cq ⟨(pFl D.bytes D.pend), []⟩) := ⟨kb, hB.off1 kb6 clean_disk hoff, Ws.nil _ _⟩
    have HD := Lib.hid (HD1.out.ext hEV)
    have Hq := Lib.hid (HE.out.trans hEV)
    clear HE
    have HE := Hq
    clear Hq
    have n9 := e9
    have n6 := e6
    clear hVb kb hoff hEV hB kb6 hb6 hw HD1 g2 g3 g6 g7 e6 e8 e9
    have hc := HD.out.cells
    go_wp2_with fail
    refine (own_dv2 A P c p D V HD.out.a HD.out.p Hsm.out).mono ?_
    rintro e w3 ⟨B2, cb2, Q2, cq2, rfl, hE3, hB2, hQ2⟩
    clear hc
    have Hq := Lib.hid (HD.out.ext hE3)
    clear HD
    have HD := Hq
    clear Hq
    have Hq := Lib.hid (H1.out.ext hE3)
    clear H1
    have H1 := Hq
    clear Hq
    have Hq := Lib.hid (HE.out.trans hE3)
    clear HE
    have HE := Hq
    clear Hq
    clear hE3
    go_wp2_with fail
    refine (flushAll_any B2 Q2 cb2 cq2 D w3 Hck.out hB2 hQ2.ws Hsm.out).mono ?_
    rintro e w4 ⟨B3, Q3, cb3, cq3, rfl, hE4, hB3⟩
    have Hq := Lib.hid (HD.out.ext hE4)
    clear HD
    have HD := Hq
    clear Hq
    have Hq := Lib.hid (H1.out.ext hE4)
    clear H1
    have H1 := Hq
    clear Hq
    have Hq := Lib.hid (HE.out.trans hE4)
    clear HE
    have HE := Hq
    clear Hq
    clear hE4 hB2 hQ2
    obtain ⟨V4, hV4, hE5, hz4, k4⟩ := box1 w4 #[.slice B3 (pFl D.bytes D.pend).length cb3, .slice Q3 0 cq3] 25
    have H2 : Hid (DBx V4 w4.heap.size B3 Q3 cb3 cq3 ⟨pFl D.bytes D.pend, []⟩) := ⟨k4, hB3.ext hE5, Ws.nil _ _⟩
    have Hq := Lib.hid (HD.out.ext hE5)
    clear HD
    have HD := Hq
    clear Hq
    have Hq := Lib.hid (H1.out.ext hE5)
    clear H1
    have H1 := Hq
    clear Hq
    have Hq := Lib.hid (HE.out.trans hE5)
    clear HE
    have HE := Hq
    clear Hq
    clear hE5 hz4 k4 hB3
    go_wp2_with fail
    clear hV4
    have HD1 := HD
    have hS := Lib.hid (fun w' (h : Ext V4 w') => (⟨h, (HD1.out.ext h).cells.1, (HD1.out.ext h).cells.2⟩ : Ext V4 w' ∧ w'.cell? ⟨w.heap.size, 0, none⟩ = some (.slice A D.bytes.length c) ∧ w'.cell? ⟨w.heap.size, 1, none⟩ = some (.slice P D.pend.length p)))
    refine wp_region_rell 11 (by kernel_rfl) (by kernel_rfl) (fun _ _ _ _ _ h => h) (Ext.refl V4).drew ?_
    (apply relW_fix
     · intro vs w' hw hf
       have hc := hS.out w' hw
       unfold okAt
       go_simp
       first | exact ⟨rfl, Ext.refl _⟩ | exact rfl
     · intro vs; go_simp; rfl)
    (apply relW_any (SV.cd D)
     · intro vs w' hw hf
       have hc := hS.out w' hw
       skip
       unfold okAt
       go_simp
       refine ⟨Ext.refl _, ?_⟩; go_at_call 37; refine (own_dv2 A P c p D w' (HD1.out.a.ext hw) (HD1.out.p.ext hw) Hsm.out).mono ?_; rintro e w5 ⟨A', c', P', p', rfl, h1, h2, h3⟩; exact ⟨_, rfl, ⟨A', P', c', p', rfl, h2, h3⟩, h1⟩
     · intro vs; go_simp; rfl)
    (apply relW_fix
     · intro vs w' hw hf
       have hc := hS.out w' hw
       unfold okAt
       go_simp
       first | exact ⟨rfl, Ext.refl _⟩ | exact rfl
     · intro vs; go_simp; rfl)
    (apply relW_fix
     · intro vs w' hw hf
       have hc := hS.out w' hw
       unfold okAt
       go_simp
       first | exact ⟨rfl, Ext.refl _⟩ | exact rfl
     · intro vs; go_simp; rfl)
    (apply relW_fix
     · intro vs w' hw hf
       have hc := hS.out w' hw
       unfold okAt
       go_simp
       first | exact ⟨rfl, Ext.refl _⟩ | exact rfl
     · intro vs; go_simp; rfl)
    (apply relW_any (SV.cfa D.pend.length 0)
     · intro vs w' hw hf
       have hc := hS.out w' hw
       skip
       unfold okAt
       go_simp
       refine ⟨Ext.refl _, ?_⟩; go_at_call 38; refine (allF_any D.pend.length 0 w' Hl.out).mono ?_; rintro e w5 ⟨A', c', P', d', rfl, h1, h2, h3⟩; exact ⟨_, rfl, ⟨A', P', c', d', rfl, h2, h3⟩, h1⟩
     · intro vs; go_simp; rfl)
    (apply relW_any (SV.tu D.bytes)
     · intro vs w' hw hf
       have hc := hS.out w' hw
       obtain ⟨FA, FP, fc, fd, e5, hFA, hFP⟩ := hf.out.1 (by kernel_rfl); obtain ⟨B, Q, cb, cq, e1, hB, hQ⟩ := hf.out.2.1 (by kernel_rfl)
       unfold okAt
       go_simp
       refine ⟨Ext.refl _, ?_⟩; go_at_call 27; refine (crashAll_any 0 D.bytes B Q FA FP cb cq fc fd D w' H0.out (by omega) Hck.out hB hQ.ws hFA hFP Hsm.out).mono ?_; rintro e w5 ⟨A', P', c', p', rfl, h1, h2⟩; exact ⟨_, rfl, ⟨A', P', c', p', rfl, h2⟩, h1⟩
     · intro vs; go_simp; rfl)
    (apply relW_any (SV.tu D.bytes)
     · intro vs w' hw hf
       have hc := hS.out w' hw
       obtain ⟨A', P', c', p', e6, h2⟩ := hf.out.1 (by kernel_rfl)
       unfold okAt
       go_simp
       exact ⟨⟨A', P', c', p', rfl, h2⟩, Ext.refl _⟩
     · intro vs; go_simp; rfl)
    (apply relW_any (SV.dx D.bytes)
     · intro vs w' hw hf
       have hc := hS.out w' hw
       obtain ⟨A', P', c', p', e6, h2⟩ := hf.out.1 (by kernel_rfl)
       unfold okAt
       go_simp
       exact ⟨⟨A', P', c', p', rfl, h2⟩, Ext.refl _⟩
     · intro vs; go_simp; rfl)
    (apply relW_any (SV.eq (.int .i64 0))
     · intro vs w' hw hf
       have hc := hS.out w' hw
       obtain ⟨A', P', c', p', e6, h2⟩ := hf.out.2.1 (by kernel_rfl)
       unfold okAt
       go_simp
       exact ⟨rfl, Ext.refl _⟩
     · intro vs; go_simp; rfl)
    (apply relW_any (SV.al V4.heap.size #[.slice none 0 0, .slice none 0 0] 25)
     · intro vs w' hw hf
       have hc := hS.out w' hw
       skip
       unfold okAt
       go_simp
       exact ⟨⟨_, rfl, Bk.new _ _ _, hw.size⟩, (Ext.refl _).alloc _⟩
     · intro vs; go_simp; rfl)
    refine relW_nil fun vs w2 hw hf => ?_
    obtain ⟨⟨b6, e6, kb6, hb6⟩, e9, ⟨B, Q, cb, cq, e8, hB⟩, -⟩ := hf
    have e9 : vs 9 = .int .i64 0 := e9
    have g2 := kb6.cell 0
    have g3 := kb6.cell 1
    have g6 := kb6.frozen 0
    have g7 := kb6.frozen 1
    simp at g2 g3
    clear hS HD
    simp only [List.drop]
    go_upto_region 6 with fail
    have hw0 : Ext V4 w2 := hw
    obtain ⟨V, hV, hVb, kb, hoff⟩ := one_box (B := V4.heap.size) kb6 hb6 (.slice B (D.bytes).length cb) (.slice Q 0 cq)
    rw [hV]; clear hV
    have hEV : Ext V4 V := Below.trans hw hVb
    have H3 : Hid (DBx V b6 B Q cb cq ⟨D.bytes, []⟩) := ⟨kb, hB.off1 kb6 clean_disk hoff, Ws.nil _ _⟩
    have HD := Lib.hid (HD1.out.ext hEV)
    have Hq := Lib.hid (HE.out.trans hEV)
    clear HE
    have HE := Hq
    clear Hq
    have Hq := Lib.hid (H1.out.ext hEV)
    clear H1
    have H1 := Hq
    clear Hq
    have Hq := Lib.hid (H2.out.ext hEV)
    clear H2
    have H2 := Hq
    clear Hq
    clear hVb kb hoff hEV hB kb6 hb6 hw HD1 g2 g3 g6 g7 e8 hw0
    have hc := HD.out.cells
    have h1 := H1.out.cells
    have h2 := H2.out.cells
    have h3 := H3.out.cells
    have cv1 := conv_by H1.out.a
    have cv2 := conv_by H2.out.a
    have cv3 := conv_by H3.out.a
    have cv4 := conv_by HD.out.a
    simp only at cv1 cv2 cv3 h1 h2 h3
    have ts := strB_toList
    go_wp2_with fail
    refine (awake_any _).mono ?_
    rintro e w4 ⟨rfl, hE6⟩
    have HE' := Lib.hid (HE.out.trans hE6)
    clear hE6
    go_wp2_with fail
    go_ret
    exact ⟨rfl, HE'.out⟩
  · rw [show pRight D = false by simpa using ht]
    clear ht
    go_wp2_with fail
    refine (awake_any _).mono ?_
    rintro e w4 ⟨rfl, hE6⟩
    have HE' := Lib.hid (HE.out.trans hE6)
    clear hE6
    go_wp2_with fail
    go_ret
    exact ⟨rfl, HE'.out⟩
end Go.Proofs.Ytdlalmbnkcadfaa
