/- reference: Do. -/
import Derived.Test.YtdlalmbnkcadfaaN03
import Derived.Test.YtdlalmbnkcadfaaN13
import Derived.Test.YtdlalmbnkcadfaaN19
namespace Go.Proofs.Ytdlalmbnkcadfaa
open Go.RowKit

theorem Ws.off1 {w V : World} {b : Nat} {t : TypeId} {A : Option Addr} {ws : List Wr} (h : Ws w A ws) (hk : Bk w b #[.slice none 0 0, .slice none 0 0] t) (hV : ∀ k, k ≠ b → V.heap[k]? = w.heap[k]?) : Ws V A ws := fun j x hj => by
  obtain ⟨ab, o, B, c, rfl, g1, g2, g3, g4⟩ := h j x hj
  have h1 : ab ≠ b := fun e => by
    subst e
    rw [hk.cell] at g1
    match o + j * 2, g1 with
    | 0, g1 => simp at g1
    | 1, g1 => simp at g1
    | n + 2, g1 => simp at g1
  exact ⟨ab, o, B, c, rfl, (World.cell?_of_block (hV ab h1)).trans g1, (World.cell?_of_block (hV ab h1)).trans g2, g3, g4.off1 hk clean_disk hV⟩
theorem DkV.off1 {w V : World} {b : Nat} {t : TypeId} {v : Value} {D : Dk} (h : DkV w v D) (hk : Bk w b #[.slice none 0 0, .slice none 0 0] t) (hV : ∀ k, k ≠ b → V.heap[k]? = w.heap[k]?) : DkV V v D := by
  obtain ⟨A, c, P, e, h1, h2, h3, h4, h5⟩ := h
  exact ⟨A, c, P, e, h1, h2, h3.off1 hk clean_disk hV, h4, h5.off1 hk hV⟩
theorem pDo_two (D : Dk) (x : Wr) : pDo D 2 x = pCheck D := by
  unfold pDo pDoE
  split
  · rename_i h; rw [if_neg (by decide), if_pos rfl, h]
  · rfl
set_option maxRecDepth 100000 in
set_option maxHeartbeats 4000000 in
theorem rDo_any (A P Ax : Option Addr) (c p dx : Nat) (D : Dk) (kd : Int) (x : Wr) (w : World) (hA : By w A D.bytes) (hP : Ws w P D.pend) (hx : By w Ax x.bs) (hsm : Small D) (hxs : x.bs.length ≤ 100000) :
    Calls Try.prog 48 #[.agg #[.slice A D.bytes.length c, .slice P D.pend.length p], .agg #[.int .u8 kd, .int .i64 x.blk, .slice Ax x.bs.length dx]] w (RetV w (pDo D kd x) (resD (pDo D kd x) (pDoD D kd x))) := by
  obtain ⟨W, hW, hE, hz, k0, kx, k1⟩ := box3 w #[.slice A D.bytes.length c, .slice P D.pend.length p] #[.int .u8 kd, .int .i64 x.blk, .slice Ax x.bs.length dx] #[.slice none 0 0, .slice none 0 0] 25 70 25
  have HA := Lib.hid (hA.ext hE)
  have HP := Lib.hid (hP.ext hE)
  have HX := Lib.hid (hx.ext hE)
  have HK := Lib.hid k0
  have HO := Lib.hid kx
  have HR := Lib.hid k1
  have HE := Lib.hid hE
  have Hsm := Lib.hid hsm
  clear hE hz k0 k1 kx hA hP hx hsm
  have d0 := HK.out.cell 0
  have d1 := HK.out.cell 1
  simp at d0 d1
  go_enter Try.func48, Try.ntmps48
  go_wp2_with fail
  refine (rCheck_any A P c p D W HP.out Hsm.out).mono ?_
  rintro e w1 ⟨rfl, hE1⟩
  clear hW d0 d1
  have Hq := Lib.hid (HA.out.ext hE1)
  clear HA
  have HA := Hq
  clear Hq
  have Hq := Lib.hid (HP.out.ext hE1)
  clear HP
  have HP := Hq
  clear Hq
  have Hq := Lib.hid (HX.out.ext hE1)
  clear HX
  have HX := Hq
  clear Hq
  have Hq := Lib.hid (HK.out.ext hE1)
  clear HK
  have HK := Hq
  clear Hq
  have Hq := Lib.hid (HO.out.ext hE1)
  clear HO
  have HO := Hq
  clear Hq
  have Hq := Lib.hid (HR.out.ext hE1)
  clear HR
  have HR := Hq
  clear Hq
  have Hq := Lib.hid (HE.out.trans hE1)
  clear HE
  have HE := Hq
  clear Hq
  clear hE1
  have d0 := HK.out.cell 0
  have d1 := HK.out.cell 1
  have e0 := HO.out.cell 0
  have e1 := HO.out.cell 1
  have e2 := HO.out.cell 2
  have r0 := HR.out.cell 0
  have r1 := HR.out.cell 1
  have f0 := HR.out.frozen 0
  have f1 := HR.out.frozen 1
  simp at d0 d1 e0 e1 e2 r0 r1
  by_cases h1 : pCheck D = 0
  · by_cases hk1 : kd = 1
    · subst hk1
      have Hck := Lib.hid h1
      rw [h1]
      clear h1
      go_wp2_with fail
      refine (rPut_any A P Ax c p dx D x w1 HA.out HP.out HX.out Hsm.out hxs).mono ?_
      rintro e w3 ⟨v, rfl, hE3, hv⟩
      have Her : Hid (pDo D 1 x = pPut D x) := by exact rfl
      obtain ⟨E7, hE7⟩ : ∃ E, resD (pPut D x) (pDoD D 1 x) = E := ⟨_, rfl⟩
      rw [hE7] at hv
      have HE7 : Hid (resD (pDo D 1 x) (pDoD D 1 x) = E7) := hE7
      clear hE7
      have hv' := hv
      obtain ⟨A7, c7, P7, p7, rfl, -⟩ := hv'
      have Hq := Lib.hid (HE.out.trans hE3)
      clear HE
      have HE := Hq
      clear Hq
      have Hv := Lib.hid hv
      have HR3 := Lib.hid (HR.out.ext hE3)
      clear HK HO HR hv hE3 d0 d1 e0 e1 e2 r0 r1 f0 f1
      have r0 := HR3.out.cell 0
      have r1 := HR3.out.cell 1
      have f0 := HR3.out.frozen 0
      have f1 := HR3.out.frozen 1
      simp at r0 r1
      go_wp2
      obtain ⟨V, hV, hVb, kb, hoff⟩ := one_box (B := w.heap.size) HR3.out (by omega) (.slice A7 (E7).bytes.length c7) (.slice P7 (E7).pend.length p7)
      rw [hV]; clear hV
      have q0 := kb.cell 0
      have q1 := kb.cell 1
      simp at q0 q1
      refine bodyPost_ret (v := .tuple #[.agg #[.slice A7 (E7).bytes.length c7, .slice P7 (E7).pend.length p7], .int .i64 ((pPut D x))]) (by simp [results, Try.results48, go_sem, q0, q1]) rfl ⟨_, by rw [Her.out], Below.trans HE.out hVb, by rw [HE7.out]; exact Hv.out.off1 HR3.out hoff⟩
    · by_cases hk2 : kd = 2
      · subst hk2
        have Hck := Lib.hid h1
        rw [h1]
        clear h1 hk1
        go_wp2_with fail
        refine (rFlush_any A P c p D w1 HA.out HP.out Hsm.out).mono ?_
        rintro e w3 ⟨v, rfl, hE3, hv⟩
        have Her : Hid (pDo D 2 x = pFlush D) := by show _ = _; rw [pDo_two, pFlush_eq]
        obtain ⟨E7, hE7⟩ : ∃ E, resD (pFlush D) (pFlushD D) = E := ⟨_, rfl⟩
        rw [hE7] at hv
        have HE7 : Hid (resD (pDo D 2 x) (pDoD D 2 x) = E7) := by
          show _ = _
          rw [Her.out]
          exact hE7
        clear hE7
        have hv' := hv
        obtain ⟨A7, c7, P7, p7, rfl, -⟩ := hv'
        have Hq := Lib.hid (HE.out.trans hE3)
        clear HE
        have HE := Hq
        clear Hq
        have Hv := Lib.hid hv
        have HR3 := Lib.hid (HR.out.ext hE3)
        clear HK HO HR hv hE3 d0 d1 e0 e1 e2 r0 r1 f0 f1
        have r0 := HR3.out.cell 0
        have r1 := HR3.out.cell 1
        have f0 := HR3.out.frozen 0
        have f1 := HR3.out.frozen 1
        simp at r0 r1
        go_wp2
        obtain ⟨V, hV, hVb, kb, hoff⟩ := one_box (B := w.heap.size) HR3.out (by omega) (.slice A7 (E7).bytes.length c7) (.slice P7 (E7).pend.length p7)
        rw [hV]; clear hV
        have q0 := kb.cell 0
        have q1 := kb.cell 1
        simp at q0 q1
        refine bodyPost_ret (v := .tuple #[.agg #[.slice A7 (E7).bytes.length c7, .slice P7 (E7).pend.length p7], .int .i64 ((pFlush D))]) (by simp [results, Try.results48, go_sem, q0, q1]) rfl ⟨_, by rw [Her.out], Below.trans HE.out hVb, by rw [HE7.out]; exact Hv.out.off1 HR3.out hoff⟩
      · have t1 : (kd == 1) = false := by simpa using hk1
        have t2 : (kd == 2) = false := by simpa using hk2
        have he : Hid (pDo D kd x = 2) := by show _ = _; unfold pDo pDoE; rw [if_pos h1, if_neg hk1, if_neg hk2]
        have Hrd : Hid (resD (pDo D kd x) (pDoD D kd x) = ⟨[], []⟩) := by show _ = _; rw [he.out]; rfl
        rw [h1]
        clear h1 hk1 hk2
        go_wp2
        obtain ⟨V, hV, hVb, kb, hoff⟩ := one_box (B := w.heap.size) HR.out (by omega) (.slice none 0 0) (.slice none 0 0)
        rw [hV]; clear hV
        have q0 := kb.cell 0
        have q1 := kb.cell 1
        simp at q0 q1
        refine bodyPost_ret (v := .tuple #[zeroDk, .int .i64 2]) (by simp [results, Try.results48, go_sem, q0, q1, zeroDk]) rfl ⟨_, by rw [he.out], Below.trans HE.out hVb, by rw [Hrd.out]; exact zero_dkv V⟩
  · have t1 : (pCheck D != 0) = true := by simpa using h1
    have he : Hid (pDo D kd x = pCheck D) := by show _ = _; unfold pDo; rw [if_neg h1]
    have Hrd : Hid (resD (pDo D kd x) (pDoD D kd x) = ⟨[], []⟩) := by show _ = _; rw [he.out]; unfold resD; rw [if_neg h1]
    clear h1
    go_wp2
    obtain ⟨V, hV, hVb, kb, hoff⟩ := one_box (B := w.heap.size) HR.out (by omega) (.slice none 0 0) (.slice none 0 0)
    rw [hV]; clear hV
    have q0 := kb.cell 0
    have q1 := kb.cell 1
    simp at q0 q1
    refine bodyPost_ret (v := .tuple #[zeroDk, .int .i64 (pCheck D)]) (by simp [results, Try.results48, go_sem, q0, q1, zeroDk]) rfl ⟨_, by rw [he.out], Below.trans HE.out hVb, by rw [Hrd.out]; exact zero_dkv V⟩
end Go.Proofs.Ytdlalmbnkcadfaa
/- Run: words, and what it comes to. -/
namespace Go.Proofs.Ytdlalmbnkcadfaa
open Go.RowKit

abbrev Op := Int × Wr
/-- Operations in memory. -/
def Os (w : World) (A : Option Addr) (os : List Op) : Prop :=
  ∀ j x, os[j]? = some x → ∃ b o B c, A = some ⟨b, o, none⟩ ∧ w.cell? ⟨b, o + j * 3, none⟩ = some (.int .u8 x.1) ∧ w.cell? ⟨b, o + j * 3 + 1, none⟩ = some (.int .i64 x.2.blk) ∧
    w.cell? ⟨b, o + j * 3 + 2, none⟩ = some (.slice B x.2.bs.length c) ∧ x.2.bs.length ≤ c ∧ By w B x.2.bs
theorem Os.nil (w : World) (A : Option Addr) : Os w A [] := fun j v h => by simp at h
theorem Os.ext {w w' : World} {A : Option Addr} {os : List Op} (h : Os w A os) (e : Ext w w') : Os w' A os := fun j x hj => by
  obtain ⟨b, o, B, c, rfl, h1, h2, h3, h4, h5⟩ := h j x hj
  exact ⟨b, o, B, c, rfl, cellExt e h1, cellExt e h2, cellExt e h3, h4, h5.ext e⟩
/-- What a run leaves: the device, how many were done, the error. -/
def goR (F : Ft) (fuse : Int) : List Op → Nat → Dk → Dk × Nat × Int
  | [], i, D => (D, i, 0)
  | x :: r, i, D => if (i : Int) = fuse then (⟨pCr D.bytes D.pend (fitFt F D.pend.length), []⟩, i, 0) else if pDoE D x.1 x.2 = 0 then goR F fuse r (i + 1) (pDoD D x.1 x.2) else (D, i, pDoE D x.1 x.2)
def pRun (D : Dk) (os : List Op) (fuse : Int) (F : Ft) : Dk × Nat × Int := if pCheck D = 0 then goR F fuse os 0 D else (⟨[], []⟩, 0, pCheck D)
theorem goR_nil (F : Ft) (fuse : Int) (i : Nat) (D : Dk) : goR F fuse [] i D = (D, i, 0) := rfl
theorem goR_fuse {F : Ft} {fuse : Int} {x : Op} {r : List Op} {i : Nat} {D : Dk} (h : (i : Int) = fuse) : goR F fuse (x :: r) i D = (⟨pCr D.bytes D.pend (fitFt F D.pend.length), []⟩, i, 0) := by rw [goR, if_pos h]
theorem goR_bad {F : Ft} {fuse : Int} {x : Op} {r : List Op} {i : Nat} {D : Dk} (h : ¬ (i : Int) = fuse) (h2 : ¬ pDoE D x.1 x.2 = 0) : goR F fuse (x :: r) i D = (D, i, pDoE D x.1 x.2) := by rw [goR, if_neg h, if_neg h2]
theorem goR_go {F : Ft} {fuse : Int} {x : Op} {r : List Op} {i : Nat} {D : Dk} (h : ¬ (i : Int) = fuse) (h2 : pDoE D x.1 x.2 = 0) : goR F fuse (x :: r) i D = goR F fuse r (i + 1) (pDoD D x.1 x.2) := by rw [goR, if_neg h, if_pos h2]
theorem flush_check {D : Dk} (h : pCheck D = 0) : pCheck ⟨pFl D.bytes D.pend, []⟩ = 0 := by
  obtain ⟨h1, h2, h3, h4, h5⟩ := pCheck_ok h
  have hl : (pFl D.bytes D.pend).length = D.bytes.length := pFl_len h5
  unfold pCheck
  simp only
  rw [hl, if_neg (by omega), if_neg (by simp), if_pos (by simp)]
/-- An operation leaves a right device. -/
theorem do_check {D : Dk} (h : pCheck D = 0) (kd : Int) (x : Wr) : pCheck (pDoD D kd x) = 0 := by
  unfold pDoD
  split
  · unfold pPutD
    split
    · rename_i hp
      unfold pPutE at hp
      split at hp
      · rename_i hx
        split at hp
        · cases hp
        · exact put_ok_c h hx (by have := (pCheck_ok h).2.2.2.1; omega)
      · cases hp
    · exact h
  · split
    · exact flush_check h
    · exact h
theorem check_small {D : Dk} (h : pCheck D = 0) : Small D ∧ D.pend.length ≤ 64 := by
  obtain ⟨h1, h2, h3, h4, h5⟩ := pCheck_ok h
  refine ⟨⟨by omega, by omega, fun x hx => ?_⟩, h4⟩
  obtain ⟨_, _, _, hl⟩ := okWr_iff (h5 x hx)
  omega
theorem LD.dkv {w : World} {B xb : Nat} {D : Dk} (h : LD w B xb D) : ∃ A c P e, Bk w xb #[.slice A D.bytes.length c, .slice P D.pend.length e] 84 ∧ DkV w (.agg #[.slice A D.bytes.length c, .slice P D.pend.length e]) D := by
  obtain ⟨g, c, Pv, qs, h1, h2, h3, h4, h5, h6, h7⟩ := h
  obtain ⟨P, e, rfl, he, hW⟩ := h3.ws h4
  exact ⟨_, c, P, e, h1, ⟨_, c, P, e, rfl, h7, h2.by, he, hW⟩⟩
/-- What a run hands back. -/
def RetR (w : World) (R : Dk × Nat × Int) (e : Ending) (w' : World) : Prop := ∃ v, e = .returned (.tuple #[v, .int .i64 (R.2.1 : Int), .int .i64 R.2.2]) ∧ Ext w w' ∧ DkV w' v R.1
end Go.Proofs.Ytdlalmbnkcadfaa
/- device: Run. -/
namespace Go.Proofs.Ytdlalmbnkcadfaa
open Go.RowKit

theorem fitFt_eq (F : Ft) (n : Nat) (hn : n ≤ 64) : (fitFt F n).order = (pFitO F n).map (fun n : Nat => (n : Int)) ∧ (fitFt F n).part = (pFitP F n).map (fun n : Nat => (n : Int)) := by
  have e : pFit (n : Int) = 0 := if_pos (by omega)
  unfold fitFt pFo pFp
  simp only [if_pos e, Int.toNat_natCast]
  rw [fit_is F n hn]
  exact ⟨rfl, rfl⟩
theorem do_err {D : Dk} {kd : Int} {x : Wr} (h : ¬ pDoE D kd x = 0) : pDoD D kd x = D := by
  unfold pDoE at h
  unfold pDoD
  split
  · rename_i hk
    rw [if_pos hk] at h
    unfold pPutD
    rw [if_neg h]
  · rename_i hk
    rw [if_neg hk] at h
    split
    · rename_i hk2
      rw [if_pos hk2] at h
      exact absurd rfl h
    · rfl
set_option maxRecDepth 100000 in
set_option maxHeartbeats 8000000 in
theorem run_any (A P L FA FQ : Option Addr) (c p lc fc fd : Nat) (D : Dk) (os : List Op) (fuse : Int) (F : Ft) (w : World) (hA : By w A D.bytes) (hP : Ws w P D.pend) (hL : Os w L os) (hFA : Is w FA F.order) (hFQ : Is w FQ F.part) (hsm : Small D) (hos : os.length ≤ 1000) (hxs : ∀ x ∈ os, x.2.bs.length ≤ 100000) :
    Calls Try.prog 45 #[.agg #[.slice A D.bytes.length c, .slice P D.pend.length p], .slice L os.length lc, .int .i64 fuse, .agg #[.slice FA F.order.length fc, .slice FQ F.part.length fd]] w (RetR w (pRun D os fuse F)) := by
  obtain ⟨W, hW, hE, hz, k0, kx, k1⟩ := box3 w #[.slice A D.bytes.length c, .slice P D.pend.length p] #[.slice FA F.order.length fc, .slice FQ F.part.length fd] #[.slice none 0 0, .slice none 0 0] 25 34 25
  have hA1 := hA.ext hE
  have hP1 := hP.ext hE
  have HFA := Lib.hid (hFA.ext hE)
  have HFQ := Lib.hid (hFQ.ext hE)
  have HL := Lib.hid (hL.ext hE)
  have HX := Lib.hid kx
  have HR := Lib.hid k1
  have HE := Lib.hid hE
  have d0 := k0.cell 0
  have d1 := k0.cell 1
  simp at d0 d1
  have Hxs := Lib.hid hxs
  have Hz : Hid (W.heap.size = w.heap.size + 3) := hz
  have HL0 := Lib.hid hL
  have HFA0 := Lib.hid hFA
  have HFQ0 := Lib.hid hFQ
  clear hE hz k0 k1 kx hA hP hL hFA hFQ hxs
  go_enter Try.func45, Try.ntmps45
  go_wp2_with fail
  refine (open_any A P c p D W hA1 hP1 hsm).mono ?_
  rintro e w1 ⟨v, rfl, hE1, h2, h3⟩
  clear hW d0 d1 hA1 hP1
  have Hq := Lib.hid (HFA.out.ext hE1)
  clear HFA
  have HFA := Hq
  clear Hq
  have Hq := Lib.hid (HFQ.out.ext hE1)
  clear HFQ
  have HFQ := Hq
  clear Hq
  have Hq := Lib.hid (HL.out.ext hE1)
  clear HL
  have HL := Hq
  clear Hq
  have Hq := Lib.hid (HX.out.ext hE1)
  clear HX
  have HX := Hq
  clear Hq
  have Hq := Lib.hid (HR.out.ext hE1)
  clear HR
  have HR := Hq
  clear Hq
  have Hq := Lib.hid (HE.out.trans hE1)
  clear HE
  have HE := Hq
  clear Hq
  by_cases h1 : pCheck D = 0
  · have hO := h2 h1
    obtain ⟨vA, vn, vc, vP, vm, ve, rfl⟩ := hO.form
    obtain ⟨V1, hV1, hEV1, hzV1, kb⟩ := box1 w1 #[.slice vA vn vc, .slice vP vm ve] 84
    have HLd := Lib.hid (hO.ld hE1.size hEV1 kb)
    have hrun : Hid (pRun D os fuse F = goR F fuse os 0 D) := by show _ = _; unfold pRun; rw [if_pos h1]
    have Hck := Lib.hid h1
    have Hw1 : Hid (W.heap.size ≤ w1.heap.size ∧ W.heap.size ≤ V1.heap.size) := ⟨hE1.size, by have := hE1.size; have := hEV1.size; omega⟩
    rw [h1]
    have Hq := Lib.hid (HFA.out.ext hEV1)
    clear HFA
    have HFA := Hq
    clear Hq
    have Hq := Lib.hid (HFQ.out.ext hEV1)
    clear HFQ
    have HFQ := Hq
    clear Hq
    have Hq := Lib.hid (HL.out.ext hEV1)
    clear HL
    have HL := Hq
    clear Hq
    have Hq := Lib.hid (HX.out.ext hEV1)
    clear HX
    have HX := Hq
    clear Hq
    have Hq := Lib.hid (HR.out.ext hEV1)
    clear HR
    have HR := Hq
    clear Hq
    have Hq := Lib.hid (HE.out.trans hEV1)
    clear HE
    have HE := Hq
    clear Hq
    clear hE1 h1 h2 h3 hO hEV1 hzV1 kb
    go_wp2_with fail
    clear hV1
    obtain ⟨xb, hxb⟩ : ∃ xb, xb = w1.heap.size := ⟨_, rfl⟩
    rw [← hxb] at HLd ⊢
    clear hxb
    go_loopw [27] (fun vi wr => ∃ (k : Nat) (Dk' : Dk), k ≤ os.length ∧ vi = .int .i64 k ∧ Below W.heap.size V1 wr ∧ Hid (LD wr W.heap.size xb Dk') ∧ Hid (pCheck Dk' = 0) ∧ Hid (goR F fuse os 0 D = goR F fuse (os.drop k) k Dk')) (fun vi _ => os.length - (intOf vi).toNat)
    case atStart => exact ⟨0, D, Nat.zero_le _, rfl, Below.refl _ _, HLd, Hck, rfl⟩
    case round =>
      obtain ⟨k, G, hk, rfl, hBr, HG, Hcg, Hgo⟩ := hrel
      have hEr : Ext w wr := Below.trans HE.out (Below.mono hBr (by have := Hz.out; omega))
      have HEr := Lib.hid hEr
      have HRr := Lib.hid (HR.out.below hBr (by have := Hz.out; omega))
      have HXr := Lib.hid (HX.out.below hBr (by have := Hz.out; omega))
      have HBr := Lib.hid hBr
      have hBs : Hid (W.heap.size ≤ wr.heap.size) := by have := hBr.size; have := Hw1.out; show _ ≤ _; omega
      obtain ⟨hsg, hpg⟩ := check_small Hcg.out
      have Hsg := Lib.hid hsg
      have Hpg := Lib.hid hpg
      have hk9 : (k : Int) ≤ 1000 := by omega
      clear hEr hBr hsg hpg
      by_cases hlt : k < os.length
      · obtain ⟨lb, lo, Bx, xd, rfl, p1, p2, p3, p4, p5⟩ := (HL0.out.ext HEr.out) k os[k] (List.getElem?_eq_getElem hlt)
        have hd : os.drop k = os[k] :: os.drop (k + 1) := List.drop_eq_getElem_cons hlt
        have Hd := Lib.hid hd
        have Hp5 := Lib.hid p5
        have hlt' : (k : Int) < (os.length : Int) := by omega
        clear hd p4 p5
        obtain ⟨V2, hV2, hE2, hz2, k2⟩ := box1 wr #[.int .u8 os[k].1, .int .i64 os[k].2.blk, .slice Bx os[k].2.bs.length xd] 70
        have HG2 := Lib.hid (HG.out.ext hE2)
        have HR2 := Lib.hid (HRr.out.ext hE2)
        have HX2 := Lib.hid (HXr.out.ext hE2)
        have HE2 := Lib.hid (HEr.out.trans hE2)
        have HB2 : Hid (Below W.heap.size wr V2) := Below.mono hE2 hBs.out
        have HP2 := Lib.hid (Hp5.out.ext hE2)
        have hs2 : Hid (W.heap.size ≤ V2.heap.size) := Nat.le_trans hBs.out hE2.size
        have o0 := k2.cell 0
        have o1 := k2.cell 1
        have o2 := k2.cell 2
        simp at o0 o1 o2
        clear hE2 hz2 k2
        by_cases hf : (k : Int) = fuse
        · have tf : ((k : Int) == fuse) = true := by simpa using hf
          have hgo : Hid (pRun D os fuse F = (⟨pCr G.bytes G.pend (fitFt F G.pend.length), []⟩, k, 0)) := by
            show _ = _
            rw [hrun.out, Hgo.out, Hd.out, goR_fuse hf]
          clear hf
          obtain ⟨g, cg, Pv, qs, kx, hO, hPO, hqs, hBg, hBx, hcg⟩ := HG2.out
          obtain ⟨PA, pc, rfl, _⟩ := hPO.form
          have hql : qs.length = G.pend.length := by rw [← hqs]; simp
          have Hql := Lib.hid hql
          have x0 := kx.cell 0
          have x1 := kx.cell 1
          have y0 := HX2.out.cell 0
          have y1 := HX2.out.cell 1
          simp at x0 x1 y0 y1
          have Kx := Lib.hid kx
          have HOb := Lib.hid hO
          have HPO := Lib.hid hPO
          have Hqs := Lib.hid hqs
          clear kx hO hPO hqs hql
          go_wp2_with fail
          clear hV2
          refine (fit_any FA FQ fc fd qs.length F V2 (HFA0.out.ext HE2.out) (HFQ0.out.ext HE2.out) (by have := Hql.out; have := Hpg.out; omega)).mono ?_
          rintro e w3 ⟨v, rfl, hE3, hF⟩
          obtain ⟨Ov, Pv, rfl, hOv, hPv, hne⟩ := hF
          obtain ⟨oA, oc, rfl, hoI⟩ := hOv.is
          obtain ⟨pA, pc', rfl, hpI⟩ := hPv.is
          have hoL := fun b hb => (hOv.lt b hb).1
          have hpL := fun b hb => (hPv.lt b hb).1
          obtain ⟨n, hn⟩ : ∃ n, n = qs.length := ⟨_, rfl⟩
          rw [← hn] at hoI hpI hoL hpL ⊢
          have hn64 : n ≤ 64 := by have := Hql.out; have := Hpg.out; omega
          obtain ⟨f1, f2⟩ := fitFt_len F n hn64
          obtain ⟨f3, f4⟩ := fitFt_eq F n hn64
          obtain ⟨_, _, f5⟩ := pIsFate_ok (fitFt_is F n hn64)
          have l1 : (pFitO F n).length = (fitFt F n).order.length := by rw [f3]; simp
          have l2 : (pFitP F n).length = (fitFt F n).part.length := by rw [f4]; simp
          rw [← f3] at hoI
          rw [← f4] at hpI
          rw [l1] at hoL
          rw [l2] at hpL
          rw [l1, l2]
          have HoI := Lib.hid hoI
          have HpI := Lib.hid hpI
          have HoL := Lib.hid hoL
          have HpL := Lib.hid hpL
          have Hf1 := Lib.hid f1
          have Hf2 := Lib.hid f2
          have Hf5 := Lib.hid f5
          have Hn := Lib.hid hn
          have HE3 := Lib.hid hE3
          clear hoI hpI hoL hpL f1 f2 f3 f4 f5 l1 l2 hOv hPv hne hn hE3 x0 x1 y0 y1
          go_wp2_with fail
          have hgl := HOb.out.lt
          have c1 : ∀ q ∈ qs, okWr (G.bytes.length / 32) q.1 = true := fun q hq => (pCheck_ok Hcg.out).2.2.2.2 q.1 (by rw [← Hqs.out]; exact List.mem_map_of_mem hq)
          have c2 : (fitFt F n).order ≠ [] → ∀ a, oA = some a → a.block ≠ g := fun _ a ha => by
            have := HoL.out a.block (by rw [ha]; rfl)
            omega
          have c3 : (fitFt F n).part ≠ [] → ∀ a, pA = some a → a.block ≠ g := fun _ a ha => by
            have := HpL.out a.block (by rw [ha]; rfl)
            omega
          have c4 : ∀ i ∈ (fitFt F n).order, 0 ≤ i ∧ i < (qs.length : Int) := fun i hi => by
            obtain ⟨j, hj, rfl⟩ := List.mem_map.1 (Hf5.out.mem_iff.1 hi)
            have := List.mem_range.1 hj
            have := Hn.out
            omega
          have hcr := crash_any xb g cg W.heap.size (.slice PA qs.length pc) qs G.bytes (fitFt F n) oA pA oc pc' w3 (Kx.out.ext HE3.out) (HOb.out.ext HE3.out) (HPO.out.ext HE3.out) HoI.out HpI.out (by have := Hf1.out; omega) hBx hBg (Nat.le_trans hs2.out HE3.out.size) Hsg.out.1 c1 c2 c3 c4 (by rw [Hf2.out]; exact Hn.out) (fitFt_part F n)
          rw [Hf1.out, Hf2.out] at hcr
          rw [Hf1.out]
          refine hcr.mono ?_
          rintro e w4 ⟨rfl, hb4, kx4, ho4⟩
          rw [Hqs.out] at ho4
          have HB4 : Hid (Below W.heap.size V1 w4) := Below.trans (Below.trans HBr.out HB2.out) (Below.trans (Below.mono HE3.out hs2.out) hb4)
          have HR4 := Lib.hid (HR.out.below HB4.out (by have := Hz.out; omega))
          have HE4 : Hid (Ext w w4) := Below.trans HE.out (Below.mono HB4.out (by have := Hz.out; omega))
          have hno : Hid (n = G.pend.length) := by have := Hql.out; have := Hn.out; show _ = _; omega
          have hcl : Hid ((pCr G.bytes G.pend (fitFt F n)).length = G.bytes.length) := pCr_len (G.bytes.length / 32) G.pend _ (pCheck_ok Hcg.out).2.2.2.2 (fitFt_part F _) _ _ (by omega)
          have x0 := kx4.cell 0
          have x1 := kx4.cell 1
          have r0 := HR4.out.cell 0
          have r1 := HR4.out.cell 1
          have f0 := HR4.out.frozen 0
          have f1 := HR4.out.frozen 1
          simp at x0 x1 r0 r1
          have Ho4 := Lib.hid ho4
          clear kx4 ho4 hb4 HoL HpL
          go_wp2
          obtain ⟨V, hV, hVb, kb, hoff⟩ := one_box (B := w.heap.size) HR4.out (by omega) (.slice (some ⟨g, 0, none⟩) G.bytes.length cg) (.slice none 0 0)
          rw [hV]; clear hV
          have q0 := kb.cell 0
          have q1 := kb.cell 1
          simp at q0 q1
          refine bodyPost_ret (v := .tuple #[.agg #[.slice (some ⟨g, 0, none⟩) G.bytes.length cg, .slice none 0 0], .int .i64 (k : Int), .int .i64 0]) (by simp [results, Try.results45, go_sem, q0, q1]) rfl ⟨_, by rw [hgo.out], Below.trans HE4.out hVb, ?_⟩
          rw [hgo.out, ← hno.out]
          refine ⟨some ⟨g, 0, none⟩, cg, none, 0, by rw [hcl.out]; rfl, by rw [hcl.out]; exact hcg, ?_, Nat.le_refl _, Ws.nil _ _⟩
          exact Ho4.out.by.off1 HR4.out clean_disk hoff
        · have tf : ((k : Int) == fuse) = false := by simpa using hf
          have Hf := Lib.hid hf
          clear hf
          go_wp2_with fail
          clear hV2
          refine (do_any xb W.heap.size G os[k].2 Bx xd os[k].1 V2 HG2.out hs2.out HP2.out Hsg.out (Hxs.out os[k] (List.getElem_mem hlt)) Hcg.out).mono ?_
          rintro e w3 ⟨rfl, hL3, hb3⟩
          have HB3 : Hid (Below W.heap.size V1 w3) := Below.trans (Below.trans HBr.out HB2.out) hb3
          by_cases hE0 : pDoE G os[k].1 os[k].2 = 0
          · have hgo : Hid (goR F fuse os 0 D = goR F fuse (os.drop (k + 1)) (k + 1) (pDoD G os[k].1 os[k].2)) := by
              show _ = _
              rw [Hgo.out, Hd.out, goR_go Hf.out hE0]
            have hck : Hid (pCheck (pDoD G os[k].1 os[k].2) = 0) := do_check Hcg.out _ _
            have HL3 := Lib.hid hL3
            rw [hE0]
            clear hE0 hL3 hb3 o0 o1 o2
            go_wp2
            go_roundw
            case rel => exact ⟨k + 1, _, by omega, by go_num, HB3.out, HL3, hck, hgo⟩
            case measure => simp [intOf]; omega
          · have hgo : Hid (pRun D os fuse F = (G, k, pDoE G os[k].1 os[k].2)) := by
              show _ = _
              rw [hrun.out, Hgo.out, Hd.out, goR_bad Hf.out hE0]
            have te : (pDoE G os[k].1 os[k].2 != 0) = true := by simpa using hE0
            rw [do_err hE0] at hL3
            obtain ⟨A7, c7, P7, p7, kx, hv⟩ := hL3.dkv
            clear hE0 o0 o1 o2 hb3
            have HR4 := Lib.hid (HR.out.below HB3.out (by have := Hz.out; omega))
            have HE4 : Hid (Ext w w3) := Below.trans HE.out (Below.mono HB3.out (by have := Hz.out; omega))
            have x0 := kx.cell 0
            have x1 := kx.cell 1
            have r0 := HR4.out.cell 0
            have r1 := HR4.out.cell 1
            have f0 := HR4.out.frozen 0
            have f1 := HR4.out.frozen 1
            simp at x0 x1 r0 r1
            have Hv := Lib.hid hv
            clear kx hv
            go_wp2
            obtain ⟨V, hV, hVb, kb, hoff⟩ := one_box (B := w.heap.size) HR4.out (by omega) (.slice A7 G.bytes.length c7) (.slice P7 G.pend.length p7)
            rw [hV]; clear hV
            have q0 := kb.cell 0
            have q1 := kb.cell 1
            simp at q0 q1
            refine bodyPost_ret (v := .tuple #[.agg #[.slice A7 G.bytes.length c7, .slice P7 G.pend.length p7], .int .i64 (k : Int), .int .i64 (pDoE G os[k].1 os[k].2)]) (by simp [results, Try.results45, go_sem, q0, q1]) rfl ⟨_, by rw [hgo.out], Below.trans HE4.out hVb, ?_⟩
            rw [hgo.out]
            exact Hv.out.off1 HR4.out hoff
      · obtain rfl : k = os.length := by omega
        have hgo : Hid (pRun D os fuse F = (G, os.length, 0)) := by
          show _ = _
          rw [hrun.out, Hgo.out, List.drop_length, goR_nil]
        obtain ⟨A7, c7, P7, p7, kx, hv⟩ := HG.out.dkv
        have HR4 := Lib.hid (HR.out.below HBr.out (by have := Hz.out; omega))
        have HE4 : Hid (Ext w wr) := Below.trans HE.out (Below.mono HBr.out (by have := Hz.out; omega))
        have x0 := kx.cell 0
        have x1 := kx.cell 1
        have r0 := HR4.out.cell 0
        have r1 := HR4.out.cell 1
        have f0 := HR4.out.frozen 0
        have f1 := HR4.out.frozen 1
        simp at x0 x1 r0 r1
        have Hv := Lib.hid hv
        clear kx hv
        go_wp2
        obtain ⟨V, hV, hVb, kb, hoff⟩ := one_box (B := w.heap.size) HR4.out (by omega) (.slice A7 G.bytes.length c7) (.slice P7 G.pend.length p7)
        rw [hV]; clear hV
        have q0 := kb.cell 0
        have q1 := kb.cell 1
        simp at q0 q1
        refine bodyPost_ret (v := .tuple #[.agg #[.slice A7 G.bytes.length c7, .slice P7 G.pend.length p7], .int .i64 (os.length : Int), .int .i64 0]) (by simp [results, Try.results45, go_sem, q0, q1]) rfl ⟨_, by rw [hgo.out], Below.trans HE4.out hVb, ?_⟩
        rw [hgo.out]
        exact Hv.out.off1 HR4.out hoff
  · have t1 : (pCheck D != 0) = true := by simpa using h1
    have hrun : Hid (pRun D os fuse F = (⟨[], []⟩, 0, pCheck D)) := by show _ = _; unfold pRun; rw [if_neg h1]
    obtain rfl := h3 h1
    unfold zeroDk
    have r0 := fun o => (HR.out.alloc o).cell 0
    have r1 := fun o => (HR.out.alloc o).cell 1
    have f0 := fun o => (HR.out.alloc o).frozen 0
    have f1 := fun o => (HR.out.alloc o).frozen 1
    simp at r0 r1
    clear h1 h2 h3 hE1 HX
    go_wp2
    obtain ⟨V, hV, hVb, kb, hoff⟩ := one_box (B := w.heap.size) (HR.out.alloc (.cells #[.slice none 0 0, .slice none 0 0] 84)) (by omega) (.slice none 0 0) (.slice none 0 0)
    rw [hV]; clear hV
    have q0 := kb.cell 0
    have q1 := kb.cell 1
    simp at q0 q1
    refine bodyPost_ret (v := .tuple #[zeroDk, .int .i64 0, .int .i64 (pCheck D)]) (by simp [results, Try.results45, go_sem, q0, q1, zeroDk]) rfl ⟨zeroDk, by rw [hrun.out]; rfl, Below.trans (HE.out.alloc _) hVb, by rw [hrun.out]; exact zero_dkv V⟩
end Go.Proofs.Ytdlalmbnkcadfaa
