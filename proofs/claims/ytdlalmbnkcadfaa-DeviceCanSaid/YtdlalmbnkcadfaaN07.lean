/- reference: Differ. -/
import Derived.Test.YtdlalmbnkcadfaaN01
import Derived.Test.YtdlalmbnkcadfaaM17
import Derived.Test.YtdlalmbnkcadfaaM18
namespace Go.Proofs.Ytdlalmbnkcadfaa
open Go.RowKit

def pDifE (D E : Dk) : Int := if pCheck D ≠ 0 then pCheck D else if pCheck E ≠ 0 then pCheck E else if D.bytes.length ≠ E.bytes.length then 2 else 0
def blkN (bs : BL) (n : Nat) : BL := (bs.drop (32 * n)).take 32
def difB (D E : Dk) (n : Nat) : Bool := decide (blkN (pFl D.bytes D.pend) n ≠ blkN (pFl E.bytes E.pend) n)
def pDifL (D E : Dk) : List Nat := if pDifE D E = 0 then (List.range (D.bytes.length / 32)).filter (difB D E) else []
def RetI (w : World) (er : Int) (xs : List Nat) (e : Ending) (w' : World) : Prop :=
  ∃ A c, e = .returned (.tuple #[.slice A xs.length c, .int .i64 er]) ∧ Ext w w' ∧ Is w' A (xs.map fun n : Nat => (n : Int))
def SV.fl (bs : BL) : SV := ⟨fun v w => ∃ g c, v = .agg #[.slice (some ⟨g, 0, none⟩) bs.length c, .slice none 0 0] ∧ By w (some ⟨g, 0, none⟩) bs ∧ bs.length ≤ c, fun ⟨g, c, h1, h2, h3⟩ e => ⟨g, c, h1, h2.ext e, h3⟩⟩
def SV.fb (bs : BL) : SV := ⟨fun v w => ∃ g c, v = .slice (some ⟨g, 0, none⟩) bs.length c ∧ By w (some ⟨g, 0, none⟩) bs ∧ bs.length ≤ c, fun ⟨g, c, h1, h2, h3⟩ e => ⟨g, c, h1, h2.ext e, h3⟩⟩
theorem fld0 (g n c : Nat) (w : World) : (Instr.field 25 (.agg #[.slice (some ⟨g, 0, none⟩) n c, .slice none 0 0]) 0).run Try.prog w = .ok (.slice (some ⟨g, 0, none⟩) n c) w := by kernel_rfl
theorem By.sub0 {w : World} {g o k : Nat} {bs : BL} (h : By w (some ⟨g, 0, none⟩) bs) : By w (some ⟨g, o, none⟩) ((bs.drop o).take k) := fun j v hj => by
  have hj' : (bcells bs)[o + j]? = some v := by
    rw [← hj]
    have hjk : j < k := by
      have := (List.getElem?_eq_some_iff.1 hj).1
      simp at this
      omega
    simp only [bcells, List.getElem?_map, List.getElem?_take, if_pos hjk, List.getElem?_drop]
  obtain ⟨b, q, e, hc⟩ := h (o + j) v hj'
  simp only [Option.some.injEq, Addr.mk.injEq, and_true] at e
  obtain ⟨rfl, rfl⟩ := e
  exact ⟨g, o, rfl, by rw [show o + j = 0 + (o + j) by omega]; exact hc⟩
theorem RI.is {w : World} {B : Nat} {v : Value} {xs : List Nat} (h : RI w B v xs) : ∃ A c, v = .slice A xs.length c ∧ Is w A (xs.map fun n : Nat => (n : Int)) := by
  obtain ⟨A, c, e, _, h2⟩ := is_of_own (xs := xs.map fun n : Nat => (n : Int)) (n := xs.length) (by
    have e : icells (xs.map fun n : Nat => (n : Int)) = ncells xs := by simp [icells, ncells]
    rw [e]; exact h) (by simp)
  exact ⟨A, c, by simpa using e, h2⟩
theorem conv_blk {w : World} {g k c : Nat} {bs : BL} (h : By w (some ⟨g, 0, none⟩) bs) (hk : 32 * k + 32 ≤ bs.length) : (convert 22 9 (.slice (some ⟨g, 32 * k, none⟩) 32 c)).run Try.prog w = .ok (.string (strB (blkN bs k))) w := by
  have hl : (blkN bs k).length = 32 := by unfold blkN; simp; omega
  have := conv_by (h.sub0 (o := 32 * k) (k := 32)) c
  rw [show List.take 32 (List.drop (32 * k) bs) = blkN bs k from rfl, hl] at this
  exact this
set_option maxRecDepth 100000 in
set_option maxHeartbeats 4000000 in
theorem rDiffer_any (A P A' P' : Option Addr) (c p c' p' : Nat) (D E : Dk) (w : World) (hA : By w A D.bytes) (hP : Ws w P D.pend) (hA' : By w A' E.bytes) (hP' : Ws w P' E.pend) (hsm : Small D) (hsm' : Small E) :
    Calls Try.prog 50 #[.agg #[.slice A D.bytes.length c, .slice P D.pend.length p], .agg #[.slice A' E.bytes.length c', .slice P' E.pend.length p']] w (RetI w (pDifE D E) (pDifL D E)) := by
  obtain ⟨W, hW, hE, hz, k0, k1⟩ := box2 w #[.slice A D.bytes.length c, .slice P D.pend.length p] #[.slice A' E.bytes.length c', .slice P' E.pend.length p'] 25 25
  have HA := Lib.hid (hA.ext hE)
  have HP := Lib.hid (hP.ext hE)
  have HA1 := Lib.hid (hA'.ext hE)
  have HP1 := Lib.hid (hP'.ext hE)
  have HK := Lib.hid k0
  have HK1 := Lib.hid k1
  have HE := Lib.hid hE
  have Hsm := Lib.hid hsm
  have Hsm' := Lib.hid hsm'
  clear hE hz k0 k1 hA hP hA' hP' hsm hsm'
  have d0 := HK.out.cell 0
  have d1 := HK.out.cell 1
  have e0 := HK1.out.cell 0
  have e1 := HK1.out.cell 1
  simp at d0 d1 e0 e1
  go_enter Try.func50, Try.ntmps50
  go_wp2_with fail
  refine (rCheck_any A P c p D W HP.out Hsm.out).mono ?_
  rintro e w1 ⟨rfl, hE1⟩
  clear hW d0 d1 e0 e1
  have Hq := Lib.hid (HA.out.ext hE1)
  clear HA
  have HA := Hq
  clear Hq
  have Hq := Lib.hid (HP.out.ext hE1)
  clear HP
  have HP := Hq
  clear Hq
  have Hq := Lib.hid (HA1.out.ext hE1)
  clear HA1
  have HA1 := Hq
  clear Hq
  have Hq := Lib.hid (HP1.out.ext hE1)
  clear HP1
  have HP1 := Hq
  clear Hq
  have Hq := Lib.hid (HK.out.ext hE1)
  clear HK
  have HK := Hq
  clear Hq
  have Hq := Lib.hid (HK1.out.ext hE1)
  clear HK1
  have HK1 := Hq
  clear Hq
  have Hq := Lib.hid (HE.out.trans hE1)
  clear HE
  have HE := Hq
  clear Hq
  clear hE1
  by_cases h1 : pCheck D = 0
  · rw [h1]
    have d0 := HK.out.cell 0
    have d1 := HK.out.cell 1
    have e0 := HK1.out.cell 0
    have e1 := HK1.out.cell 1
    simp at d0 d1 e0 e1
    go_wp2_with fail
    refine (rCheck_any A' P' c' p' E w1 HP1.out Hsm'.out).mono ?_
    rintro e w2 ⟨rfl, hE2⟩
    clear d0 d1 e0 e1
    have Hq := Lib.hid (HA.out.ext hE2)
    clear HA
    have HA := Hq
    clear Hq
    have Hq := Lib.hid (HP.out.ext hE2)
    clear HP
    have HP := Hq
    clear Hq
    have Hq := Lib.hid (HA1.out.ext hE2)
    clear HA1
    have HA1 := Hq
    clear Hq
    have Hq := Lib.hid (HP1.out.ext hE2)
    clear HP1
    have HP1 := Hq
    clear Hq
    have Hq := Lib.hid (HK.out.ext hE2)
    clear HK
    have HK := Hq
    clear Hq
    have Hq := Lib.hid (HK1.out.ext hE2)
    clear HK1
    have HK1 := Hq
    clear Hq
    have Hq := Lib.hid (HE.out.trans hE2)
    clear HE
    have HE := Hq
    clear Hq
    clear hE2
    by_cases h2 : pCheck E = 0
    · rw [h2]
      by_cases h3 : D.bytes.length = E.bytes.length
      · have hr : Hid (pDifE D E = 0) := by show _ = _; unfold pDifE; simp [h1, h2, h3]
        have hl : Hid (pDifL D E = (List.range (D.bytes.length / 32)).filter (difB D E)) := by show _ = _; unfold pDifL; rw [if_pos hr.out]
        have t3 : ((D.bytes.length : Int) != (E.bytes.length : Int)) = false := by simp [h3]
        obtain ⟨hr0, hr1, hr2, hr3, hr4⟩ := pCheck_ok h1
        obtain ⟨hs0, hs1, hs2, hs3, hs4⟩ := pCheck_ok h2
        have Hne : Hid (D.bytes ≠ []) := fun e => by rw [e] at hr1; simp at hr1
        have Hne' : Hid (E.bytes ≠ []) := fun e => by rw [e] at hs1; simp at hs1
        have Hok := Lib.hid hr4
        have Hok' := Lib.hid hs4
        have Hl := Lib.hid (pFl_length (D.bytes.length / 32) D.pend D.bytes (by omega) hr4)
        have Hl' := Lib.hid (pFl_length (E.bytes.length / 32) E.pend E.bytes (by omega) hs4)
        have H3 := Lib.hid h3
        have Hr0 : Hid (D.bytes.length % 32 = 0) := hr0
        clear h1 h2 h3 hr0 hr1 hr2 hr3 hr4 hs0 hs1 hs2 hs3 hs4
        have d0 := HK.out.cell 0
        have d1 := HK.out.cell 1
        have e0 := HK1.out.cell 0
        have e1 := HK1.out.cell 1
        simp at d0 d1 e0 e1
        go_wp2_with fail
        have hS := Lib.hid (fun w' (h : Ext w2 w') => (⟨h, (HK.out.ext h).cell 0, (HK.out.ext h).cell 1, (HK1.out.ext h).cell 0, (HK1.out.ext h).cell 1⟩ : Ext w2 w' ∧ w'.cell? ⟨w.heap.size, 0, none⟩ = some (.slice A D.bytes.length c) ∧ w'.cell? ⟨w.heap.size, 1, none⟩ = some (.slice P D.pend.length p) ∧ w'.cell? ⟨w.heap.size + 1, 0, none⟩ = some (.slice A' E.bytes.length c') ∧ w'.cell? ⟨w.heap.size + 1, 1, none⟩ = some (.slice P' E.pend.length p')))
        clear d0 d1 e0 e1
        refine wp_region_rel 7 (by kernel_rfl) (by kernel_rfl) (Ext.refl w2).drew ?_
        (apply relW_fix
         · intro vs w' hw hf
           have hc := hS.out w' hw
           unfold okAt
           go_simp
           first | exact ⟨rfl, Ext.refl _⟩ | exact rfl
         · intro vs; go_simp; rfl)
        (apply relW_any (SV.fl (pFl D.bytes D.pend))
         · intro vs w' hw hf
           have hc := hS.out w' hw
           skip
           unfold okAt
           go_simp
           refine ⟨Ext.refl _, ?_⟩; go_at_call 70; refine (rFlushed_any A P c p D w' (HA.out.ext hw) (HP.out.ext hw) Hsm.out Hne.out Hok.out).mono ?_; rintro e w5 ⟨g, cg, rfl, g1, g2, g3, g4⟩; exact ⟨_, rfl, ⟨g, cg, by rw [Hl.out], g1.by, by rw [Hl.out]; exact g4⟩, g2⟩
         · intro vs; go_simp; rfl)
        (apply relW_any (SV.fb (pFl D.bytes D.pend))
         · intro vs w' hw hf
           have hc := hS.out w' hw
           obtain ⟨g, cg, ev, q1, q2⟩ := hf.out.1 (by kernel_rfl); have hfd := fld0 g (pFl D.bytes D.pend).length cg w'
           unfold okAt
           go_simp
           exact ⟨⟨g, cg, rfl, q1, q2⟩, Ext.refl _⟩
         · intro vs; go_simp; rfl)
        (apply relW_fix
         · intro vs w' hw hf
           have hc := hS.out w' hw
           unfold okAt
           go_simp
           first | exact ⟨rfl, Ext.refl _⟩ | exact rfl
         · intro vs; go_simp; rfl)
        (apply relW_any (SV.fl (pFl E.bytes E.pend))
         · intro vs w' hw hf
           have hc := hS.out w' hw
           skip
           unfold okAt
           go_simp
           refine ⟨Ext.refl _, ?_⟩; go_at_call 70; refine (rFlushed_any A' P' c' p' E w' (HA1.out.ext hw) (HP1.out.ext hw) Hsm'.out Hne'.out Hok'.out).mono ?_; rintro e w5 ⟨g, cg, rfl, g1, g2, g3, g4⟩; exact ⟨_, rfl, ⟨g, cg, by rw [Hl'.out], g1.by, by rw [Hl'.out]; exact g4⟩, g2⟩
         · intro vs; go_simp; rfl)
        (apply relW_any (SV.fb (pFl E.bytes E.pend))
         · intro vs w' hw hf
           have hc := hS.out w' hw
           obtain ⟨g, cg, ev, q1, q2⟩ := hf.out.1 (by kernel_rfl); have hfd := fld0 g (pFl E.bytes E.pend).length cg w'
           unfold okAt
           go_simp
           exact ⟨⟨g, cg, rfl, q1, q2⟩, Ext.refl _⟩
         · intro vs; go_simp; rfl)
        (apply relW_any (SV.fb (pFl D.bytes D.pend))
         · intro vs w' hw hf
           have hc := hS.out w' hw
           obtain ⟨g, cg, ev, q1, q2⟩ := hf.out.2.2.1 (by kernel_rfl)
           unfold okAt
           go_simp
           exact ⟨⟨g, cg, rfl, q1, q2⟩, Ext.refl _⟩
         · intro vs; go_simp; rfl)
        refine relW_nil fun vs w3 hw hf => ?_
        obtain ⟨⟨gx, cx, ex, hx, hcx⟩, ⟨gy, cy, ey, hy, hcy⟩, _⟩ := hf
        rw [Hl.out] at ex
        rw [Hl'.out] at ey
        have HX := Lib.hid hx
        have HY := Lib.hid hy
        have Hcx := Lib.hid hcx
        have Hcy := Lib.hid hcy
        have Hq := Lib.hid (HA.out.ext hw)
        clear HA
        have HA := Hq
        clear Hq
        have Hq := Lib.hid (HP.out.ext hw)
        clear HP
        have HP := Hq
        clear Hq
        have Hq := Lib.hid (HA1.out.ext hw)
        clear HA1
        have HA1 := Hq
        clear Hq
        have Hq := Lib.hid (HP1.out.ext hw)
        clear HP1
        have HP1 := Hq
        clear Hq
        have Hq := Lib.hid (HK.out.ext hw)
        clear HK
        have HK := Hq
        clear Hq
        have Hq := Lib.hid (HK1.out.ext hw)
        clear HK1
        have HK1 := Hq
        clear Hq
        have Hq := Lib.hid (HE.out.trans hw)
        clear HE
        have HE := Hq
        clear Hq
        clear hS hx hy hcx hcy hw
        have d0 := HK.out.cell 0
        have d1 := HK.out.cell 1
        have e0 := HK1.out.cell 0
        have e1 := HK1.out.cell 1
        simp at d0 d1 e0 e1
        go_wp2_with fail
        obtain ⟨nb, hnb⟩ : ∃ nb, nb = D.bytes.length / 32 := ⟨_, rfl⟩
        have Hnb := Lib.hid hnb
        obtain ⟨i0, hi0, hz0, hz1, hz2⟩ := info_parts info_int
        have Hx' : Hid (32 * nb ≤ (pFl D.bytes D.pend).length ∧ 32 * nb ≤ (pFl E.bytes E.pend).length ∧ nb ≤ 100000 ∧ 32 * nb ≤ D.bytes.length ∧ 32 * nb ≤ E.bytes.length) := by have := Hl.out; have := Hl'.out; have := H3.out; have := Hsm.out.1; exact ⟨by omega, by omega, by omega, by omega, by omega⟩
        clear hnb d0 d1 e0 e1 ex ey
        go_loopw [10, 11] (fun vo vi wr => ∃ k : Nat, k ≤ nb ∧ vi = .int .i64 k ∧ Ext w3 wr ∧ RI wr w3.heap.size vo ((List.range k).filter (difB D E))) (fun _ vi _ => nb - (intOf vi).toNat)
        case atStart => exact ⟨0, Nat.zero_le _, rfl, Ext.refl _, World.ownsRow_nil _ _ _ _⟩
        case round =>
          obtain ⟨k, hk, rfl, hEr, hRI⟩ := hrel
          have d0 := (HK.out.ext hEr).cell 0
          have d1 := (HK.out.ext hEr).cell 1
          simp at d0 d1
          have HEr := Lib.hid hEr
          have HRI := Lib.hid hRI
          clear hEr hRI
          go_wp2_with fail
          refine (rBlocks_any A P _ c _ p wr (by have := Hsm.out.1; omega)).mono ?_
          rintro e w4 ⟨rfl, hE4⟩
          rw [← Hnb.out]
          have HE4 := Lib.hid (HEr.out.trans hE4)
          have HR4 := Lib.hid (HRI.out.ext hE4)
          clear hE4 d0 d1 HEr HRI
          by_cases hlt : k < nb
          · have hkk := Hx'.out
            have hk9 : (k : Int) ≤ 100000 := by omega
            have c1 := conv_blk (k := k) (c := cx - 32 * k) (HX.out.ext HE4.out) (by omega)
            have c2 := conv_blk (k := k) (c := cy - 32 * k) (HY.out.ext HE4.out) (by omega)
            have hS := Lib.hid (fun w' (h : Ext w4 w') => (⟨h, conv_blk (k := k) (c := cx - 32 * k) ((HX.out.ext HE4.out).ext h) (by omega), conv_blk (k := k) (c := cy - 32 * k) ((HY.out.ext HE4.out).ext h) (by omega)⟩ : Ext w4 w' ∧ (convert 22 9 (.slice (some ⟨gx, 32 * k, none⟩) 32 (cx - 32 * k))).run Try.prog w' = .ok (.string (strB (blkN (pFl D.bytes D.pend) k))) w' ∧ (convert 22 9 (.slice (some ⟨gy, 32 * k, none⟩) 32 (cy - 32 * k))).run Try.prog w' = .ok (.string (strB (blkN (pFl E.bytes E.pend) k))) w'))
            have hb1 : 32 * (k : Int) + 32 ≤ (D.bytes.length : Int) := by omega
            have hb2 : 32 * (k : Int) + 32 ≤ (E.bytes.length : Int) := by omega
            have hb3 : D.bytes.length ≤ cx := by have := Hcx.out; rw [Hl.out] at this; exact this
            have hb4 : E.bytes.length ≤ cy := by have := Hcy.out; rw [Hl'.out] at this; exact this
            have ts := strB_toList
            have w1 : IntKind.i64.wrap (32 * (k : Int)) = 32 * (k : Int) := by simp [IntKind.wrap, IntKind.bits, IntKind.signed]; omega
            have w2 : IntKind.i64.wrap (32 * (k : Int) + 32) = 32 * (k : Int) + 32 := by simp [IntKind.wrap, IntKind.bits, IntKind.signed]; omega
            have u1 : (0 : Int) ≤ 32 * (k : Int) := by omega
            have u2 : (0 : Int) ≤ 32 * (k : Int) + 32 := by omega
            have u3 : 32 * (k : Int) + 32 ≤ (cx : Int) := by omega
            have u4 : 32 * (k : Int) + 32 ≤ (cy : Int) := by omega
            have u0 : 32 * (k : Int) ≤ 32 * (k : Int) + 32 := by omega
            have u5 : 32 * (k : Int) ≤ max (32 * (k : Int) + 32) 0 := by omega
            have u6 : (32 * (k : Int)).toNat = 32 * k := by omega
            have u7 : (32 * (k : Int) + 32).toNat = 32 * k + 32 := by omega
            have u8 : ¬ cx = 32 * k := by omega
            have u9 : ¬ cy = 32 * k := by omega
            clear hkk c1 c2
            by_cases hd : difB D E k = true
            · have t4 : (blkN (pFl D.bytes D.pend) k == blkN (pFl E.bytes E.pend) k) = false := by unfold difB at hd; simpa using hd
              have hst : Hid ((List.range (k + 1)).filter (difB D E) = (List.range k).filter (difB D E) ++ [k]) := by show _ = _; rw [List.range_succ, List.filter_append]; simp [hd]
              clear hd
              go_wp2_with fail
              refine wp_region_rel 16 (by kernel_rfl) (by kernel_rfl) (Ext.refl w4).drew ?_
              repeat (apply relW_fix
                      · intro vs w' hw hf
                        have hc := hS.out w' hw
                        unfold okAt
                        go_simp
                        first | exact ⟨rfl, Ext.refl _⟩ | exact rfl
                      · intro vs; go_simp; rfl)
              refine relW_nil fun vs w5 hw hf => ?_
              have HE5 := Lib.hid (HE4.out.trans hw)
              have HR5 := Lib.hid (HR4.out.ext hw)
              clear hw hf hS
              have hxl : ((List.range k).filter (difB D E)).length ≤ 100000 := by
                have h1 := List.length_filter_le (difB D E) (List.range k)
                have h2 := Hx'.out
                simp at h1
                omega
              generalize (List.range k).filter (difB D E) = xs at *
              have hE2 : Ext w5 (w5.alloc (.cells #[.int .i64 (k : Int)] 3)) := (Ext.refl w5).alloc _
              have hsz := HE5.out.size
              go_wp2_with (first
                | (at_builtin
                   refine wpList_append_lies (P := Try.prog) _ rfl _ _ 32 rfl w3.heap.size 3 i0 _ 1 8 Try.underlying32 hi0 hz0 hz1 hz2 (by rfl) (by omega) _ xs.length (ncells xs) (by rfl) (HR5.out.ext hE2) ⟨w5.heap.size, 0, none⟩ 1 1 [.int .i64 (k : Int)] ?e1 (by rfl) ?e2 ?e3 (by omega) ?e4 ?e5 ?e6 _ rfl ?e7)
                | fail)
              case e1 => rfl
              case e2 => exact World.news_of_block (cs := #[.int .i64 (k : Int)]) (Bk.new _ _ _)
              case e3 => intro u hu; simp at hu; subst hu; rfl
              case e4 => simp only [maxLen]; omega
              case e5 => omega
              case e6 => simp; omega
              case e7 =>
                intro g cap w7 hown hgrow hat hlt7
                have hE7 := Lib.hid (Below.grown (HE5.out.trans hE2) hgrow (by simp; omega) (fun x hx => (HR5.out.lt x hx).1))
                have hR7 : Hid (RI w7 w3.heap.size (.slice (some ⟨g, 0, none⟩) (xs.length + 1) cap) (xs ++ [k])) := by
                  have e : ncells (xs ++ [k]) = ncells xs ++ [.int .i64 (k : Int)] := by simp
                  show World.ownsRow _ _ _ _ _ _ _
                  rw [e]
                  simpa using hown
                clear hown hgrow hat hE2 hsz w1 w2 u0 u1 u2 u3 u4 u5 u6 u7 u8 u9
                go_wp2
                go_roundw
                case rel => exact ⟨k + 1, by omega, by go_num, hE7.out, by rw [hst.out]; exact hR7.out⟩
                case measure => simp [intOf]; omega
            · have t4 : (blkN (pFl D.bytes D.pend) k == blkN (pFl E.bytes E.pend) k) = true := by unfold difB at hd; simpa using hd
              have hst : Hid ((List.range (k + 1)).filter (difB D E) = (List.range k).filter (difB D E)) := by show _ = _; rw [List.range_succ, List.filter_append]; simp [hd]
              clear hd
              go_wp2_with fail
              refine wp_region_rel 16 (by kernel_rfl) (by kernel_rfl) (Ext.refl w4).drew ?_
              repeat (apply relW_fix
                      · intro vs w' hw hf
                        have hc := hS.out w' hw
                        unfold okAt
                        go_simp
                        first | exact ⟨rfl, Ext.refl _⟩ | exact rfl
                      · intro vs; go_simp; rfl)
              refine relW_nil fun vs w5 hw hf => ?_
              have HE5 := Lib.hid (HE4.out.trans hw)
              have HR5 := Lib.hid (HR4.out.ext hw)
              clear hw hf hS
              clear w1 w2 u0 u1 u2 u3 u4 u5 u6 u7 u8 u9
              go_wp2
              go_roundw
              case rel => exact ⟨k + 1, by omega, by go_num, HE5.out, by rw [hst.out]; exact HR5.out⟩
              case measure => simp [intOf]; omega
          · obtain rfl : k = nb := by omega
            obtain ⟨RA, rc, rfl, hIs⟩ := HR4.out.is
            have HIs := Lib.hid hIs
            clear hIs HR4
            go_wp2
            go_ret2
            rw [hr.out, hl.out, ← Hnb.out]
            exact ⟨RA, rc, rfl, HE.out.trans HE4.out, HIs.out⟩
      · have hr : Hid (pDifE D E = 2) := by show _ = _; unfold pDifE; simp [h1, h2, h3]
        have hl : Hid (pDifL D E = []) := by show _ = _; unfold pDifL; rw [if_neg (by rw [hr.out]; decide)]
        have t3 : ((D.bytes.length : Int) != (E.bytes.length : Int)) = true := by simp; omega
        clear h1 h2 h3
        have d0 := HK.out.cell 0
        have d1 := HK.out.cell 1
        have e0 := HK1.out.cell 0
        have e1 := HK1.out.cell 1
        simp at d0 d1 e0 e1
        go_wp2
        go_ret2
        rw [hr.out, hl.out]
        exact ⟨none, 0, rfl, HE.out, Is.nil _ _⟩
    · have hr : Hid (pDifE D E = pCheck E) := by show _ = _; unfold pDifE; simp [h1, h2]
      have hl : Hid (pDifL D E = []) := by show _ = _; unfold pDifL; rw [if_neg (by rw [hr.out]; exact h2)]
      have t2 : (pCheck E != 0) = true := by simp [h2]
      clear h1 h2
      go_wp2
      go_ret2
      rw [hr.out, hl.out]
      exact ⟨none, 0, rfl, HE.out, Is.nil _ _⟩
  · have hr : Hid (pDifE D E = pCheck D) := by show _ = _; unfold pDifE; simp [h1]
    have hl : Hid (pDifL D E = []) := by show _ = _; unfold pDifL; rw [if_neg (by rw [hr.out]; exact h1)]
    have t1 : (pCheck D != 0) = true := by simp [h1]
    clear h1
    go_wp2
    go_ret2
    rw [hr.out, hl.out]
    exact ⟨none, 0, rfl, HE.out, Is.nil _ _⟩
end Go.Proofs.Ytdlalmbnkcadfaa
/- device: flush, and what it leaves alone. -/
namespace Go.Proofs.Ytdlalmbnkcadfaa
open Go.RowKit

/-- All old blocks but two are as they were. -/
def Fr2 (w w' : World) (g x : Nat) : Prop := ∀ k, k < w.heap.size → k ≠ g → k ≠ x → w'.heap[k]? = w.heap[k]?
set_option maxRecDepth 100000 in
set_option maxHeartbeats 2000000 in
theorem flush_fr (xb g c B : Nat) (Pv : Value) (qs : List Rec) (bytes : BL) (w : World) (hx : Bk w xb #[.slice (some ⟨g, 0, none⟩) bytes.length c, Pv] 84) (hO : OB w g c bytes) (hPO : PO w B [g, xb] Pv qs)
    (hBx : B ≤ xb) (hBg : B ≤ g) (hB : B ≤ w.heap.size) (hsm : bytes.length ≤ 100000) (hq : qs.length ≤ 100000) (hok : ∀ q ∈ qs, okWr (bytes.length / 32) q.1 = true) :
    Calls Try.prog 71 #[.pointer (some ⟨xb, 0, none⟩)] w fun e w' => e = .returned (.tuple #[]) ∧ Below B w w' ∧
      Bk w' xb #[.slice (some ⟨g, 0, none⟩) bytes.length c, .slice none 0 0] 84 ∧ OB w' g c (pFl bytes (qs.map Prod.fst)) ∧ Fr2 w w' g xb := by
  obtain ⟨PA, pc, rfl, hpc⟩ := hPO.form
  have x0 := hx.cell 0
  have x1 := hx.cell 1
  simp at x0 x1
  go_enter Try.func71, Try.ntmps71
  go_wp2_with fail
  go_loopw [10] (fun i wr => ∃ k : Nat, k ≤ qs.length ∧ i = .int .i64 k ∧ FlInv w wr B xb g c bytes.length (.slice PA qs.length pc) qs bytes k ∧ Hid (Fr2 w wr g xb)) (fun i _ => qs.length - (intOf i).toNat)
  case atStart => exact ⟨0, Nat.zero_le _, rfl, ⟨Below.refl _ _, hx, hO, hPO⟩, fun _ _ _ _ => rfl⟩
  case round =>
    obtain ⟨k, hk, rfl, ⟨hEr, jx, hOr, hPr⟩, Hfr⟩ := hrel
    clear x0 x1
    by_cases hlt : k < qs.length
    · obtain ⟨r, pc', hv, hBr, e1, e2⟩ := hPr.at hlt
      simp only [Value.slice.injEq, true_and] at hv
      obtain ⟨rfl, rfl⟩ := hv
      have x0 := jx.cell 0
      have x1 := jx.cell 1
      simp at x0 x1
      have HEr := Lib.hid hEr
      clear hEr
      go_wp2_with fail
      obtain ⟨V, hV, hEV, hzV, kx⟩ := box1 wr #[.int .i64 qs[k].1.blk, .slice qs[k].2.1 qs[k].1.bs.length qs[k].2.2] 49
      rw [hV]; clear hV
      have jx' := jx.ext hEV
      have hS := Lib.hid (fun w' (h : Ext V w') => (⟨h, (jx'.ext h).cell 0, (jx'.ext h).cell 1, (kx.ext h).cell 0, (kx.ext h).cell 1⟩ : Ext V w' ∧ w'.cell? ⟨xb, 0, none⟩ = some (.slice (some ⟨g, 0, none⟩) bytes.length c) ∧ w'.cell? ⟨xb, 1, none⟩ = some (.slice (some ⟨r, 0, none⟩) qs.length pc) ∧ w'.cell? ⟨wr.heap.size, 0, none⟩ = some (.int .i64 qs[k].1.blk) ∧ w'.cell? ⟨wr.heap.size, 1, none⟩ = some (.slice qs[k].2.1 qs[k].1.bs.length qs[k].2.2)))
      refine wp_region_rel 4 (by kernel_rfl) (by kernel_rfl) (Ext.refl V).drew ?_
      repeat (apply relW_fix
              · intro vs w' hw hf
                have hc := hS.out w' hw
                unfold okAt
                go_simp
                first | exact ⟨rfl, Ext.refl _⟩ | exact rfl
              · intro vs; go_simp; rfl)
      refine relW_nil fun vs w6 hw hf => ?_
      obtain ⟨kb, hkb, hkn, hbl⟩ := okWr_iff (hok qs[k] (List.getElem_mem hlt))
      have hE6 : Ext wr w6 := hEV.trans hw
      obtain ⟨hq1, hq2, hq3⟩ := hPr.one qs[k] (List.getElem_mem hlt)
      have hlen : (pFl bytes ((qs.take k).map Prod.fst)).length = bytes.length := pFl_length (bytes.length / 32) _ _ (by omega) (fun x hx => by
        obtain ⟨q, hq, rfl⟩ := List.mem_map.1 hx
        exact hok q (List.mem_of_mem_take hq))
      have Hlen := Lib.hid hlen
      have Hkb := Lib.hid hkb
      have Hbl := Lib.hid hbl
      clear hlen hkb hbl x0 x1 e1 e2
      have hgo := Lib.hid (reach_int g c (.slice (some ⟨r, 0, none⟩) qs.length pc) (pFl bytes ((qs.take k).map Prod.fst)) qs[k].1.bs qs[k].2.1 qs[k].2.2 qs[k].1.blk 32 w6 (hOr.ext hE6) (by rw [Hlen.out]; exact hsm) (hq2.ext hE6)
        (by rw [Hkb.out]; omega) (by rw [Hkb.out, Hlen.out]; simp; omega) (by omega) (by rw [Hbl.out]; simp) (by omega) hq1)
      rw [Hlen.out] at hgo
      go_wp2_with fail
      refine hgo.out.mono ?_
      rintro e w7 ⟨rfl, hO7, hg7⟩
      have nX : (84 : Nat) ≠ 5 := by decide
      have hbg : ∃ cur, Bk wr g cur 5 := by obtain ⟨m, _, h⟩ := hOr; exact ⟨_, h⟩
      obtain ⟨cur, hcur⟩ := hbg
      have hPO7 := Lib.hid ((hPr.ext hE6).grown hg7 (by simp) (hcur.not_own hPr.own (by decide)))
      have hx7 := Lib.hid ((jx.ext hE6).grown hg7 (fun e => Bk.ne jx hcur nX (Option.some.inj e)))
      have hE7 : Hid (Below B w w7) := (HEr.out.trans (Below.mono hE6 (by have := HEr.out.size; omega))).grown hg7 (by have := HEr.out.size; have := hE6.size; omega) (fun k hk => by obtain rfl := Option.some.inj hk; exact hBg)
      have hO7' := Lib.hid hO7
      have Hfr7 : Hid (Fr2 w w7 g xb) := fun k hk h1 h2 => ((hg7.block k (by have := HEr.out.size; have := hE6.size; omega) (fun e => h1 (Option.some.inj e))).trans (hE6.block k (by have := HEr.out.size; omega))).trans (Hfr.out k hk h1 h2)
      clear hO7 hg7 hcur hgo hPr jx jx' kx hS hE6 hw hEV hOr hq1 hq2 hq3
      go_wp2
      go_roundw
      case rel =>
        refine ⟨k + 1, by omega, by go_num, ⟨hE7.out, hx7.out, ?_, hPO7.out⟩, Hfr7⟩
        rw [List.take_succ_eq_append_getElem hlt, List.map_append]
        simp only [List.map_cons, List.map_nil]
        rw [pFl_snoc]
        exact hO7'.out
      case measure => simp [intOf]; omega
    · obtain rfl : k = qs.length := by omega
      have x0 := jx.cell 0
      have x1 := jx.cell 1
      have f1 := jx.frozen 1
      simp at x0 x1
      have Hjx := Lib.hid jx
      have HEr := Lib.hid hEr
      clear jx hEr
      go_wp2
      go_end0
      have hne : g ≠ xb := by obtain ⟨m, _, h⟩ := hOr; exact Bk.ne h Hjx.out (by decide)
      refine ⟨rfl, HEr.out.setCell (by exact hBx) _, Hjx.out.set 1 _, ?_, fun k hk h1 h2 => (Below.heap_setCell _ _ _ k (by exact h2)).trans (Hfr.out k hk h1 h2)⟩
      rw [List.take_length] at hOr
      exact hOr.far hne _


/-- What lies from B on is as it was. -/
structure Hi (B : Nat) (w w' : World) : Prop where
  size : w.heap.size ≤ w'.heap.size
  block : ∀ k, B ≤ k → k < w.heap.size → w'.heap[k]? = w.heap[k]?
theorem By.hi {w w' : World} {A : Option Addr} {bs : BL} {B : Nat} (h : By w A bs) (hA : ∀ a, A = some a → B ≤ a.block) (e : Hi B w w') : By w' A bs :=
  Sl.keep h fun p ⟨a, ha, hp⟩ hl => World.cell?_of_block (e.block p.block (by rw [hp]; exact hA a ha) hl)
theorem Bk.hi {w w' : World} {g B : Nat} {cs : Array Value} {t : TypeId} (h : Bk w g cs t) (hg : B ≤ g) (e : Hi B w w') : Bk w' g cs t := (e.block g hg h.lt).trans h
theorem PO.hi {w w' : World} {B : Nat} {X : List Nat} {Pv : Value} {qs : List Rec} (h : PO w B X Pv qs) (e : Hi B w w') : PO w' B X Pv qs := by
  refine ⟨⟨h.own.1, ?_⟩, fun q hq => ?_⟩
  · rcases h.own.2 with hn | ⟨g, cap, cur, hv, hb, hh, r⟩
    · exact .inl hn
    · exact .inr ⟨g, cap, cur, hv, hb, (e.block g hb (Array.getElem?_eq_some_iff.1 hh).1).trans hh, r⟩
  · obtain ⟨h1, h2, h3⟩ := h.one q hq
    exact ⟨h1, h2.hi (fun a ha => (h3 a ha).1) e, fun a ha => by obtain ⟨a1, a2, a3, a4⟩ := h3 a ha; exact ⟨a1, Nat.lt_of_lt_of_le a2 e.size, a3, a4⟩⟩
theorem LD.hi {w w' : World} {B xb : Nat} {D : Dk} (h : LD w B xb D) (e : Hi B w w') : LD w' B xb D := by
  obtain ⟨g, c, Pv, qs, h1, ⟨m, hm, h2⟩, h3, h4, h5, h6, h7⟩ := h
  exact ⟨g, c, Pv, qs, h1.hi h6 e, ⟨m, hm, h2.hi h5 e⟩, h3.hi e, h4, h5, h6, h7⟩
theorem flush_ld2 (xb B C : Nat) (D : Dk) (w : World) (hL : LD w B xb D) (hB : B ≤ w.heap.size) (hsm : Small D) (hok : ∀ x ∈ D.pend, okWr (D.bytes.length / 32) x = true) (hC : ∀ g c Pv, Bk w xb #[.slice (some ⟨g, 0, none⟩) D.bytes.length c, Pv] 84 → g < C) (hCx : xb < C) :
    Calls Try.prog 71 #[.pointer (some ⟨xb, 0, none⟩)] w fun e w' =>
      e = .returned (.tuple #[]) ∧ LD w' B xb ⟨pFl D.bytes D.pend, []⟩ ∧ Below B w w' ∧ Hi C w w' := by
  obtain ⟨g, c, Pv, qs, h1, h2, h3, h4, h5, h6, h7⟩ := hL
  have hq : qs.length = D.pend.length := by rw [← h4]; simp
  have hg := hC g c Pv h1
  refine (flush_fr xb g c B Pv qs D.bytes w h1 h2 h3 h6 h5 hB hsm.1 (by rw [hq]; exact hsm.2.1) (fun q hq => hok q.1 (by rw [← h4]; exact List.mem_map_of_mem hq))).mono ?_
  rintro e w' ⟨e1, e2, e3, e4, e5⟩
  rw [h4] at e4
  refine ⟨e1, ⟨g, c, .slice none 0 0, [], ?_, e4, PO.nil _ _ _, rfl, h5, h6, ?_⟩, e2, e2.size, fun k hk hl => e5 k hl (by omega) (by omega)⟩
  · rw [pFl_len hok]; exact e3
  · rw [pFl_len hok]; exact h7
end Go.Proofs.Ytdlalmbnkcadfaa
