/- Fit, device and reference: one answer. -/
import Derived.Test.YtdlalmbnkcadfaaN15
import Derived.Test.YtdlalmbnkcadfaaN06
namespace Go.Proofs.Ytdlalmbnkcadfaa
open Go.RowKit

def pFo (F : Ft) (n : Int) : List Nat := if pFit n = 0 then rOrd (fkey F) n.toNat else []
def pFp (F : Ft) (n : Int) : List Nat := if pFit n = 0 then (List.range n.toNat).map (fPart F.part) else []
/-- The fate that Fit makes. -/
def fitFt (F : Ft) (n : Int) : Ft := ⟨(pFo F n).map fun n : Nat => (n : Int), (pFp F n).map fun n : Nat => (n : Int)⟩
theorem fit_is (F : Ft) (n : Nat) (hn : n ≤ 64) : pFitO F n = rOrd (fkey F) n := stable_is _ n hn
theorem pFp_len (F : Ft) (n : Int) : (pFp F n).length ≤ 64 := by
  unfold pFp
  by_cases h : 0 ≤ n ∧ n ≤ 64
  · rw [if_pos (show pFit n = 0 from if_pos h)]; simp; omega
  · rw [if_neg (by rw [show pFit n = 3 from if_neg h]; decide)]; simp
theorem pFo_len (F : Ft) (n : Int) : (pFo F n).length ≤ 64 := by
  unfold pFo
  by_cases h : 0 ≤ n ∧ n ≤ 64
  · rw [if_pos (show pFit n = 0 from if_pos h), (rOrd_ok (fkey F) n.toNat).len]; omega
  · rw [if_neg (by rw [show pFit n = 3 from if_neg h]; decide)]; simp
set_option maxRecDepth 100000 in
set_option maxHeartbeats 1000000 in
theorem rFit_bad (A P : Option Addr) (c d : Nat) (n : Int) (F : Ft) (w : World) (hn : ¬ (0 ≤ n ∧ n ≤ 64)) :
    Calls Try.prog 23 #[.agg #[.slice A F.order.length c, .slice P F.part.length d], .int .i64 n] w (RetFt w 3 [] []) := by
  by_cases h0 : n < 0
  · have t1 : decide (n < 0) = true := decide_eq_true h0
    clear hn h0
    go_enter Try.func23, Try.ntmps23
    go_wp2
    refine bodyPost_ret (v := .tuple #[zeroDk, .int .i64 3]) (by simp [results, Try.results23, go_sem, zeroDk]) rfl ⟨none, 0, none, 0, rfl, ?_, Is.nil _ _, Is.nil _ _⟩
    exact ((Ext.refl w).alloc _).alloc _
  · have t1 : decide (n < 0) = false := decide_eq_false h0
    have t2 : decide (64 < n) = true := by rw [decide_eq_true_eq]; omega
    clear hn h0
    go_enter Try.func23, Try.ntmps23
    go_wp2
    refine bodyPost_ret (v := .tuple #[zeroDk, .int .i64 3]) (by simp [results, Try.results23, go_sem, zeroDk]) rfl ⟨none, 0, none, 0, rfl, ?_, Is.nil _ _, Is.nil _ _⟩
    exact ((Ext.refl w).alloc _).alloc _
theorem rFit_any (A P : Option Addr) (c d : Nat) (n : Int) (F : Ft) (w : World) (hA : Is w A F.order) (hP : Is w P F.part) :
    Calls Try.prog 23 #[.agg #[.slice A F.order.length c, .slice P F.part.length d], .int .i64 n] w (RetFt w (pFit n) (pFo F n) (pFp F n)) := by
  by_cases h : 0 ≤ n ∧ n ≤ 64
  · obtain ⟨k, rfl⟩ : ∃ k : Nat, n = k := ⟨n.toNat, by omega⟩
    have e : pFit (k : Int) = 0 := if_pos h
    have e1 : pFo F (k : Int) = rOrd (fkey F) k := by unfold pFo; rw [if_pos e]; simp
    have e2 : pFp F (k : Int) = (List.range k).map (fPart F.part) := by unfold pFp; rw [if_pos e]; simp
    rw [e, e1, e2]
    exact rFit_ok A P c d k F w hA hP (by omega)
  · have e : pFit n = 3 := if_neg h
    have e1 : pFo F n = [] := by unfold pFo; rw [e]; rfl
    have e2 : pFp F n = [] := by unfold pFp; rw [e]; rfl
    rw [e, e1, e2]
    exact rFit_bad A P c d n F w h
theorem RetF.ft {w w' : World} {F : Ft} {n : Int} {e : Ending} (h : RetF w (pFit n) (pFitO F n.toNat) (pFitP F n.toNat) e w') : RetFt w (pFit n) (pFo F n) (pFp F n) e w' := by
  obtain ⟨v, rfl, hE, h0, h1⟩ := h
  by_cases hp : pFit n = 0
  · have hn : 0 ≤ n ∧ n ≤ 64 := by
      unfold pFit at hp
      split at hp
      · assumption
      · cases hp
    obtain ⟨Ov, Pv, rfl, hO, hP, _⟩ := h0 hp
    obtain ⟨A, c, rfl, hA⟩ := hO.is
    obtain ⟨P, d, rfl, hP'⟩ := hP.is
    have e1 : pFo F n = pFitO F n.toNat := by unfold pFo; rw [if_pos hp, fit_is F n.toNat (by omega)]
    have e2 : pFp F n = pFitP F n.toNat := by unfold pFp; rw [if_pos hp]; rfl
    rw [e1, e2]
    exact ⟨A, c, P, d, rfl, hE, hA, hP'⟩
  · obtain rfl := h1 hp
    have e1 : pFo F n = [] := by unfold pFo; rw [if_neg hp]
    have e2 : pFp F n = [] := by unfold pFp; rw [if_neg hp]
    rw [e1, e2]
    exact ⟨none, 0, none, 0, rfl, hE, Is.nil _ _, Is.nil _ _⟩
end Go.Proofs.Ytdlalmbnkcadfaa
/- DeviceFits: the walk. -/
namespace Go.Proofs.Ytdlalmbnkcadfaa
open Go.RowKit

set_option maxRecDepth 100000 in
set_option maxHeartbeats 8000000 in
theorem fits_any (FA FQ : Option Addr) (fc fd : Nat) (F : Ft) (n : Int) (w : World) (hFA : Is w FA F.order) (hFQ : Is w FQ F.part) :
    Calls Try.prog 4 #[.agg #[.slice FA F.order.length fc, .slice FQ F.part.length fd], .int .i64 n] w fun e w' => e = .returned (.bool true) ∧ Ext w w' := by
  obtain ⟨W, hW, hE, hz, k1⟩ := box1 w #[.slice FA F.order.length fc, .slice FQ F.part.length fd] 34
  have HX : Hid (FBx W w.heap.size FA FQ fc fd F) := ⟨k1, hFA.ext hE, hFQ.ext hE⟩
  have HE := Lib.hid hE
  have hd := HX.out.cells
  clear hE hFA hFQ k1 hz
  go_enter Try.func4, Try.ntmps4
  go_wp2_with fail
  refine (thinFate_any FA FQ fc fd F W).mono ?_
  rintro e w1 ⟨rfl, hE1⟩
  have Hq := Lib.hid (HX.out.ext hE1)
  clear HX
  have HX := Hq
  clear Hq
  have Hq := Lib.hid (HE.out.trans hE1)
  clear HE
  have HE := Hq
  clear Hq
  clear hE1 hd hW
  have hd := HX.out.cells
  by_cases ht : pThinF F = true
  · have Hl : Hid (F.order.length ≤ 100 ∧ F.part.length ≤ 100) := by
      unfold pThinF at ht
      simp only [Bool.and_eq_true, decide_eq_true_eq] at ht
      exact ht
    rw [ht]
    clear ht
    go_wp2_with fail
    refine (copyFate_any FA FQ fc fd F w1 HX.out.a HX.out.p (by have := Hl.out; omega) (by have := Hl.out; omega)).mono ?_
    rintro e w2 ⟨v, rfl, ⟨A1, c1, P1, d1, rfl, _, hA1, _, hP1⟩, hE2⟩
    clear hd
    have Hq := Lib.hid (HX.out.ext hE2)
    clear HX
    have HX := Hq
    clear Hq
    have Hq := Lib.hid (HE.out.trans hE2)
    clear HE
    have HE := Hq
    clear Hq
    obtain ⟨V2, hV2, hE3, hz3, k2⟩ := box1 w2 #[.slice A1 F.order.length c1, .slice P1 F.part.length d1] 34
    have HB : Hid (FBx V2 w2.heap.size A1 P1 c1 d1 F) := ⟨k2, hA1.ext hE3, hP1.ext hE3⟩
    have Hq := Lib.hid (HX.out.ext hE3)
    clear HX
    have HX := Hq
    clear Hq
    have Hq := Lib.hid (HE.out.trans hE3)
    clear HE
    have HE := Hq
    clear Hq
    have hb := HB.out.cells
    clear hE2 hE3 hz3 k2 hA1 hP1
    go_wp2_with fail
    clear hV2
    refine (fitF_any A1 P1 c1 d1 n F V2 HB.out.a HB.out.p).mono ?_
    rintro e w3 hr
    obtain ⟨A3, c3, P3, d3, rfl, hE4, hA3, hP3⟩ := hr.ft
    clear hr hb
    have Hq := Lib.hid (HB.out.ext hE4)
    clear HB
    have HB := Hq
    clear Hq
    have Hq := Lib.hid (HX.out.ext hE4)
    clear HX
    have HX := Hq
    clear Hq
    have Hq := Lib.hid (HE.out.trans hE4)
    clear HE
    have HE := Hq
    clear Hq
    have hA3' : Is w3 A3 (fitFt F n).order := hA3
    have hP3' : Is w3 P3 (fitFt F n).part := hP3
    obtain ⟨o, ho⟩ : ∃ o, o = (pFo F n).length := ⟨_, rfl⟩
    obtain ⟨q, hq⟩ : ∃ q, q = (pFp F n).length := ⟨_, rfl⟩
    rw [← ho, ← hq]
    have Ho0 := Lib.hid ho
    have Hq0 := Lib.hid hq
    clear ho hq
    obtain ⟨V3, hV3, hE5, hz5, k3⟩ := box1 w3 #[.slice A3 o c3, .slice P3 q d3] 34
    have H3 := Lib.hid k3
    have HA3 := Lib.hid (hA3'.ext hE5)
    have HP3 := Lib.hid (hP3'.ext hE5)
    have Hq := Lib.hid (HB.out.ext hE5)
    clear HB
    have HB := Hq
    clear Hq
    have Hq := Lib.hid (HX.out.ext hE5)
    clear HX
    have HX := Hq
    clear Hq
    have Hq := Lib.hid (HE.out.trans hE5)
    clear HE
    have HE := Hq
    clear Hq
    have hd := HX.out.cells
    clear hE4 hE5 hz5 k3 hA3 hP3 hA3' hP3'
    go_wp2_with fail
    clear hV3 hd
    refine (rFit_any FA FQ fc fd n F V3 HX.out.a HX.out.p).mono ?_
    rintro e w5 ⟨A5, c5, P5, d5, rfl, hE6, hA5, hP5⟩
    rw [← Ho0.out, ← Hq0.out]
    have Hq := Lib.hid (H3.out.ext hE6)
    clear H3
    have H3 := Hq
    clear Hq
    have Hq := Lib.hid (HA3.out.ext hE6)
    clear HA3
    have HA3 := Hq
    clear Hq
    have Hq := Lib.hid (HP3.out.ext hE6)
    clear HP3
    have HP3 := Hq
    clear Hq
    have Hq := Lib.hid (HB.out.ext hE6)
    clear HB
    have HB := Hq
    clear Hq
    have Hq := Lib.hid (HX.out.ext hE6)
    clear HX
    have HX := Hq
    clear Hq
    have Hq := Lib.hid (HE.out.trans hE6)
    clear HE
    have HE := Hq
    clear Hq
    obtain ⟨V5, hV5, hE7, hz7, k5⟩ := box1 w5 #[.slice A5 o c5, .slice P5 q d5] 34
    have hA5' : Is w5 A5 (fitFt F n).order := hA5
    have hP5' : Is w5 P5 (fitFt F n).part := hP5
    have H5 := Lib.hid k5
    have HA5 := Lib.hid (hA5'.ext hE7)
    have HP5 := Lib.hid (hP5'.ext hE7)
    have Hq := Lib.hid (H3.out.ext hE7)
    clear H3
    have H3 := Hq
    clear Hq
    have Hq := Lib.hid (HA3.out.ext hE7)
    clear HA3
    have HA3 := Hq
    clear Hq
    have Hq := Lib.hid (HP3.out.ext hE7)
    clear HP3
    have HP3 := Hq
    clear Hq
    have Hq := Lib.hid (HB.out.ext hE7)
    clear HB
    have HB := Hq
    clear Hq
    have Hq := Lib.hid (HX.out.ext hE7)
    clear HX
    have HX := Hq
    clear Hq
    have Hq := Lib.hid (HE.out.trans hE7)
    clear HE
    have HE := Hq
    clear Hq
    have c30 := H3.out.cell 0
    have c31 := H3.out.cell 1
    have c50 := H5.out.cell 0
    have c51 := H5.out.cell 1
    simp at c30 c31 c50 c51
    clear hE6 hE7 hz7 k5 hA5 hP5 hA5' hP5'
    have ho' : o = (fitFt F n).order.length := by rw [Ho0.out]; simp [fitFt]
    have hq' : q = (fitFt F n).part.length := by rw [Hq0.out]; simp [fitFt]
    have hlo : Hid ((fitFt F n).order.length ≤ 64 ∧ (fitFt F n).part.length ≤ 64) := by
      have h1 := pFo_len F n
      have h2 := pFp_len F n
      exact ⟨by have := Ho0.out; omega, by have := Hq0.out; omega⟩
    have Ho := Lib.hid ho'
    have Hq := Lib.hid hq'
    clear Ho0 Hq0 ho' hq'
    go_wp2_with fail
    clear hV5 c30 c31 c50 c51
    rw [Ho.out, Hq.out]
    refine (sameFate_any A3 P3 A5 P5 c3 d3 c5 d5 (fitFt F n) (fitFt F n) V5 HA3.out HP3.out HA5.out HP5.out (by have := hlo.out; exact ⟨by omega, by omega, by omega, by omega⟩)).mono ?_
    rintro e w7 ⟨rfl, hE8⟩
    have Hq := Lib.hid (HB.out.ext hE8)
    clear HB
    have HB := Hq
    clear Hq
    have Hq := Lib.hid (HX.out.ext hE8)
    clear HX
    have HX := Hq
    clear Hq
    have Hq := Lib.hid (HE.out.trans hE8)
    clear HE
    have HE := Hq
    clear Hq
    clear hE8 H3 H5 HA3 HP3 HA5 HP5
    have hb := HB.out.cells
    have hd := HX.out.cells
    simp only [decide_true]
    go_wp2_with fail
    refine (sameFate_any A1 P1 FA FQ c1 d1 fc fd F F w7 HB.out.a HB.out.p HX.out.a HX.out.p (by have := Hl.out; omega)).mono ?_
    rintro e w9 ⟨rfl, hE10⟩
    have Hq := Lib.hid (HE.out.trans hE10)
    clear HE
    have HE := Hq
    clear Hq
    clear hE10 HB HX hb hd
    simp only [decide_true]
    go_wp2_with fail
    refine (awake_any _).mono ?_
    rintro e w4 ⟨rfl, hE6⟩
    have HE' := Lib.hid (HE.out.trans hE6)
    clear hE6
    go_wp2_with fail
    go_ret
    exact ⟨rfl, HE'.out⟩
  · rw [show pThinF F = false by simpa using ht]
    clear ht
    go_wp2_with fail
    refine (awake_any _).mono ?_
    rintro e w4 ⟨rfl, hE6⟩
    have HE' := Lib.hid (HE.out.trans hE6)
    clear hE6
    go_wp2_with fail
    go_ret
    exact ⟨rfl, HE'.out⟩
end Go.Proofs.Ytdlalmbnkcadfaa
