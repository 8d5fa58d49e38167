/- DevicePossible: the walk. -/
import Derived.Test.YtdlalmbnkcadfaaN22
import Derived.Test.YtdlalmbnkcadfaaN06
namespace Go.Proofs.Ytdlalmbnkcadfaa
open Go.RowKit

set_option maxRecDepth 100000 in
set_option maxHeartbeats 8000000 in
theorem possible_any (A P B : Option Addr) (c p d : Nat) (D : Dk) (b : BL) (w : World) (hA : By w A D.bytes) (hP : Ws w P D.pend) (hB : By w B b) (hcA : D.bytes.length ≤ c) (hbd : b.length ≤ d) :
    Calls Try.prog 6 #[.agg #[.slice A D.bytes.length c, .slice P D.pend.length p], .slice B b.length d] w fun e w' => e = .returned (.bool true) ∧ Ext w w' := by
  obtain ⟨W, hW, hE, hz, k0⟩ := box1 w #[.slice A D.bytes.length c, .slice P D.pend.length p] 25
  have HD : Hid (DBx W w.heap.size A P c p D) := ⟨k0, hA.ext hE, hP.ext hE⟩
  have HB := Lib.hid (hB.ext hE)
  have HE := Lib.hid hE
  have hc := HD.out.cells
  clear hE hP hA hB k0 hz
  go_enter Try.func6, Try.ntmps6
  go_wp2_with fail
  refine (thin_any A P c p D W HD.out.p).mono ?_
  rintro e w1 ⟨rfl, hE1⟩
  have Hq := Lib.hid (HD.out.ext hE1)
  clear HD
  have HD := Hq
  clear Hq
  have Hq := Lib.hid (HB.out.ext hE1)
  clear HB
  have HB := Hq
  clear Hq
  have Hq := Lib.hid (HE.out.trans hE1)
  clear HE
  have HE := Hq
  clear Hq
  clear hE1 hc hW
  by_cases ht : pThin D = true
  · have Hsm := Lib.hid (thin_small ht)
    rw [ht]
    clear ht
    by_cases hb : 2100 < (b.length : Int)
    · have t1 : decide (2100 < (b.length : Int)) = true := decide_eq_true hb
      clear hb
      go_wp2_with fail
      refine (awake_any _).mono ?_
      rintro e w4 ⟨rfl, hE6⟩
      have HE' := Lib.hid (HE.out.trans hE6)
      clear hE6
      go_wp2_with fail
      go_ret
      exact ⟨rfl, HE'.out⟩
    · have t1 : decide (2100 < (b.length : Int)) = false := decide_eq_false hb
      have hb2 : Hid (b.length ≤ 2100) := by show _ ≤ _; omega
      clear hb
      have hc := HD.out.cells
      go_wp2_with fail
      clear t1
      refine (copy_dv2 A P c p D w1 HD.out.a HD.out.p Hsm.out).mono ?_
      rintro e w2 ⟨A1, c1, P1, p1, rfl, hE2, hA1, hP1⟩
      clear hc
      have Hq := Lib.hid (HD.out.ext hE2)
      clear HD
      have HD := Hq
      clear Hq
      have Hq := Lib.hid (HB.out.ext hE2)
      clear HB
      have HB := Hq
      clear Hq
      have Hq := Lib.hid (HE.out.trans hE2)
      clear HE
      have HE := Hq
      clear Hq
      go_wp2_with (at_builtin; refine wpList_app0 rfl _ _ rfl _ d _ B b rfl rfl rfl (HB.out.ext ((Ext.refl _).alloc _)) (by have := hb2.out; omega) ?_; intro A3 c3 w3 h1 h2 h3 h4 h5)
      have hE3 : Ext w2 w3 := ((Ext.refl w2).alloc _).trans h1
      obtain ⟨V3, hV3, hE4, hz4, k4⟩ := box1 w3 #[.slice A1 D.bytes.length c1, .slice P1 D.pend.length p1] 25
      rw [hV3]; clear hV3
      have HG : Hid (DBx V3 w3.heap.size A1 P1 c1 p1 D) := ⟨k4, (hA1.ext hE3).ext hE4, (hP1.ws.ext hE3).ext hE4⟩
      have HC := Lib.hid (h3.ext hE4)
      have hc3 := Lib.hid h2
      have Hq := Lib.hid (HD.out.ext (hE3.trans hE4))
      clear HD
      have HD := Hq
      clear Hq
      have Hq := Lib.hid (HB.out.ext (hE3.trans hE4))
      clear HB
      have HB := Hq
      clear Hq
      have Hq := Lib.hid (HE.out.trans (hE3.trans hE4))
      clear HE
      have HE := Hq
      clear Hq
      clear hE2 hE3 hE4 hz4 k4 hA1 hP1 h1 h2 h3 h4 h5
      refine (possF_any A1 P1 A3 c1 p1 c3 D b V3 HG.out.a HG.out.p HC.out Hsm.out hc3.out (by have := hb2.out; omega)).mono ?_
      rintro e w4 ⟨rfl, hE5⟩
      have Hq := Lib.hid (HD.out.ext hE5)
      clear HD
      have HD := Hq
      clear Hq
      have Hq := Lib.hid (HB.out.ext hE5)
      clear HB
      have HB := Hq
      clear Hq
      have Hq := Lib.hid (HG.out.ext hE5)
      clear HG
      have HG := Hq
      clear Hq
      have Hq := Lib.hid (HC.out.ext hE5)
      clear HC
      have HC := Hq
      clear Hq
      have Hq := Lib.hid (HE.out.trans hE5)
      clear HE
      have HE := Hq
      clear Hq
      clear hE5
      have hc := HD.out.cells
      go_wp2_with fail
      refine (rPoss_any A P B c p d D b w4 HD.out.a HD.out.p HB.out Hsm.out hcA hbd (by have := hb2.out; omega)).mono ?_
      rintro e w5 ⟨rfl, hE6⟩
      clear hc
      have Hq := Lib.hid (HD.out.ext hE6)
      clear HD
      have HD := Hq
      clear Hq
      have Hq := Lib.hid (HB.out.ext hE6)
      clear HB
      have HB := Hq
      clear Hq
      have Hq := Lib.hid (HG.out.ext hE6)
      clear HG
      have HG := Hq
      clear Hq
      have Hq := Lib.hid (HC.out.ext hE6)
      clear HC
      have HC := Hq
      clear Hq
      have Hq := Lib.hid (HE.out.trans hE6)
      clear HE
      have HE := Hq
      clear Hq
      clear hE6
      have hc := HD.out.cells
      have hg := HG.out.cells
      go_wp2_with fail
      refine (same_any A1 P1 A P c1 p1 c p D D w5 HG.out.a HG.out.p HD.out.a HD.out.p (by have := Hsm.out.2.1; omega)).mono ?_
      rintro e w6 ⟨rfl, hE7⟩
      clear hc hg
      have Hq := Lib.hid (HB.out.ext hE7)
      clear HB
      have HB := Hq
      clear Hq
      have Hq := Lib.hid (HC.out.ext hE7)
      clear HC
      have HC := Hq
      clear Hq
      have Hq := Lib.hid (HE.out.trans hE7)
      clear HE
      have HE := Hq
      clear Hq
      clear hE7 HG HD
      simp only [decide_true]
      have cv1 := conv_by HC.out c3
      have cv2 := conv_by HB.out d
      have ts := strB_toList
      go_wp2_with fail
      refine (awake_any _).mono ?_
      rintro e w4 ⟨rfl, hE6⟩
      have HE' := Lib.hid (HE.out.trans hE6)
      clear hE6
      go_wp2_with fail
      go_ret
      exact ⟨rfl, HE'.out⟩
  · rw [show pThin D = false by simpa using ht]
    clear ht
    go_wp2_with fail
    refine (awake_any _).mono ?_
    rintro e w4 ⟨rfl, hE6⟩
    have HE' := Lib.hid (HE.out.trans hE6)
    clear hE6
    go_wp2_with fail
    go_ret
    exact ⟨rfl, HE'.out⟩
end Go.Proofs.Ytdlalmbnkcadfaa
