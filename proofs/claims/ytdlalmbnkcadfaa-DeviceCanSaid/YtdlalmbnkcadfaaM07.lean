/- device: open, the walk. -/
import Derived.Test.YtdlalmbnkcadfaaM06
namespace Go.Proofs.Ytdlalmbnkcadfaa
open Go.RowKit

def zeroDk : Value := .agg #[.slice none 0 0, .slice none 0 0]
/-- What open leaves. -/
def OpenPost (w : World) (D : Dk) (e : Ending) (w' : World) : Prop :=
  ∃ v, e = .returned (.tuple #[v, .int .i64 (pCheck D)]) ∧ Ext w w' ∧ (pCheck D = 0 → OD w' w.heap.size v D) ∧ (pCheck D ≠ 0 → v = zeroDk)
def Small (D : Dk) : Prop := D.bytes.length ≤ 100000 ∧ D.pend.length ≤ 100000 ∧ ∀ x ∈ D.pend, x.bs.length ≤ 100000

set_option maxRecDepth 100000 in
set_option maxHeartbeats 1000000 in
theorem open_bad1 (A P : Option Addr) (c p : Nat) (D : Dk) (w : World) (hA : By w A D.bytes) (hsm : Small D) (hbad : D.bytes.length % 32 ≠ 0) :
    Calls Try.prog 57 #[.agg #[.slice A D.bytes.length c, .slice P D.pend.length p]] w (OpenPost w D) := by
  have hck : pCheck D = 4 := by unfold pCheck; rw [if_pos (.inl hbad)]
  have Hck := Lib.hid hck; clear hck
  have hb1 : (((D.bytes.length : Int) % 32) == 0) = false := by rw [beq_eq_false_iff_ne]; omega
  have hb2 : (((D.bytes.length : Int) % 32) != 0) = true := by rw [bne_iff_ne]; omega
  have hb3 := hsm.1
  go_enter Try.func57, Try.ntmps57
  go_wp2_with fail
  obtain ⟨W, hW, hE, hz, k0, k1⟩ := box2 w #[.slice A D.bytes.length c, .slice P D.pend.length p] #[.slice none 0 0, .slice none 0 0] 25 84
  rw [hW]; clear hW
  refine (clone_any A c D.bytes W (hA.ext hE) hsm.1).mono ?_
  rintro e w1 ⟨A', c', rfl, h1, h2, h3, h4, h5⟩
  have c0 := (k0.ext h3).cell 0
  have c1 := (k0.ext h3).cell 1
  have r0 := (k1.ext h3).cell 0
  have r1 := (k1.ext h3).cell 1
  have f0 := (k1.ext h3).frozen 0
  have f1 := (k1.ext h3).frozen 1
  have hq0 : w.heap.size < w1.heap.size := by have := h3.size; have := hz.out; omega
  have hq1 : w.heap.size + 1 < w1.heap.size := by have := h3.size; have := hz.out; omega
  simp at c0 c1 r0 r1
  go_wp2_with fail
  have kk := (((k1.ext h3).set 0 (.slice none 0 0)).set 1 (.slice none 0 0)).alloc (.cells #[.slice A' D.bytes.length c', .slice none 0 0] 84)
  have q0 := kk.cell 0
  have q1 := kk.cell 1
  simp only [Array.setIfInBounds_def] at q0 q1
  refine bodyPost_ret (v := .tuple #[zeroDk, .int .i64 4]) (by simp [results, Try.results57, go_sem, q0, q1, zeroDk]) rfl ⟨_, by rw [Hck.out], ?_, fun h => ?_, fun _ => rfl⟩
  · exact Ext.alloc (((hE.trans h3).setCell (Nat.le_succ _) _).setCell (Nat.le_succ _) _) _
  · rw [Hck.out] at h; cases h

set_option maxRecDepth 100000 in
set_option maxHeartbeats 1000000 in
theorem open_bad2 (A P : Option Addr) (c p : Nat) (D : Dk) (w : World) (hA : By w A D.bytes) (hsm : Small D) (h32 : D.bytes.length % 32 = 0) (hbad : D.bytes.length / 32 < 1 ∨ 256 < D.bytes.length / 32) :
    Calls Try.prog 57 #[.agg #[.slice A D.bytes.length c, .slice P D.pend.length p]] w (OpenPost w D) := by
  have hck : pCheck D = 4 := by unfold pCheck; rw [if_pos (.inr hbad)]
  have Hck := Lib.hid hck; clear hck
  have hb1 : (((D.bytes.length : Int) % 32) == 0) = true := by rw [beq_iff_eq]; omega
  have hb2 : (((D.bytes.length : Int) % 32) != 0) = false := by rw [bne_eq_false_iff_eq]; omega
  have hb3 := hsm.1
  have hnb : (!([((D.bytes.length / 32 : Nat) : Int)].any (outB 1 256))) = false := by
    simp [outB]; omega
  have Hnb := Lib.hid hnb; clear hnb h32
  go_enter Try.func57, Try.ntmps57
  go_wp2_with fail
  obtain ⟨W, hW, hE, hz, k0, k1⟩ := box2 w #[.slice A D.bytes.length c, .slice P D.pend.length p] #[.slice none 0 0, .slice none 0 0] 25 84
  rw [hW]; clear hW
  refine (clone_any A c D.bytes W (hA.ext hE) hsm.1).mono ?_
  rintro e w1 ⟨A', c', rfl, h1, h2, h3, h4, h5⟩
  have c0 := (k0.ext h3).cell 0
  have c1 := (k0.ext h3).cell 1
  have r0 := (k1.ext h3).cell 0
  have r1 := (k1.ext h3).cell 1
  have f0 := (k1.ext h3).frozen 0
  have f1 := (k1.ext h3).frozen 1
  have hq0 : w.heap.size < w1.heap.size := by have := h3.size; have := hz.out; omega
  have hq1 : w.heap.size + 1 < w1.heap.size := by have := h3.size; have := hz.out; omega
  simp at c0 c1 r0 r1
  go_wp2_with fail
  have k2 := Bk.new w1 #[.slice A' D.bytes.length c', .slice none 0 0] 84
  refine (blocks_any A' none D.bytes.length c' 0 0 _ (by omega)).mono ?_
  rintro e w2 ⟨rfl, hb2⟩
  go_wp2_with fail
  refine (within_b false _ _ [(((D.bytes.length / 32 : Nat) : Int))] _ _ _ (by simp) ?_ ?_).mono ?_
  · exact Is.one (new_cell0 _ _ _ _)
  · exact Hnb.out
  rintro e w3 ⟨rfl, hb3⟩
  have hE3 : Ext w1 w3 := (((Ext.refl w1).alloc _).trans hb2).trans (((Ext.refl w2).alloc _).trans hb3)
  have j0 := (k0.ext h3).ext hE3
  have j1 := (k1.ext h3).ext hE3
  have j2 : Bk w3 w1.heap.size #[.slice A' D.bytes.length c', .slice none 0 0] 84 := k2.ext (hb2.trans (((Ext.refl w2).alloc _).trans hb3))
  have hsz3 : w1.heap.size < w3.heap.size := j2.lt
  clear hb2 hb3 c0 c1 r0 r1 f0 f1
  have c0 := j0.cell 0
  have c1 := j0.cell 1
  have r0 := j1.cell 0
  have r1 := j1.cell 1
  have o0 := j2.cell 0
  have o1 := j2.cell 1
  have f0 := j1.frozen 0
  have f1 := j1.frozen 1
  simp at c0 c1 r0 r1 o0 o1
  go_wp2_with fail
  have kk := ((j1.set 0 (.slice none 0 0)).set 1 (.slice none 0 0))
  have q0 := kk.cell 0
  have q1 := kk.cell 1
  simp only [Array.setIfInBounds_def] at q0 q1
  refine bodyPost_ret (v := .tuple #[zeroDk, .int .i64 4]) (by simp [results, Try.results57, go_sem, q0, q1, zeroDk]) rfl ⟨_, by rw [Hck.out], ?_, fun h => ?_, fun _ => rfl⟩
  · exact (((hE.trans h3).trans hE3).setCell (Nat.le_succ _) _).setCell (Nat.le_succ _) _
  · rw [Hck.out] at h; cases h

set_option maxRecDepth 100000 in
set_option maxHeartbeats 1000000 in
theorem open_bad3 (A P : Option Addr) (c p : Nat) (D : Dk) (w : World) (hA : By w A D.bytes) (hsm : Small D) (h32 : D.bytes.length % 32 = 0) (hl1 : 1 ≤ D.bytes.length / 32) (hl2 : D.bytes.length / 32 ≤ 256) (hbad : 64 < D.pend.length) :
    Calls Try.prog 57 #[.agg #[.slice A D.bytes.length c, .slice P D.pend.length p]] w (OpenPost w D) := by
  have hck : pCheck D = 5 := by unfold pCheck; rw [if_neg (by omega), if_pos hbad]
  have Hck := Lib.hid hck; clear hck
  have hpl : (64 : Int) < (D.pend.length : Int) := by omega
  have hb1 : (((D.bytes.length : Int) % 32) == 0) = true := by rw [beq_iff_eq]; omega
  have hb2 : (((D.bytes.length : Int) % 32) != 0) = false := by rw [bne_eq_false_iff_eq]; omega
  have hb3 := hsm.1
  have hnb : (!([((D.bytes.length / 32 : Nat) : Int)].any (outB 1 256))) = true := by
    simp [outB]; omega
  have Hnb := Lib.hid hnb; clear hnb h32
  go_enter Try.func57, Try.ntmps57
  go_wp2_with fail
  obtain ⟨W, hW, hE, hz, k0, k1⟩ := box2 w #[.slice A D.bytes.length c, .slice P D.pend.length p] #[.slice none 0 0, .slice none 0 0] 25 84
  rw [hW]; clear hW
  refine (clone_any A c D.bytes W (hA.ext hE) hsm.1).mono ?_
  rintro e w1 ⟨A', c', rfl, h1, h2, h3, h4, h5⟩
  have c0 := (k0.ext h3).cell 0
  have c1 := (k0.ext h3).cell 1
  have r0 := (k1.ext h3).cell 0
  have r1 := (k1.ext h3).cell 1
  have f0 := (k1.ext h3).frozen 0
  have f1 := (k1.ext h3).frozen 1
  have hq0 : w.heap.size < w1.heap.size := by have := h3.size; have := hz.out; omega
  have hq1 : w.heap.size + 1 < w1.heap.size := by have := h3.size; have := hz.out; omega
  simp at c0 c1 r0 r1
  go_wp2_with fail
  have k2 := Bk.new w1 #[.slice A' D.bytes.length c', .slice none 0 0] 84
  refine (blocks_any A' none D.bytes.length c' 0 0 _ (by omega)).mono ?_
  rintro e w2 ⟨rfl, hb2⟩
  go_wp2_with fail
  refine (within_b true _ _ [(((D.bytes.length / 32 : Nat) : Int))] _ _ _ (by simp) ?_ ?_).mono ?_
  · exact Is.one (new_cell0 _ _ _ _)
  · exact Hnb.out
  rintro e w3 ⟨rfl, hb3⟩
  have hE3 : Ext w1 w3 := (((Ext.refl w1).alloc _).trans hb2).trans (((Ext.refl w2).alloc _).trans hb3)
  have j0 := (k0.ext h3).ext hE3
  have j1 := (k1.ext h3).ext hE3
  have j2 : Bk w3 w1.heap.size #[.slice A' D.bytes.length c', .slice none 0 0] 84 := k2.ext (hb2.trans (((Ext.refl w2).alloc _).trans hb3))
  have hsz3 : w1.heap.size < w3.heap.size := j2.lt
  clear hb2 hb3 c0 c1 r0 r1 f0 f1
  have c0 := j0.cell 0
  have c1 := j0.cell 1
  have r0 := j1.cell 0
  have r1 := j1.cell 1
  have o0 := j2.cell 0
  have o1 := j2.cell 1
  have f0 := j1.frozen 0
  have f1 := j1.frozen 1
  simp at c0 c1 r0 r1 o0 o1
  go_wp2_with fail
  have kk := ((j1.set 0 (.slice none 0 0)).set 1 (.slice none 0 0))
  have q0 := kk.cell 0
  have q1 := kk.cell 1
  simp only [Array.setIfInBounds_def] at q0 q1
  refine bodyPost_ret (v := .tuple #[zeroDk, .int .i64 5]) (by simp [results, Try.results57, go_sem, q0, q1, zeroDk]) rfl ⟨_, by rw [Hck.out], ?_, fun h => ?_, fun _ => rfl⟩
  · exact (((hE.trans h3).trans hE3).setCell (Nat.le_succ _) _).setCell (Nat.le_succ _) _
  · rw [Hck.out] at h; cases h

set_option maxRecDepth 100000 in
set_option maxHeartbeats 1000000 in
theorem open_bad4 (A P : Option Addr) (c p : Nat) (D : Dk) (w : World) (hA : By w A D.bytes) (hP : Ws w P D.pend) (hsm : Small D) (h32 : D.bytes.length % 32 = 0) (hl1 : 1 ≤ D.bytes.length / 32) (hl2 : D.bytes.length / 32 ≤ 256) (hpl : D.pend.length ≤ 64)
    (hbad : D.pend.all (okWr (D.bytes.length / 32)) = false) :
    Calls Try.prog 57 #[.agg #[.slice A D.bytes.length c, .slice P D.pend.length p]] w (OpenPost w D) := by
  have hck : pCheck D = 2 := by unfold pCheck; rw [if_neg (by omega), if_neg (by omega), if_neg (by rw [hbad]; simp)]
  have Hck := Lib.hid hck; clear hck
  have Hbad := Lib.hid hbad; clear hbad
  have hpl2 : (D.pend.length : Int) ≤ 64 := by omega
  have hb1 : (((D.bytes.length : Int) % 32) == 0) = true := by rw [beq_iff_eq]; omega
  have hb2 : (((D.bytes.length : Int) % 32) != 0) = false := by rw [bne_eq_false_iff_eq]; omega
  have hb3 := hsm.1
  have hnb : (!([((D.bytes.length / 32 : Nat) : Int)].any (outB 1 256))) = true := by
    simp [outB]; omega
  have Hnb := Lib.hid hnb; clear hnb h32
  go_enter Try.func57, Try.ntmps57
  go_wp2_with fail
  obtain ⟨W, hW, hE, hz, k0, k1⟩ := box2 w #[.slice A D.bytes.length c, .slice P D.pend.length p] #[.slice none 0 0, .slice none 0 0] 25 84
  rw [hW]; clear hW
  refine (clone_any A c D.bytes W (hA.ext hE) hsm.1).mono ?_
  rintro e w1 ⟨A', c', rfl, h1, h2, h3, h4, h5⟩
  have c0 := (k0.ext h3).cell 0
  have c1 := (k0.ext h3).cell 1
  have r0 := (k1.ext h3).cell 0
  have r1 := (k1.ext h3).cell 1
  have f0 := (k1.ext h3).frozen 0
  have f1 := (k1.ext h3).frozen 1
  have hq0 : w.heap.size < w1.heap.size := by have := h3.size; have := hz.out; omega
  have hq1 : w.heap.size + 1 < w1.heap.size := by have := h3.size; have := hz.out; omega
  simp at c0 c1 r0 r1
  go_wp2_with fail
  have k2 := Bk.new w1 #[.slice A' D.bytes.length c', .slice none 0 0] 84
  refine (blocks_any A' none D.bytes.length c' 0 0 _ (by omega)).mono ?_
  rintro e w2 ⟨rfl, hb2⟩
  go_wp2_with fail
  refine (within_b true _ _ [(((D.bytes.length / 32 : Nat) : Int))] _ _ _ (by simp) ?_ ?_).mono ?_
  · exact Is.one (new_cell0 _ _ _ _)
  · exact Hnb.out
  rintro e w3 ⟨rfl, hb3⟩
  have hE3 : Ext w1 w3 := (((Ext.refl w1).alloc _).trans hb2).trans (((Ext.refl w2).alloc _).trans hb3)
  have j0 := (k0.ext h3).ext hE3
  have j1 := (k1.ext h3).ext hE3
  have j2 : Bk w3 w1.heap.size #[.slice A' D.bytes.length c', .slice none 0 0] 84 := k2.ext (hb2.trans (((Ext.refl w2).alloc _).trans hb3))
  have hsz3 : w1.heap.size < w3.heap.size := j2.lt
  clear hb2 hb3 c0 c1 r0 r1 f0 f1
  have c0 := j0.cell 0
  have c1 := j0.cell 1
  have r0 := j1.cell 0
  have r1 := j1.cell 1
  have o0 := j2.cell 0
  have o1 := j2.cell 1
  have f0 := j1.frozen 0
  have f1 := j1.frozen 1
  simp at c0 c1 r0 r1 o0 o1
  go_wp2_with fail
  refine (all_any A' none P D.bytes.length c' 0 0 p D.pend _ (by omega) (by omega) (fun x hx => by have := hsm.2.2 x hx; omega) (hP.ext ((hE.trans h3).trans hE3))).mono ?_
  rintro e w4 ⟨rfl, hb4⟩
  have i0 := j0.ext hb4
  have i1 := j1.ext hb4
  have i2 := j2.ext hb4
  have hE4 := hE3.trans hb4
  have hsz4 : w1.heap.size < w4.heap.size := i2.lt
  clear c0 c1 r0 r1 o0 o1 f0 f1
  have c0 := i0.cell 0
  have c1 := i0.cell 1
  have r0 := i1.cell 0
  have r1 := i1.cell 1
  have o0 := i2.cell 0
  have o1 := i2.cell 1
  have f0 := i1.frozen 0
  have f1 := i1.frozen 1
  simp at c0 c1 r0 r1 o0 o1
  rw [Hbad.out]
  clear hE3 j0 j1 j2 hb4
  go_wp2_with fail
  have hE3 := hE4
  have j1 := i1
  have kk := ((j1.set 0 (.slice none 0 0)).set 1 (.slice none 0 0))
  have q0 := kk.cell 0
  have q1 := kk.cell 1
  simp only [Array.setIfInBounds_def] at q0 q1
  refine bodyPost_ret (v := .tuple #[zeroDk, .int .i64 2]) (by simp [results, Try.results57, go_sem, q0, q1, zeroDk]) rfl ⟨_, by rw [Hck.out], ?_, fun h => ?_, fun _ => rfl⟩
  · exact (((hE.trans h3).trans hE3).setCell (Nat.le_succ _) _).setCell (Nat.le_succ _) _
  · rw [Hck.out] at h; cases h
end Go.Proofs.Ytdlalmbnkcadfaa
/- device: open, the loop. -/
namespace Go.Proofs.Ytdlalmbnkcadfaa
open Go.RowKit

theorem info_bw : (Try.prog.info? 49).map (fun i => (i.zero, i.size, i.bytes)) = some (some (.agg #[.int .i64 0, .slice none 0 0]), 2, 32) := by kernel_rfl

def OpenInv (w wr : World) (xo xr xd g c' n : Nat) (dv : Array Value) (bytes : BL) (pend : List Wr) (k : Nat) : Prop :=
  Ext w wr ∧ OB wr g c' bytes ∧ Bk wr xr #[.slice none 0 0, .slice none 0 0] 84 ∧ Bk wr xd dv 25 ∧
  ∃ Pv qs, Bk wr xo #[.slice (some ⟨g, 0, none⟩) n c', Pv] 84 ∧ PO wr w.heap.size [g, xo, xr, xd] Pv qs ∧ qs.map Prod.fst = pend.take k

set_option maxRecDepth 100000 in
set_option maxHeartbeats 2000000 in
theorem open_good (A P : Option Addr) (c p : Nat) (D : Dk) (w : World) (hA : By w A D.bytes) (hP : Ws w P D.pend) (hsm : Small D) (h32 : D.bytes.length % 32 = 0) (hl1 : 1 ≤ D.bytes.length / 32) (hl2 : D.bytes.length / 32 ≤ 256) (hpl : D.pend.length ≤ 64)
    (hall : D.pend.all (okWr (D.bytes.length / 32)) = true) :
    Calls Try.prog 57 #[.agg #[.slice A D.bytes.length c, .slice P D.pend.length p]] w (OpenPost w D) := by
  have hck : pCheck D = 0 := by unfold pCheck; rw [if_neg (by omega), if_neg (by omega), if_pos hall]
  have Hck := Lib.hid hck; clear hck
  have Hall := Lib.hid hall; clear hall
  have hpl2 : (D.pend.length : Int) ≤ 64 := by omega
  have hbne : D.bytes ≠ [] := fun h => by rw [h] at hl1; simp at hl1
  have hb1 : (((D.bytes.length : Int) % 32) == 0) = true := by rw [beq_iff_eq]; omega
  have hb2 : (((D.bytes.length : Int) % 32) != 0) = false := by rw [bne_eq_false_iff_eq]; omega
  have hb3 := hsm.1
  have hnb : (!([((D.bytes.length / 32 : Nat) : Int)].any (outB 1 256))) = true := by
    simp [outB]; omega
  have Hnb := Lib.hid hnb; clear hnb h32
  go_enter Try.func57, Try.ntmps57
  go_wp2_with fail
  obtain ⟨W, hW, hE, hz, k0, k1⟩ := box2 w #[.slice A D.bytes.length c, .slice P D.pend.length p] #[.slice none 0 0, .slice none 0 0] 25 84
  rw [hW]; clear hW
  refine (clone_any A c D.bytes W (hA.ext hE) hsm.1).mono ?_
  rintro e w1 ⟨A', c', rfl, h1, h2, h3, h4, h5⟩
  have c0 := (k0.ext h3).cell 0
  have c1 := (k0.ext h3).cell 1
  have r0 := (k1.ext h3).cell 0
  have r1 := (k1.ext h3).cell 1
  have f0 := (k1.ext h3).frozen 0
  have f1 := (k1.ext h3).frozen 1
  have hq0 : w.heap.size < w1.heap.size := by have := h3.size; have := hz.out; omega
  have hq1 : w.heap.size + 1 < w1.heap.size := by have := h3.size; have := hz.out; omega
  simp at c0 c1 r0 r1
  obtain ⟨g, rfl, hOB⟩ := h5 hbne
  clear h5 h2
  go_wp2_with fail
  have k2 := Bk.new w1 #[.slice (some ⟨g, 0, none⟩) D.bytes.length c', .slice none 0 0] 84
  refine (blocks_any (some ⟨g, 0, none⟩) none D.bytes.length c' 0 0 _ (by omega)).mono ?_
  rintro e w2 ⟨rfl, hb2⟩
  go_wp2_with fail
  refine (within_b true _ _ [(((D.bytes.length / 32 : Nat) : Int))] _ _ _ (by simp) ?_ ?_).mono ?_
  · exact Is.one (new_cell0 _ _ _ _)
  · exact Hnb.out
  rintro e w3 ⟨rfl, hb3⟩
  have hE3 : Ext w1 w3 := (((Ext.refl w1).alloc _).trans hb2).trans (((Ext.refl w2).alloc _).trans hb3)
  have j0 := (k0.ext h3).ext hE3
  have j1 := (k1.ext h3).ext hE3
  have j2 : Bk w3 w1.heap.size #[.slice (some ⟨g, 0, none⟩) D.bytes.length c', .slice none 0 0] 84 := k2.ext (hb2.trans (((Ext.refl w2).alloc _).trans hb3))
  have hsz3 : w1.heap.size < w3.heap.size := j2.lt
  clear hb2 hb3 c0 c1 r0 r1 f0 f1
  have c0 := j0.cell 0
  have c1 := j0.cell 1
  have r0 := j1.cell 0
  have r1 := j1.cell 1
  have o0 := j2.cell 0
  have o1 := j2.cell 1
  have f0 := j1.frozen 0
  have f1 := j1.frozen 1
  simp at c0 c1 r0 r1 o0 o1
  go_wp2_with fail
  refine (all_any (some ⟨g, 0, none⟩) none P D.bytes.length c' 0 0 p D.pend _ (by omega) (by omega) (fun x hx => by have := hsm.2.2 x hx; omega) (hP.ext ((hE.trans h3).trans hE3))).mono ?_
  rintro e w4 ⟨rfl, hb4⟩
  have i0 := j0.ext hb4
  have i1 := j1.ext hb4
  have i2 := j2.ext hb4
  have hE4 := hE3.trans hb4
  have hsz4 : w1.heap.size < w4.heap.size := i2.lt
  clear c0 c1 r0 r1 o0 o1 f0 f1
  have c0 := i0.cell 0
  have c1 := i0.cell 1
  have r0 := i1.cell 0
  have r1 := i1.cell 1
  have o0 := i2.cell 0
  have o1 := i2.cell 1
  have f0 := i1.frozen 0
  have f1 := i1.frozen 1
  simp at c0 c1 r0 r1 o0 o1
  rw [Hall.out]
  clear hE3 j0 j1 j2 hb4
  have hOB4 := (hOB.ext hE4)
  have HE := Lib.hid ((hE.trans h3).trans hE4)
  obtain ⟨xo, hxo⟩ : ∃ xo, xo = w1.heap.size := ⟨_, rfl⟩
  rw [← hxo]
  have m2 : Bk w4 xo #[.slice (some ⟨g, 0, none⟩) D.bytes.length c', .slice none 0 0] 84 := by rw [hxo]; exact i2
  have hx1 : w.heap.size + 1 < xo := by rw [hxo]; exact hq1
  have hx2 : xo < w4.heap.size := m2.lt
  have hg1 : g < xo := by rw [hxo]; exact hOB.lt
  have hg0 : w.heap.size + 2 ≤ g := by have := (h4 _ rfl).1; have := hz.out; simp at *; omega
  have o0' := m2.cell 0
  have o1' := m2.cell 1
  simp at o0' o1'
  clear i2 hsz4 hq0 hq1 o0 o1 h4 hsz3 hOB k0 k1 k2 h3 hE4 hxo h1
  go_wp2_with fail
  go_loopw [41] (fun i wr => ∃ k : Nat, k ≤ D.pend.length ∧ i = .int .i64 k ∧ OpenInv w wr xo (w.heap.size + 1) w.heap.size g c' D.bytes.length #[.slice A D.bytes.length c, .slice P D.pend.length p] D.bytes D.pend k) (fun i _ => D.pend.length - (intOf i).toNat)
  case atStart => exact ⟨0, Nat.zero_le _, rfl, HE.out, hOB4, i1, i0, _, [], m2, PO.nil _ _ _, rfl⟩
  case round =>
    obtain ⟨k, hk, rfl, hEr, hOBr, j1, j0, Pv, qs, jo, hPO, hqs⟩ := hrel
    clear c0 c1 r0 r1 f0 f1 o0' o1' i0 i1 m2 hOB4
    have Hqs := Lib.hid hqs
    have HEr := Lib.hid hEr
    by_cases hlt : k < D.pend.length
    · obtain ⟨b, o, Bx, d, rfl, e1, e2, e3, e4⟩ := hP k D.pend[k] (List.getElem?_eq_getElem hlt)
      have g1 := cellExt hEr e1
      have g2 := cellExt hEr e2
      have Hby := Lib.hid (e4.ext hEr)
      clear e1 e2 e4 hqs hEr
      have hxr : xo < wr.heap.size := jo.lt
      go_wp2_with fail
      obtain ⟨V, hV, hEV, hzV, kx⟩ := box1 wr #[.int .i64 D.pend[k].blk, .slice Bx D.pend[k].bs.length d] 49
      rw [hV]; clear hV
      have jo' := jo.ext hEV
      have hS := Lib.hid (fun w' (h : Ext V w') => (⟨h, (jo'.ext h).cell 0, (jo'.ext h).cell 1, (kx.ext h).cell 0, (kx.ext h).cell 1⟩ : Ext V w' ∧ w'.cell? ⟨xo, 0, none⟩ = some (.slice (some ⟨g, 0, none⟩) D.bytes.length c') ∧ w'.cell? ⟨xo, 1, none⟩ = some Pv ∧ w'.cell? ⟨wr.heap.size, 0, none⟩ = some (.int .i64 D.pend[k].blk) ∧ w'.cell? ⟨wr.heap.size, 1, none⟩ = some (.slice Bx D.pend[k].bs.length d)))
      have hsk := hsm.2.2 D.pend[k] (List.getElem_mem hlt)
      clear g1 g2
      refine wp_region_rel 6 (by kernel_rfl) (by kernel_rfl) (Ext.refl V).drew ?_
      repeat (apply relW_fix
              · intro vs w' hw hf
                have hc := hS.out w' hw
                unfold okAt
                go_simp
                first | exact ⟨rfl, Ext.refl _⟩ | exact rfl
              · intro vs; go_simp; rfl)
      (apply relW_any (SV.wr V.heap.size D.pend[k])
       · intro vs w' hw hf
         have hc := hS.out w' hw
         skip
         unfold okAt
         go_simp
         refine ⟨Ext.refl _, ?_⟩; go_at_call 83; refine (own_any Bx d D.pend[k] _ (Hby.out.ext (hEV.trans hw)) hsk).mono ?_; rintro e w5 ⟨v, rfl, ⟨A5, c5, h1, h2, h3, h4⟩, h5⟩; exact ⟨_, rfl, ⟨A5, c5, h1, h2, h3, fun a ha => (by have := hw.size; have := h4 a ha; exact ⟨by omega, this.2⟩)⟩, h5⟩
       · intro vs; go_simp; rfl)
      (apply relW_any (SV.box V.heap.size D.pend[k])
       · intro vs w' hw hf
         have hc := hS.out w' hw
         obtain ⟨A5, c5, e5, q1, q2, q3⟩ := hf.out.1 (by kernel_rfl)
         unfold okAt
         go_simp
         exact ⟨⟨_, A5, c5, rfl, Bk.new _ _ _, q1, q2.ext ((Ext.refl _).alloc _), fun a ha => (by have := q3 a ha; exact ⟨this.1, by simp; omega⟩)⟩, (Ext.refl _).alloc _⟩
       · intro vs; go_simp; rfl)
      refine relW_nil fun vs w6 hw hf => ?_
      obtain ⟨⟨b5, A5, c5, e5, kb, l1, l2, l3⟩, _⟩ := hf
      have hE6 : Ext wr w6 := hEV.trans hw
      have jo6 := jo.ext hE6
      have hPO6 := hPO.ext hE6
      obtain ⟨i0, hi0, hz0, hz1, hz2⟩ := info_parts info_bw
      have hql : qs.length = k := by have := congrArg List.length Hqs.out; simp at this; omega
      have Hql := Lib.hid hql
      have Hkb := Lib.hid kb
      have hB6 : w.heap.size ≤ w6.heap.size := by have := HEr.out.size; have := hE6.size; omega
      have htape : V.heap.size = wr.heap.size + 1 := hzV.out
      have Htape := Lib.hid htape
      clear htape hql kb
      refine wpList_append_lies (P := Try.prog) w6 rfl (.tmp 47) (.tmp 50) 23 rfl w.heap.size 49 i0 _ 2 32 Try.underlying23 hi0 hz0 hz1 hz2 (by rfl) (by omega) Pv qs.length (rcells qs) (by rfl) hPO6.own ⟨b5, 0, none⟩ 1 1 [.int .i64 D.pend[k].blk, .slice A5 D.pend[k].bs.length c5] ?_ (by rfl) ?_ ?_ (by omega) ?_ ?_ hB6 w6.heap.size rfl ?_
      · exact e5
      · exact World.news_of_block (cs := #[.int .i64 D.pend[k].blk, .slice A5 D.pend[k].bs.length c5]) Hkb.out
      · intro u hu; simp at hu; rcases hu with rfl | rfl <;> rfl
      · have := Hql.out; simp only [maxLen]; omega
      · have := Hql.out; omega
      · intro g' cap w7 hown hgrow hat hlt7
        have hoff : ∀ a, A5 = some a → w.heap.size ≤ a.block ∧ a.block < w6.heap.size ∧ (∀ x ∈ [g, xo, w.heap.size + 1, w.heap.size], a.block ≠ x) ∧ some a.block ≠ Pv.ownBlock := by
          intro a ha
          have h1 := l3 a ha
          have h2 := HEr.out.size
          have h3 := Htape.out
          have h4 : g < wr.heap.size := by omega
          refine ⟨by omega, h1.2, fun x hx => ?_, fun h => ?_⟩
          · simp only [List.mem_cons, List.not_mem_nil, or_false] at hx
            omega
          · have := (hPO.own.lt a.block h.symm).2
            omega
        have hPO7 := Lib.hid (hPO6.push (q := (D.pend[k], A5, c5)) hown hgrow hat l1 l2 hoff)
        have no1 : (84 : Nat) ≠ 49 := by decide
        have no2 : (5 : Nat) ≠ 49 := by decide
        have no3 : (25 : Nat) ≠ 49 := by decide
        have jo7 := jo6.grown hgrow (jo6.not_own hPO6.own no1)
        have j17 := Lib.hid ((j1.ext hE6).grown hgrow ((j1.ext hE6).not_own hPO6.own no1))
        have j07 := Lib.hid ((j0.ext hE6).grown hgrow ((j0.ext hE6).not_own hPO6.own no3))
        have hOB7 : Hid (OB w7 g c' D.bytes) := by
          obtain ⟨more, hm, hb⟩ := hOBr.ext hE6
          exact ⟨more, hm, hb.grown hgrow (hb.not_own hPO6.own no2)⟩
        have hE7 : Hid (Ext w w7) := Below.grown (HEr.out.trans hE6) hgrow hB6 (fun x hx => (hPO6.own.lt x hx).1)
        have o0 := jo7.cell 0
        have o1 := jo7.cell 1
        have f1 := jo7.frozen 1
        simp at o0 o1
        have Hjo := Lib.hid jo7
        clear jo7 hown hgrow hat hoff l3 l2 jo6 hPO6 kx jo jo' hS j1 j0 hPO hE6 hw hOBr
        go_wp2
        go_roundw
        case rel =>
          refine ⟨k + 1, by omega, by go_num, Below.setCell hE7.out (by show _ ≤ xo; omega) _, hOB7.out.far (by show g ≠ xo; omega) _, j17.out.far (by show _ ≠ xo; omega) _, j07.out.far (by show _ ≠ xo; omega) _, _, qs ++ [(D.pend[k], A5, c5)], Hjo.out.set 1 _, ?_, ?_⟩
          · exact hPO7.out.far (by simp) (Hjo.out.not_own hPO7.out.own no1) _
          · rw [List.map_append, Hqs.out]
            simp only [List.map_cons, List.map_nil]
            exact (List.take_succ_eq_append_getElem hlt).symm
        case measure => simp [intOf]; omega
    · obtain rfl : k = D.pend.length := by omega
      obtain ⟨PA, pc, rfl, hpc⟩ := hPO.form
      have o0 := jo.cell 0
      have o1 := jo.cell 1
      have r0 := j1.cell 0
      have r1 := j1.cell 1
      have f0 := j1.frozen 0
      have f1 := j1.frozen 1
      simp at o0 o1 r0 r1
      have Hjo := Lib.hid jo
      have Hj1 := Lib.hid j1
      have hxr : xo < wr.heap.size := jo.lt
      clear jo j1 j0 hqs hEr
      go_wp2
      have kk := ((Hj1.out.set 0 (.slice (some ⟨g, 0, none⟩) D.bytes.length c')).set 1 (.slice PA qs.length pc))
      have q0 := kk.cell 0
      have q1 := kk.cell 1
      simp only [Array.setIfInBounds_def] at q0 q1
      refine bodyPost_ret (v := .tuple #[.agg #[.slice (some ⟨g, 0, none⟩) D.bytes.length c', .slice PA qs.length pc], .int .i64 0]) (by simp [results, Try.results57, go_sem, q0, q1]) rfl ⟨_, by rw [Hck.out], ?_, fun _ => ?_, fun h => absurd Hck.out h⟩
      · exact (HEr.out.setCell (Nat.le_succ _) _).setCell (Nat.le_succ _) _
      · have ho1 := Hj1.out.not_own hPO.own (by decide)
        refine ⟨g, c', _, qs, rfl, by omega, by obtain ⟨m, h, _⟩ := hOBr; omega, (hOBr.far (by show g ≠ w.heap.size + 1; omega) _).far (by show g ≠ w.heap.size + 1; omega) _, ?_, ?_⟩
        · exact ((hPO.far (p := ⟨w.heap.size + 1, 0, none⟩) (by simp) ho1 _).far (p := ⟨w.heap.size + 1, 1, none⟩) (by simp) ho1 _).mono (by simp)
        · rw [Hqs.out]; simp
end Go.Proofs.Ytdlalmbnkcadfaa
/- device: open for every device; Check; New. -/
namespace Go.Proofs.Ytdlalmbnkcadfaa
open Go.RowKit

theorem open_any (A P : Option Addr) (c p : Nat) (D : Dk) (w : World) (hA : By w A D.bytes) (hP : Ws w P D.pend) (hsm : Small D) :
    Calls Try.prog 57 #[.agg #[.slice A D.bytes.length c, .slice P D.pend.length p]] w (OpenPost w D) := by
  by_cases h1 : D.bytes.length % 32 = 0
  · by_cases h2 : D.bytes.length / 32 < 1 ∨ 256 < D.bytes.length / 32
    · exact open_bad2 A P c p D w hA hsm h1 h2
    · by_cases h3 : 64 < D.pend.length
      · exact open_bad3 A P c p D w hA hsm h1 (by omega) (by omega) h3
      · by_cases h4 : D.pend.all (okWr (D.bytes.length / 32)) = true
        · exact open_good A P c p D w hA hP hsm h1 (by omega) (by omega) (by omega) h4
        · exact open_bad4 A P c p D w hA hP hsm h1 (by omega) (by omega) (by omega) (by simpa using h4)
  · exact open_bad1 A P c p D w hA hsm h1

theorem pCheck_cases (D : Dk) : pCheck D = 0 ∨ pCheck D = 2 ∨ pCheck D = 4 ∨ pCheck D = 5 := by
  unfold pCheck
  split
  · exact .inr (.inr (.inl rfl))
  · split
    · exact .inr (.inr (.inr rfl))
    · split
      · exact .inl rfl
      · exact .inr (.inl rfl)
theorem pCheck_ok {D : Dk} (h : pCheck D = 0) : D.bytes.length % 32 = 0 ∧ 1 ≤ D.bytes.length / 32 ∧ D.bytes.length / 32 ≤ 256 ∧ D.pend.length ≤ 64 ∧ ∀ x ∈ D.pend, okWr (D.bytes.length / 32) x = true := by
  unfold pCheck at h
  split at h
  · cases h
  · split at h
    · cases h
    · split at h
      · rename_i h1 h2 h3
        exact ⟨by omega, by omega, by omega, by omega, List.all_eq_true.1 h3⟩
      · cases h
theorem okWr_iff {nb : Nat} {x : Wr} (h : okWr nb x = true) : ∃ k : Nat, x.blk = (k : Int) ∧ k < nb ∧ x.bs.length = 32 := by
  unfold okWr outB at h
  simp at h
  exact ⟨x.blk.toNat, by omega, by omega, h.2⟩

theorem OD.form {w : World} {B : Nat} {v : Value} {D : Dk} (h : OD w B v D) : ∃ A n c P m e, v = .agg #[.slice A n c, .slice P m e] := by
  obtain ⟨g, c, Pv, qs, hv, _, _, _, hPO, _⟩ := h
  obtain ⟨PA, pc, rfl, _⟩ := hPO.form
  exact ⟨_, _, _, _, _, _, hv⟩
theorem open_form {w w' : World} {D : Dk} {v : Value} (h2 : pCheck D = 0 → OD w' w.heap.size v D) (h3 : pCheck D ≠ 0 → v = zeroDk) : ∃ A n c P m e, v = .agg #[.slice A n c, .slice P m e] := by
  by_cases h0 : pCheck D = 0
  · exact (h2 h0).form
  · exact ⟨_, _, _, _, _, _, h3 h0⟩
/-- What is handed back: a device's value (or the empty one), an error. -/
theorem check_any (A P : Option Addr) (c p : Nat) (D : Dk) (w : World) (hA : By w A D.bytes) (hP : Ws w P D.pend) (hsm : Small D) :
    Calls Try.prog 39 #[.agg #[.slice A D.bytes.length c, .slice P D.pend.length p]] w fun e w' => e = .returned (.int .i64 (pCheck D)) ∧ Ext w w' := by
  go_enter Try.func39, Try.ntmps39
  go_wp2_with fail
  have hE := (Ext.refl w).alloc (.cells #[.slice A D.bytes.length c, .slice P D.pend.length p] 25)
  refine (open_any A P c p D _ (hA.ext hE) (hP.ext hE) hsm).mono ?_
  rintro e w1 ⟨v, rfl, h1, h2, h3⟩
  obtain ⟨vA, vn, vc, vP, vm, ve, rfl⟩ := open_form h2 h3
  have hE1 := Lib.hid (hE.trans h1)
  clear h1 h2 h3
  go_wp2
  go_ret
  exact ⟨rfl, hE1.out.alloc _⟩
end Go.Proofs.Ytdlalmbnkcadfaa
