/- device: Do, Put, Flush. -/
import Derived.Test.YtdlalmbnkcadfaaM09
namespace Go.Proofs.Ytdlalmbnkcadfaa
open Go.RowKit

theorem box3 (w : World) (cs cs' cs'' : Array Value) (t t' t'' : TypeId) : ∃ W, ((w.alloc (.cells cs t)).alloc (.cells cs' t')).alloc (.cells cs'' t'') = W ∧ Ext w W ∧ Hid (W.heap.size = w.heap.size + 3) ∧
    Bk W w.heap.size cs t ∧ Bk W (w.heap.size + 1) cs' t' ∧ Bk W (w.heap.size + 1 + 1) cs'' t'' :=
  ⟨_, rfl, (((Ext.refl w).alloc _).alloc _).alloc _, (by show _ = _; simp), ((Bk.new _ _ _).alloc _).alloc _, by have := (Bk.new (w.alloc (.cells cs t)) cs' t').alloc (.cells cs'' t''); simpa using this,
    by have := Bk.new ((w.alloc (.cells cs t)).alloc (.cells cs' t')) cs'' t''; simpa using this⟩

/-- What a call hands back: a device and an error, or the empty device. -/
def RetD (w : World) (er : Int) (D : Dk) (e : Ending) (w' : World) : Prop :=
  ∃ v, e = .returned (.tuple #[v, .int .i64 er]) ∧ Ext w w' ∧ (er = 0 → OD w' w.heap.size v D) ∧ (er ≠ 0 → v = zeroDk)

theorem OD.ld {w W : World} {B : Nat} {A P : Option Addr} {n c m d : Nat} {D : Dk} (h : OD w B (.agg #[.slice A n c, .slice P m d]) D) (hB : B ≤ w.heap.size) (hE : Ext w W) (hk : Bk W w.heap.size #[.slice A n c, .slice P m d] 84) : LD W B w.heap.size D := by
  obtain ⟨g, c', Pv, qs, hv, h1, h2, h3, h4, h5⟩ := h
  simp only [Value.agg.injEq, Array.mk.injEq, List.cons.injEq, Value.slice.injEq, and_true] at hv
  obtain ⟨⟨rfl, rfl, rfl⟩, rfl⟩ := hv
  have hg : g < w.heap.size := h3.lt
  refine ⟨g, c, _, qs, hk, h3.ext hE, ⟨ownsRow_ext h4.own hE, fun q hq => ?_⟩, h5, h1, hB, h2⟩
  obtain ⟨q1, q2, q3⟩ := h4.one q hq
  refine ⟨q1, q2.ext hE, fun a ha => ?_⟩
  obtain ⟨a1, a2, a3, a4⟩ := q3 a ha
  refine ⟨a1, Nat.lt_of_lt_of_le a2 hE.size, fun x hx => ?_, a4⟩
  simp only [List.mem_cons, List.not_mem_nil, or_false] at hx
  rcases hx with rfl | rfl
  · exact a3 x (by simp)
  · omega
theorem LD.od {w : World} {B xb : Nat} {D : Dk} (h : LD w B xb D) : ∃ A c P d, Bk w xb #[.slice A D.bytes.length c, .slice P D.pend.length d] 84 ∧ OD w B (.agg #[.slice A D.bytes.length c, .slice P D.pend.length d]) D := by
  obtain ⟨g, c, Pv, qs, h1, h2, h3, h4, h5, h6, h7⟩ := h
  obtain ⟨P, e, rfl, _⟩ := h3.form
  have : qs.length = D.pend.length := by rw [← h4]; simp
  rw [this] at h1 h3
  exact ⟨_, _, _, _, h1, g, c, _, qs, rfl, h5, h7, h2, h3.mono (by simp), h4⟩

theorem PO.low {w : World} {B : Nat} {X : List Nat} {Pv : Value} {qs : List Rec} (h : PO w B X Pv qs) {p : Addr} (hp : p.block < B) (u : Value) : PO (w.setCell p u) B X Pv qs := by
  have ho : some p.block ≠ Pv.ownBlock := fun e => by have := (h.own.lt p.block e.symm).1; omega
  have h' : PO w B [p.block] Pv qs := ⟨h.own, fun q hq => by
    obtain ⟨q1, q2, q3⟩ := h.one q hq
    exact ⟨q1, q2, fun a ha => by
      obtain ⟨a1, a2, _, a4⟩ := q3 a ha
      exact ⟨a1, a2, fun x hx => by simp only [List.mem_singleton] at hx; omega, a4⟩⟩⟩
  have k := h'.far (p := p) (by simp) ho u
  exact ⟨k.own, fun q hq => by
    obtain ⟨q1, q2, q3⟩ := k.one q hq
    obtain ⟨_, _, q4⟩ := h.one q hq
    exact ⟨q1, q2, fun a ha => by
      obtain ⟨a1, a2, _, a4⟩ := q3 a ha
      exact ⟨a1, a2, (q4 a ha).2.2.1, a4⟩⟩⟩
theorem OD.low {w : World} {B : Nat} {v : Value} {D : Dk} (h : OD w B v D) {p : Addr} (hp : p.block < B) (u : Value) : OD (w.setCell p u) B v D := by
  obtain ⟨g, c', Pv, qs, hv, h1, h2, h3, h4, h5⟩ := h
  exact ⟨g, c', Pv, qs, hv, h1, h2, h3.far (by omega) u, h4.low hp u, h5⟩
theorem PO.down {w : World} {B B' : Nat} {X : List Nat} {Pv : Value} {qs : List Rec} (h : PO w B X Pv qs) (hB : B' ≤ B) : PO w B' X Pv qs :=
  ⟨⟨h.own.1, h.own.2.imp id fun ⟨g, cap, cur, e1, e2, e3⟩ => ⟨g, cap, cur, e1, Nat.le_trans hB e2, e3⟩⟩, fun q hq => by
    obtain ⟨q1, q2, q3⟩ := h.one q hq
    exact ⟨q1, q2, fun a ha => by
      obtain ⟨a1, a2, a3, a4⟩ := q3 a ha
      exact ⟨by omega, a2, a3, a4⟩⟩⟩
theorem OD.down {w : World} {B B' : Nat} {v : Value} {D : Dk} (h : OD w B v D) (hB : B' ≤ B) : OD w B' v D := by
  obtain ⟨g, c', Pv, qs, hv, h1, h2, h3, h4, h5⟩ := h
  exact ⟨g, c', Pv, qs, hv, by omega, h2, h3, h4.down hB, h5⟩

def pDo (D : Dk) (kd : Int) (x : Wr) : Int := if pCheck D = 0 then pDoE D kd x else pCheck D

set_option maxRecDepth 100000 in
set_option maxHeartbeats 1000000 in
theorem doF_bad (A P A' : Option Addr) (c p d : Nat) (D : Dk) (kd : Int) (x : Wr) (w : World) (hA : By w A D.bytes) (hP : Ws w P D.pend) (hsm : Small D) (hbad : pCheck D ≠ 0) :
    Calls Try.prog 47 #[.agg #[.slice A D.bytes.length c, .slice P D.pend.length p], .agg #[.int .u8 kd, .int .i64 x.blk, .slice A' x.bs.length d]] w (RetD w (pDo D kd x) (pDoD D kd x)) := by
  go_enter Try.func47, Try.ntmps47
  go_wp2_with fail
  obtain ⟨W, hW, hE, hz, k0, k1, k2⟩ := box3 w #[.slice A D.bytes.length c, .slice P D.pend.length p] #[.int .u8 kd, .int .i64 x.blk, .slice A' x.bs.length d] #[.slice none 0 0, .slice none 0 0] 25 70 25
  rw [hW]; clear hW
  have c0 := k0.cell 0
  have c1 := k0.cell 1
  simp at c0 c1
  go_wp2_with fail
  refine (open_any A P c p D W (hA.ext hE) (hP.ext hE) hsm).mono ?_
  rintro e w1 ⟨v, rfl, h1, h2, h3⟩
  obtain rfl := h3 hbad
  have t1 : (pCheck D == 0) = false := by simpa using hbad
  have t2 : (pCheck D != 0) = true := by simpa using hbad
  have Hbad := Lib.hid hbad
  have j2 := (k2.ext h1).alloc (.cells #[.slice none 0 0, .slice none 0 0] 84)
  have r0 := j2.cell 0
  have r1 := j2.cell 1
  have f0 := j2.frozen 0
  have f1 := j2.frozen 1
  simp at r0 r1
  have hE1 := Lib.hid ((hE.trans h1).alloc (.cells #[.slice none 0 0, .slice none 0 0] 84))
  have Hj2 := Lib.hid j2
  clear h1 h2 h3 hbad c0 c1 k0 k1 k2 hA hP hE hz j2
  unfold zeroDk
  go_wp2
  have kk := ((Hj2.out.set 0 (.slice none 0 0)).set 1 (.slice none 0 0))
  have q0 := kk.cell 0
  have q1 := kk.cell 1
  simp only [Array.setIfInBounds_def] at q0 q1
  have he : pDo D kd x = pCheck D := by unfold pDo; rw [if_neg Hbad.out]
  refine bodyPost_ret (v := .tuple #[zeroDk, .int .i64 (pCheck D)]) (by simp [results, Try.results47, go_sem, q0, q1, zeroDk]) rfl ⟨_, by rw [he], ?_, fun h => ?_, fun _ => rfl⟩
  · exact (hE1.out.setCell (by show _ ≤ _; simp only; omega) _).setCell (by show _ ≤ _; simp only; omega) _
  · rw [he] at h; exact absurd h Hbad.out

theorem Below.trans2 {B : Nat} {a b c : World} (h : Below B a b) (k : Below B b c) : Below B a c := Below.trans h k
set_option maxRecDepth 100000 in
set_option maxHeartbeats 1000000 in
theorem doF_err (A P A' : Option Addr) (c p d : Nat) (D : Dk) (kd : Int) (x : Wr) (w : World) (hA : By w A D.bytes) (hP : Ws w P D.pend) (hx : By w A' x.bs) (hsm : Small D) (hxs : x.bs.length ≤ 100000) (hgood : pCheck D = 0) (herr : pDoE D kd x ≠ 0) :
    Calls Try.prog 47 #[.agg #[.slice A D.bytes.length c, .slice P D.pend.length p], .agg #[.int .u8 kd, .int .i64 x.blk, .slice A' x.bs.length d]] w (RetD w (pDo D kd x) (pDoD D kd x)) := by
  have t2 : (pDoE D kd x != 0) = true := by simpa using herr
  have Herr := Lib.hid herr
  clear herr
  go_enter Try.func47, Try.ntmps47
  go_wp2_with fail
  obtain ⟨W, hW, hE, hz, k0, k1, k2⟩ := box3 w #[.slice A D.bytes.length c, .slice P D.pend.length p] #[.int .u8 kd, .int .i64 x.blk, .slice A' x.bs.length d] #[.slice none 0 0, .slice none 0 0] 25 70 25
  rw [hW]; clear hW
  have c0 := k0.cell 0
  have c1 := k0.cell 1
  simp at c0 c1
  go_wp2_with fail
  refine (open_any A P c p D W (hA.ext hE) (hP.ext hE) hsm).mono ?_
  rintro e w1 ⟨v, rfl, h1, h2, h3⟩
  have t1 : (pCheck D == 0) = true := by simp [hgood]
  have hO := h2 hgood
  obtain ⟨vA, vn, vc, vP, vm, ve, rfl⟩ := hO.form
  have a1 := (k1.ext h1).alloc (.cells #[.slice vA vn vc, .slice vP vm ve] 84)
  have b0 := a1.cell 0
  have b1 := a1.cell 1
  have b2 := a1.cell 2
  simp at b0 b1 b2
  have hL1 := Lib.hid (hO.ld h1.size ((Ext.refl w1).alloc _) (Bk.new _ _ _))
  have j2 := (k2.ext h1).alloc (.cells #[.slice vA vn vc, .slice vP vm ve] 84)
  have hE1 := Lib.hid ((hE.trans h1).alloc (.cells #[.slice vA vn vc, .slice vP vm ve] 84))
  have hA1 := Lib.hid ((((hx.ext hE).ext h1).ext ((Ext.refl w1).alloc (.cells #[.slice vA vn vc, .slice vP vm ve] 84))))
  have hs1 := Lib.hid h1.size
  have Hgood := Lib.hid hgood
  clear h1 h2 h3 hO c0 c1 k0 k1 k2 hA hP hE a1 hx hgood
  go_wp2_with fail
  refine (do_any w1.heap.size W.heap.size D x A' d kd _ hL1.out (by have := hs1.out; simp; omega) hA1.out hsm hxs Hgood.out).mono ?_
  rintro e w7 ⟨rfl, g1, g2⟩
  have hck : pDo D kd x = pDoE D kd x := by unfold pDo; rw [if_pos Hgood.out]
  have Hck := Lib.hid hck
  have j7 := j2.below g2 (by have := hz.out; omega)
  have r0 := j7.cell 0
  have r1 := j7.cell 1
  have f0 := j7.frozen 0
  have f1 := j7.frozen 1
  simp at r0 r1
  have Hj7 := Lib.hid j7
  have hE7 : Hid (Ext w w7) := Below.trans hE1.out (Below.mono g2 (by have := hz.out; omega))
  clear hL1 hA1 b0 b1 b2 j2 j7 g1 g2 hE1 hck
  go_wp2
  have kk := ((Hj7.out.set 0 (.slice none 0 0)).set 1 (.slice none 0 0))
  have q0 := kk.cell 0
  have q1 := kk.cell 1
  simp only [Array.setIfInBounds_def] at q0 q1
  refine bodyPost_ret (v := .tuple #[zeroDk, .int .i64 (pDoE D kd x)]) (by simp [results, Try.results47, go_sem, q0, q1, zeroDk]) rfl ⟨_, by rw [Hck.out], ?_, fun h => ?_, fun _ => rfl⟩
  · exact (hE7.out.setCell (by show _ ≤ _; simp only; omega) _).setCell (by show _ ≤ _; simp only; omega) _
  · rw [Hck.out] at h; exact absurd h Herr.out
set_option maxRecDepth 100000 in
set_option maxHeartbeats 1000000 in
theorem doF_ok (A P A' : Option Addr) (c p d : Nat) (D : Dk) (kd : Int) (x : Wr) (w : World) (hA : By w A D.bytes) (hP : Ws w P D.pend) (hx : By w A' x.bs) (hsm : Small D) (hxs : x.bs.length ≤ 100000) (hgood : pCheck D = 0) (herr : pDoE D kd x = 0) :
    Calls Try.prog 47 #[.agg #[.slice A D.bytes.length c, .slice P D.pend.length p], .agg #[.int .u8 kd, .int .i64 x.blk, .slice A' x.bs.length d]] w (RetD w (pDo D kd x) (pDoD D kd x)) := by
  have t2 : (pDoE D kd x != 0) = false := by simp [herr]
  have Herr := Lib.hid herr
  clear herr
  go_enter Try.func47, Try.ntmps47
  go_wp2_with fail
  obtain ⟨W, hW, hE, hz, k0, k1, k2⟩ := box3 w #[.slice A D.bytes.length c, .slice P D.pend.length p] #[.int .u8 kd, .int .i64 x.blk, .slice A' x.bs.length d] #[.slice none 0 0, .slice none 0 0] 25 70 25
  rw [hW]; clear hW
  have c0 := k0.cell 0
  have c1 := k0.cell 1
  simp at c0 c1
  go_wp2_with fail
  refine (open_any A P c p D W (hA.ext hE) (hP.ext hE) hsm).mono ?_
  rintro e w1 ⟨v, rfl, h1, h2, h3⟩
  have t1 : (pCheck D == 0) = true := by simp [hgood]
  have hO := h2 hgood
  obtain ⟨vA, vn, vc, vP, vm, ve, rfl⟩ := hO.form
  have a1 := (k1.ext h1).alloc (.cells #[.slice vA vn vc, .slice vP vm ve] 84)
  have b0 := a1.cell 0
  have b1 := a1.cell 1
  have b2 := a1.cell 2
  simp at b0 b1 b2
  have hL1 := Lib.hid (hO.ld h1.size ((Ext.refl w1).alloc _) (Bk.new _ _ _))
  have j2 := (k2.ext h1).alloc (.cells #[.slice vA vn vc, .slice vP vm ve] 84)
  have hE1 := Lib.hid ((hE.trans h1).alloc (.cells #[.slice vA vn vc, .slice vP vm ve] 84))
  have hA1 := Lib.hid ((((hx.ext hE).ext h1).ext ((Ext.refl w1).alloc (.cells #[.slice vA vn vc, .slice vP vm ve] 84))))
  have hs1 := Lib.hid h1.size
  have Hgood := Lib.hid hgood
  clear h1 h2 h3 hO c0 c1 k0 k1 k2 hA hP hE a1 hx hgood
  go_wp2_with fail
  refine (do_any w1.heap.size W.heap.size D x A' d kd _ hL1.out (by have := hs1.out; simp; omega) hA1.out hsm hxs Hgood.out).mono ?_
  rintro e w7 ⟨rfl, g1, g2⟩
  have hck : pDo D kd x = pDoE D kd x := by unfold pDo; rw [if_pos Hgood.out]
  have Hck := Lib.hid hck
  have j7 := j2.below g2 (by have := hz.out; omega)
  have r0 := j7.cell 0
  have r1 := j7.cell 1
  have f0 := j7.frozen 0
  have f1 := j7.frozen 1
  simp at r0 r1
  have Hj7 := Lib.hid j7
  have hE7 : Hid (Ext w w7) := Below.trans hE1.out (Below.mono g2 (by have := hz.out; omega))
  obtain ⟨oA, oc, oP, od, jx, hOD⟩ := g1.od
  have o0 := jx.cell 0
  have o1 := jx.cell 1
  simp at o0 o1
  have HOD := Lib.hid hOD
  clear hL1 hA1 b0 b1 b2 j2 j7 g1 g2 hE1 hck jx hOD
  go_wp2
  have kk := ((Hj7.out.set 0 (.slice oA (pDoD D kd x).bytes.length oc)).set 1 (.slice oP (pDoD D kd x).pend.length od))
  have q0 := kk.cell 0
  have q1 := kk.cell 1
  simp only [Array.setIfInBounds_def] at q0 q1
  refine bodyPost_ret (v := .tuple #[.agg #[.slice oA (pDoD D kd x).bytes.length oc, .slice oP (pDoD D kd x).pend.length od], .int .i64 0]) (by simp [results, Try.results47, go_sem, q0, q1]) rfl ⟨_, by rw [Hck.out, Herr.out], ?_, fun _ => ?_, fun h => by rw [Hck.out] at h; exact absurd Herr.out h⟩
  · exact (hE7.out.setCell (by show _ ≤ _; simp only; omega) _).setCell (by show _ ≤ _; simp only; omega) _
  · exact ((HOD.out.low (by have := hz.out; show _ < _; simp only; omega) _).low (by have := hz.out; show _ < _; simp only; omega) _).down (by have := hz.out; omega)

theorem doF_any (A P A' : Option Addr) (c p d : Nat) (D : Dk) (kd : Int) (x : Wr) (w : World) (hA : By w A D.bytes) (hP : Ws w P D.pend) (hx : By w A' x.bs) (hsm : Small D) (hxs : x.bs.length ≤ 100000) :
    Calls Try.prog 47 #[.agg #[.slice A D.bytes.length c, .slice P D.pend.length p], .agg #[.int .u8 kd, .int .i64 x.blk, .slice A' x.bs.length d]] w (RetD w (pDo D kd x) (pDoD D kd x)) := by
  by_cases h1 : pCheck D = 0
  · by_cases h2 : pDoE D kd x = 0
    · exact doF_ok A P A' c p d D kd x w hA hP hx hsm hxs h1 h2
    · exact doF_err A P A' c p d D kd x w hA hP hx hsm hxs h1 h2
  · exact doF_bad A P A' c p d D kd x w hA hP hsm h1
end Go.Proofs.Ytdlalmbnkcadfaa
/- device: Put, Flush. -/
namespace Go.Proofs.Ytdlalmbnkcadfaa
open Go.RowKit

theorem RetD.form {w w' : World} {er : Int} {D : Dk} {v : Value} (h2 : er = 0 → OD w' w.heap.size v D) (h3 : er ≠ 0 → v = zeroDk) : ∃ A n c P m e, v = .agg #[.slice A n c, .slice P m e] := by
  by_cases h0 : er = 0
  · exact (h2 h0).form
  · exact ⟨_, _, _, _, _, _, h3 h0⟩
def pPut (D : Dk) (x : Wr) : Int := pDo D 1 x
def pFlush (D : Dk) : Int := pDo D 2 ⟨0, []⟩
def pFlushD (D : Dk) : Dk := ⟨pFl D.bytes D.pend, []⟩
theorem pFlush_eq (D : Dk) : pFlush D = pCheck D := by
  unfold pFlush pDo pDoE
  split
  · rename_i h; simp [h]
  · rfl

set_option maxRecDepth 100000 in
set_option maxHeartbeats 1000000 in
theorem putF_any (A P A' : Option Addr) (c p d : Nat) (D : Dk) (x : Wr) (w : World) (hA : By w A D.bytes) (hP : Ws w P D.pend) (hx : By w A' x.bs) (hsm : Small D) (hxs : x.bs.length ≤ 100000) :
    Calls Try.prog 32 #[.agg #[.slice A D.bytes.length c, .slice P D.pend.length p], .agg #[.int .i64 x.blk, .slice A' x.bs.length d]] w (RetD w (pPut D x) (pDoD D 1 x)) := by
  go_enter Try.func32, Try.ntmps32
  go_wp2_with fail
  obtain ⟨W, hW, hE, hz, k0, k1, k2⟩ := box3 w #[.slice A D.bytes.length c, .slice P D.pend.length p] #[.int .i64 x.blk, .slice A' x.bs.length d] #[.slice none 0 0, .slice none 0 0] 25 49 25
  rw [hW]; clear hW
  have c0 := k0.cell 0
  have c1 := k0.cell 1
  have b0 := k1.cell 0
  have b1 := k1.cell 1
  simp at c0 c1 b0 b1
  go_wp2_with fail
  refine (doF_any A P A' c p d D 1 x W (hA.ext hE) (hP.ext hE) (hx.ext hE) hsm hxs).mono ?_
  rintro e w1 ⟨v, rfl, h1, h2, h3⟩
  clear b0 b1
  obtain ⟨vA, vn, vc, vP, vm, ve, rfl⟩ := RetD.form h2 h3
  have j2 := k2.ext h1
  have r0 := j2.cell 0
  have r1 := j2.cell 1
  have f0 := j2.frozen 0
  have f1 := j2.frozen 1
  simp at r0 r1
  have Hj2 := Lib.hid j2
  have hE1 := Lib.hid (hE.trans h1)
  have H2 := Lib.hid h2
  have H3 := Lib.hid h3
  clear h1 h2 h3 hE j2 c0 c1
  go_wp2
  have kk := ((Hj2.out.set 0 (.slice vA vn vc)).set 1 (.slice vP vm ve))
  have q0 := kk.cell 0
  have q1 := kk.cell 1
  simp only [Array.setIfInBounds_def] at q0 q1
  refine bodyPost_ret (v := .tuple #[.agg #[.slice vA vn vc, .slice vP vm ve], .int .i64 (pDo D 1 x)]) (by simp [results, Try.results32, go_sem, q0, q1]) rfl ⟨_, rfl, ?_, fun h => ?_, fun h => H3.out h⟩
  · exact (hE1.out.setCell (by show _ ≤ _; simp only; omega) _).setCell (by show _ ≤ _; simp only; omega) _
  · exact (((H2.out h).low (by have := hz.out; show _ < _; simp only; omega) _).low (by have := hz.out; show _ < _; simp only; omega) _).down (by have := hz.out; omega)
set_option maxRecDepth 100000 in
set_option maxHeartbeats 1000000 in
theorem flushF_any (A P : Option Addr) (c p : Nat) (D : Dk) (w : World) (hA : By w A D.bytes) (hP : Ws w P D.pend) (hsm : Small D) :
    Calls Try.prog 33 #[.agg #[.slice A D.bytes.length c, .slice P D.pend.length p]] w (RetD w (pFlush D) (pFlushD D)) := by
  go_enter Try.func33, Try.ntmps33
  go_wp2_with fail
  obtain ⟨W, hW, hE, hz, k0, k2⟩ := box2 w #[.slice A D.bytes.length c, .slice P D.pend.length p] #[.slice none 0 0, .slice none 0 0] 25 25
  rw [hW]; clear hW
  have c0 := k0.cell 0
  have c1 := k0.cell 1
  simp at c0 c1
  go_wp2_with fail
  refine (doF_any A P none c p 0 D 2 ⟨0, []⟩ W (hA.ext hE) (hP.ext hE) (By.nil _ _) hsm (by simp)).mono ?_
  rintro e w1 ⟨v, rfl, h1, h2, h3⟩
  obtain ⟨vA, vn, vc, vP, vm, ve, rfl⟩ := RetD.form h2 h3
  have j2 := k2.ext h1
  have r0 := j2.cell 0
  have r1 := j2.cell 1
  have f0 := j2.frozen 0
  have f1 := j2.frozen 1
  simp at r0 r1
  have Hj2 := Lib.hid j2
  have hE1 := Lib.hid (hE.trans h1)
  have H2 := Lib.hid h2
  have H3 := Lib.hid h3
  clear h1 h2 h3 hE j2 c0 c1
  go_wp2
  have kk := ((Hj2.out.set 0 (.slice vA vn vc)).set 1 (.slice vP vm ve))
  have q0 := kk.cell 0
  have q1 := kk.cell 1
  simp only [Array.setIfInBounds_def] at q0 q1
  refine bodyPost_ret (v := .tuple #[.agg #[.slice vA vn vc, .slice vP vm ve], .int .i64 (pDo D 2 ⟨0, []⟩)]) (by simp [results, Try.results33, go_sem, q0, q1]) rfl ⟨_, rfl, ?_, fun h => ?_, fun h => H3.out h⟩
  · exact (hE1.out.setCell (by show _ ≤ _; simp only; omega) _).setCell (by show _ ≤ _; simp only; omega) _
  · exact (((H2.out h).low (by have := hz.out; show _ < _; simp only; omega) _).low (by have := hz.out; show _ < _; simp only; omega) _).down (by have := hz.out; omega)
end Go.Proofs.Ytdlalmbnkcadfaa
/- device: New. -/
namespace Go.Proofs.Ytdlalmbnkcadfaa
open Go.RowKit

theorem mk8 (w : World) (n : Nat) (hn : n ≤ 100000) : (Instr.makeSlice 22 (.int .i64 (n : Int)) (.int .i64 (n : Int))).run Try.prog w =
    .ok (.slice (some ⟨w.heap.size, 0, none⟩) n n) (w.alloc (.cells (Array.replicate n (.int .u8 0)) 5)) := by
  obtain ⟨i, hi, hz, hs, hb⟩ := info_parts info_u8
  rw [run_make w 22 5 i (.int .u8 0) Try.underlying22 hi hz .i64 .i64 n n (by omega) (by omega) (by rw [hb]; omega) (by omega), hs]
  have : madeCells (Value.int .u8 0).cells ((n : Int).toNat * 1) = Array.replicate n (.int .u8 0) := by
    apply Array.ext
    · simp [size_madeCells]
    · intro k h1 h2
      simp [madeCells, Value.cells, Nat.mod_one]
  rw [this]
  simp
def pNew (n : Int) : Int := if 1 ≤ n ∧ n ≤ 256 then 0 else 3
def pNewD (n : Int) : Dk := ⟨List.replicate (n.toNat * 32) 0, []⟩

theorem out1 (n : Int) : (!([n].any (outB 1 256))) = decide (1 ≤ n ∧ n ≤ 256) := by
  by_cases h : 1 ≤ n ∧ n ≤ 256
  · rw [decide_eq_true h]; simp [outB]; omega
  · rw [decide_eq_false h]; simp [outB]; omega
set_option maxRecDepth 100000 in
set_option maxHeartbeats 1000000 in
theorem new_bad (n : Int) (w : World) (hn : ¬ (1 ≤ n ∧ n ≤ 256)) :
    Calls Try.prog 16 #[.int .i64 n] w (RetD w (pNew n) (pNewD n)) := by
  have hnn : Hid ((!([n].any (outB 1 256))) = false) := by rw [out1]; exact decide_eq_false hn
  have hq : Hid (pNew n = 3) := if_neg hn
  clear hn
  go_enter Try.func16, Try.ntmps16
  go_wp2_with fail
  refine (within_b false _ _ [n] _ _ _ (by simp) ?_ ?_).mono ?_
  · exact Is.one (by simp)
  · exact hnn.out
  rintro e w1 ⟨rfl, h1⟩
  have hE : Hid (Ext w w1) := ((((Ext.refl w).alloc (.cells #[.slice none 0 0, .slice none 0 0] 25))).alloc (.cells #[.int .i64 n] 3)).trans h1
  have j2 : Bk w1 w.heap.size #[.slice none 0 0, .slice none 0 0] 25 := ((Bk.new w _ _).alloc _).ext h1
  have r0 := j2.cell 0
  have r1 := j2.cell 1
  have f0 := j2.frozen 0
  have f1 := j2.frozen 1
  simp at r0 r1
  have Hj2 := Lib.hid j2
  clear h1 j2
  go_wp2
  have kk := ((Hj2.out.set 0 (.slice none 0 0)).set 1 (.slice none 0 0))
  have q0 := kk.cell 0
  have q1 := kk.cell 1
  simp only [Array.setIfInBounds_def] at q0 q1
  refine bodyPost_ret (v := .tuple #[zeroDk, .int .i64 3]) (by simp [results, Try.results16, go_sem, q0, q1, zeroDk]) rfl ⟨_, by rw [hq.out], ?_, fun h => ?_, fun _ => rfl⟩
  · exact (hE.out.setCell (Nat.le_refl _) _).setCell (Nat.le_refl _) _
  · rw [hq.out] at h; cases h
set_option maxRecDepth 100000 in
set_option maxHeartbeats 1000000 in
theorem new_ok (n : Int) (w : World) (hn : 1 ≤ n ∧ n ≤ 256) :
    Calls Try.prog 16 #[.int .i64 n] w (RetD w (pNew n) (pNewD n)) := by
  have hnn : Hid ((!([n].any (outB 1 256))) = true) := by rw [out1]; exact decide_eq_true hn
  have hq : Hid (pNew n = 0) := if_pos hn
  obtain ⟨k, rfl⟩ : ∃ k : Nat, n = k := ⟨n.toNat, by omega⟩
  obtain ⟨hn1, hn2⟩ := hn
  go_enter Try.func16, Try.ntmps16
  go_wp2_with fail
  refine (within_b true _ _ [(k : Int)] _ _ _ (by simp) ?_ ?_).mono ?_
  · exact Is.one (by simp)
  · exact hnn.out
  rintro e w1 ⟨rfl, h1⟩
  have hE : Hid (Ext w w1) := ((((Ext.refl w).alloc (.cells #[.slice none 0 0, .slice none 0 0] 25))).alloc (.cells #[.int .i64 (k : Int)] 3)).trans h1
  have j2 : Bk w1 w.heap.size #[.slice none 0 0, .slice none 0 0] 25 := ((Bk.new w _ _).alloc _).ext h1
  have hwr : IntKind.i64.wrap ((k : Int) * 32) = (k : Int) * 32 := IntWalk.i64_in _ (by omega)
  have hm : (Instr.makeSlice 22 (.int .i64 ((k : Int) * 32)) (.int .i64 ((k : Int) * 32))).run Try.prog w1 = .ok (.slice (some ⟨w1.heap.size, 0, none⟩) (k * 32) (k * 32)) (w1.alloc (.cells (Array.replicate (k * 32) (.int .u8 0)) 5)) := by
    have := mk8 w1 (k * 32) (by omega)
    simpa using this
  have hlt := Lib.hid j2.lt
  have a2 := j2.alloc (.cells (Array.replicate (k * 32) (.int .u8 0)) 5)
  clear j2
  have j2 := a2
  clear a2
  have r0 := j2.cell 0
  have r1 := j2.cell 1
  have f0 := j2.frozen 0
  have f1 := j2.frozen 1
  simp at r0 r1
  have Hj2 := Lib.hid j2
  clear h1 j2
  go_wp2
  have kk := ((Hj2.out.set 0 (.slice (some ⟨w1.heap.size, 0, none⟩) (k * 32) (k * 32))).set 1 (.slice none 0 0))
  have q0 := kk.cell 0
  have q1 := kk.cell 1
  simp only [Array.setIfInBounds_def] at q0 q1
  refine bodyPost_ret (v := .tuple #[.agg #[.slice (some ⟨w1.heap.size, 0, none⟩) (k * 32) (k * 32), .slice none 0 0], .int .i64 0]) (by simp [results, Try.results16, go_sem, q0, q1]) rfl ⟨_, by rw [hq.out], ?_, fun _ => ?_, fun h => absurd hq.out h⟩
  · exact ((hE.out.alloc _).setCell (Nat.le_refl _) _).setCell (Nat.le_refl _) _
  · have hlt : w.heap.size < w1.heap.size := hlt.out
    have hO : OB (w1.alloc (.cells (Array.replicate (k * 32) (.int .u8 0)) 5)) w1.heap.size (k * 32) (List.replicate (k * 32) 0) := ⟨[], by simp, by simpa using Bk.new w1 (Array.replicate (k * 32) (.int .u8 0)) 5⟩
    refine ⟨w1.heap.size, k * 32, .slice none 0 0, [], ?_, by omega, ?_, (hO.far (by show _ ≠ w.heap.size; omega) _).far (by show _ ≠ w.heap.size; omega) _, PO.nil _ _ _, rfl⟩
    · simp [pNewD]
    · simp [pNewD]
theorem new_any (n : Int) (w : World) : Calls Try.prog 16 #[.int .i64 n] w (RetD w (pNew n) (pNewD n)) := by
  by_cases h : 1 ≤ n ∧ n ≤ 256
  · exact new_ok n w h
  · exact new_bad n w h
end Go.Proofs.Ytdlalmbnkcadfaa
