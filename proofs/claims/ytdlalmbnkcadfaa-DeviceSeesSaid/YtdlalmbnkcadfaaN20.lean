/- DeviceSees: the walk. -/
import Derived.Test.YtdlalmbnkcadfaaN19
import Derived.Test.YtdlalmbnkcadfaaN10
namespace Go.Proofs.Ytdlalmbnkcadfaa
open Go.RowKit

def SV.rb (X : BL) : SV := ⟨fun v w => ∃ A c, v = .tuple #[.slice A X.length c, .int .i64 0] ∧ By w A X, fun ⟨A, c, h1, h2⟩ e => ⟨A, c, h1, h2.ext e⟩⟩
def SV.b1 (X : BL) : SV := ⟨fun v w => ∃ A c, v = .slice A X.length c ∧ By w A X, fun ⟨A, c, h1, h2⟩ e => ⟨A, c, h1, h2.ext e⟩⟩
def SV.rl (n : Nat) (xs : List Int) : SV := ⟨fun v w => ∃ A c, v = .tuple #[.slice A n c, .int .i64 0] ∧ Is w A xs, fun ⟨A, c, h1, h2⟩ e => ⟨A, c, h1, h2.ext e⟩⟩
def SV.l1 (n : Nat) (xs : List Int) : SV := ⟨fun v w => ∃ A c, v = .slice A n c ∧ Is w A xs, fun ⟨A, c, h1, h2⟩ e => ⟨A, c, h1, h2.ext e⟩⟩
set_option maxRecDepth 100000 in
set_option maxHeartbeats 8000000 in
theorem sees_any (A P Ax : Option Addr) (c p dx : Nat) (D : Dk) (x : Wr) (o : Int) (w : World) (hA : By w A D.bytes) (hP : Ws w P D.pend) (hx : By w Ax x.bs) (ho : 0 ≤ o ∧ o < 256) :
    Calls Try.prog 15 #[.agg #[.slice A D.bytes.length c, .slice P D.pend.length p], .agg #[.int .i64 x.blk, .slice Ax x.bs.length dx], .int .u8 o] w fun e w' => e = .returned (.bool true) ∧ Ext w w' := by
  obtain ⟨W, hW, hE, hz, k0, k1⟩ := box2 w #[.slice A D.bytes.length c, .slice P D.pend.length p] #[.int .i64 x.blk, .slice Ax x.bs.length dx] 25 49
  have HD : Hid (DBx W w.heap.size A P c p D) := ⟨k0, hA.ext hE, hP.ext hE⟩
  have HX : Hid (WBx W (w.heap.size + 1) Ax dx x) := ⟨k1, hx.ext hE⟩
  have HE := Lib.hid hE
  have hc := HD.out.cells
  have Ho := Lib.hid ho
  clear hE hP hA hx k0 k1 hz ho
  go_enter Try.func15, Try.ntmps15
  go_wp2_with fail
  refine (right_any A P c p D W HD.out.a HD.out.p).mono ?_
  rintro e w1 ⟨rfl, hE1⟩
  have Hq := Lib.hid (HD.out.ext hE1)
  clear HD
  have HD := Hq
  clear Hq
  have Hq := Lib.hid (HX.out.ext hE1)
  clear HX
  have HX := Hq
  clear Hq
  have Hq := Lib.hid (HE.out.trans hE1)
  clear HE
  have HE := Hq
  clear Hq
  clear hE1 hc hW
  have hc := HD.out.cells
  have hd := HX.out.cells
  by_cases ht : pRight D = true
  · have hr : pThin D = true ∧ pCheck D = 0 := by
      unfold pRight at ht
      simpa using ht
    have Hsm := Lib.hid (thin_small hr.1)
    have Hck := Lib.hid hr.2
    obtain ⟨hr0, hr1, hr2, hr3, hr4⟩ := pCheck_ok hr.2
    have Hnb : Hid (1 ≤ D.bytes.length / 32 ∧ D.bytes.length / 32 ≤ 256 ∧ D.bytes.length % 32 = 0) := ⟨hr1, hr2, hr0⟩
    have Hok := Lib.hid hr4
    rw [ht]
    clear ht hr hr0 hr1 hr2 hr3 hr4
    have q0 : (D.bytes.length : Int).tdiv 32 = (D.bytes.length : Int) / 32 := Int.tdiv_eq_ediv_of_nonneg (by omega)
    have q3 : wrap64 ((D.bytes.length : Int) / 32) = (D.bytes.length : Int) / 32 := by have := Hsm.out.1; unfold wrap64; omega
    by_cases h1 : x.bs.length = 32
    · have t1 : ((x.bs.length : Int) != 32) = false := by rw [h1]; rfl
      have Hxl := Lib.hid h1
      clear h1
      by_cases h2 : x.blk < 0
      · have t2 : decide (x.blk < 0) = true := decide_eq_true h2
        clear h2
        go_wp2_with fail
        refine (awake_any _).mono ?_
        rintro e w4 ⟨rfl, hE6⟩
        have HE' := Lib.hid (HE.out.trans hE6)
        clear hE6
        go_wp2_with fail
        go_ret
        exact ⟨rfl, HE'.out⟩
      · have t2 : decide (x.blk < 0) = false := decide_eq_false h2
        obtain ⟨m, hm⟩ : ∃ m : Nat, x.blk = m := ⟨x.blk.toNat, by omega⟩
        have Hm := Lib.hid hm
        by_cases h3 : (D.bytes.length : Int) / 32 ≤ x.blk
        · have t3 : decide ((D.bytes.length : Int) / 32 ≤ x.blk) = true := decide_eq_true h3
          clear h2 h3 hm
          go_wp2_with fail
          refine (awake_any _).mono ?_
          rintro e w4 ⟨rfl, hE6⟩
          have HE' := Lib.hid (HE.out.trans hE6)
          clear hE6
          go_wp2_with fail
          go_ret
          exact ⟨rfl, HE'.out⟩
        · have t3 : decide ((D.bytes.length : Int) / 32 ≤ x.blk) = false := decide_eq_false h3
          have Hwr : Hid (okWr (D.bytes.length / 32) x = true) := by
            show _ = _
            unfold okWr outB
            rw [Hxl.out]
            simp
            omega
          have Hmn : Hid (m < D.bytes.length / 32) := by show _ < _; omega
          clear h2 h3 hm
          by_cases h4 : 64 ≤ (D.pend.length : Int)
          · have t4 : decide (64 ≤ (D.pend.length : Int)) = true := decide_eq_true h4
            clear h4
            go_wp2_with fail
            refine (awake_any _).mono ?_
            rintro e w4 ⟨rfl, hE6⟩
            have HE' := Lib.hid (HE.out.trans hE6)
            clear hE6
            go_wp2_with fail
            go_ret
            exact ⟨rfl, HE'.out⟩
          · have t4 : decide (64 ≤ (D.pend.length : Int)) = false := decide_eq_false h4
            have Hlt : Hid (D.pend.length < 64) := by show _ < _; omega
            clear h4
            go_wp2_with fail
            clear t1 t2 t3 t4 hc hd
            have HD1 := HD
            have HX1 := HX
            have hS := Lib.hid (fun w' (h : Ext w1 w') => (⟨h, (HD1.out.ext h).cells.1, (HD1.out.ext h).cells.2, (HX1.out.ext h).cells.1, (HX1.out.ext h).cells.2⟩ : Ext w1 w' ∧ w'.cell? ⟨w.heap.size, 0, none⟩ = some (.slice A D.bytes.length c) ∧ w'.cell? ⟨w.heap.size, 1, none⟩ = some (.slice P D.pend.length p) ∧ w'.cell? ⟨w.heap.size + 1, 0, none⟩ = some (.int .i64 x.blk) ∧ w'.cell? ⟨w.heap.size + 1, 1, none⟩ = some (.slice Ax x.bs.length dx)))
            refine wp_region_rell 14 (by kernel_rfl) (by kernel_rfl) (fun _ _ _ _ _ h => h) (Ext.refl w1).drew ?_
            (apply relW_fix
             · intro vs w' hw hf
               have hc := hS.out w' hw
               unfold okAt
               go_simp
               first | exact ⟨rfl, Ext.refl _⟩ | exact rfl
             · intro vs; go_simp; rfl)
            (apply relW_any (SV.cd D)
             · intro vs w' hw hf
               have hc := hS.out w' hw
               skip
               unfold okAt
               go_simp
               refine ⟨Ext.refl _, ?_⟩; go_at_call 37; refine (own_dv2 A P c p D w' (HD1.out.a.ext hw) (HD1.out.p.ext hw) Hsm.out).mono ?_; rintro e w5 ⟨A', c', P', p', rfl, h1, h2, h3⟩; exact ⟨_, rfl, ⟨A', P', c', p', rfl, h2, h3⟩, h1⟩
             · intro vs; go_simp; rfl)
            (apply relW_fix
             · intro vs w' hw hf
               have hc := hS.out w' hw
               unfold okAt
               go_simp
               first | exact ⟨rfl, Ext.refl _⟩ | exact rfl
             · intro vs; go_simp; rfl)
            (apply relW_fix
             · intro vs w' hw hf
               have hc := hS.out w' hw
               unfold okAt
               go_simp
               first | exact ⟨rfl, Ext.refl _⟩ | exact rfl
             · intro vs; go_simp; rfl)
            (apply relW_any (SV.e0 w1.heap.size)
             · intro vs w' hw hf
               have hc := hS.out w' hw
               skip
               unfold okAt
               go_simp
               exact ⟨⟨_, rfl, hw.size, by simp⟩, (Ext.refl _).alloc _⟩
             · intro vs; go_simp; rfl)
            (apply relW_fix
             · intro vs w' hw hf
               have hc := hS.out w' hw
               unfold okAt
               go_simp
               first | exact ⟨rfl, Ext.refl _⟩ | exact rfl
             · intro vs; go_simp; rfl)
            (apply relW_fix
             · intro vs w' hw hf
               have hc := hS.out w' hw
               unfold okAt
               go_simp
               first | exact ⟨rfl, Ext.refl _⟩ | exact rfl
             · intro vs; go_simp; rfl)
            (apply relW_any (SV.by_ w1.heap.size x.bs)
             · intro vs w' hw hf
               have hc := hS.out w' hw
               obtain ⟨b, eb, hb1, hb2⟩ := hf.out.1 (by kernel_rfl)
               obtain ⟨v2, w2, h1, h2, h3⟩ := app0_by _ w' b dx Ax x.bs (HX1.out.a.ext hw) (by have := Hxl.out; omega)
               refine okAt_app rfl _ _ _ rfl _ _ v2 (by exact eb) rfl h1 ?_ h2
               (obtain ⟨A', c', e1, q1, q2, q3, _⟩ := h3; exact ⟨A', c', e1, q1, q2, fun a ha => (by have := h2.size; have := hw.size; rcases q3 a ha with q | q <;> omega)⟩)
             · intro vs; go_simp; rfl)
            (apply relW_any (SV.cw x)
             · intro vs w' hw hf
               have hc := hS.out w' hw
               obtain ⟨A', c', e7, q1, q2, q3⟩ := hf.out.1 (by kernel_rfl)
               unfold okAt
               go_simp
               exact ⟨⟨A', c', rfl, q2⟩, Ext.refl _⟩
             · intro vs; go_simp; rfl)
            (apply relW_any (SV.od2 w1.heap.size (putD D x))
             · intro vs w' hw hf
               have hc := hS.out w' hw
               obtain ⟨A', c', e8, hB8⟩ := hf.out.1 (by kernel_rfl)
               obtain ⟨B, Q, cb, cq, e1, hB, hQ⟩ := hf.out.2.2.2.1 (by kernel_rfl)
               unfold okAt
               go_simp
               refine ⟨Ext.refl _, ?_⟩
               go_at_call 32
               exact putN_any B Q A' cb cq c' w1.heap.size D x w' Hck.out Hwr.out Hlt.out hw.size hB hQ.ws hB8 Hsm.out
             · intro vs; go_simp; rfl)
            (apply relW_any (SV.od2 w1.heap.size (putD D x))
             · intro vs w' hw hf
               have hc := hS.out w' hw
               obtain ⟨A', c', P', p', e6, h2⟩ := hf.out.1 (by kernel_rfl)
               unfold okAt
               go_simp
               exact ⟨⟨A', c', P', p', rfl, h2⟩, Ext.refl _⟩
             · intro vs; go_simp; rfl)
            (apply relW_any (SV.od1 w1.heap.size (putD D x))
             · intro vs w' hw hf
               have hc := hS.out w' hw
               obtain ⟨A', c', P', p', e6, h2⟩ := hf.out.1 (by kernel_rfl)
               unfold okAt
               go_simp
               exact ⟨⟨A', c', P', p', rfl, h2⟩, Ext.refl _⟩
             · intro vs; go_simp; rfl)
            (apply relW_any (SV.eq (.int .i64 0))
             · intro vs w' hw hf
               have hc := hS.out w' hw
               obtain ⟨A', c', P', p', e6, h2⟩ := hf.out.2.1 (by kernel_rfl)
               unfold okAt
               go_simp
               exact ⟨rfl, Ext.refl _⟩
             · intro vs; go_simp; rfl)
            (apply relW_any (SV.al w1.heap.size #[.slice none 0 0, .slice none 0 0] 25)
             · intro vs w' hw hf
               have hc := hS.out w' hw
               skip
               unfold okAt
               go_simp
               exact ⟨⟨_, rfl, Bk.new _ _ _, hw.size⟩, (Ext.refl _).alloc _⟩
             · intro vs; go_simp; rfl)
            refine relW_nil fun vs w2 hw hf => ?_
            obtain ⟨⟨b6, e6, kb6, hb6⟩, e9, ⟨B, cb, Q, cq, e8, hO⟩, -⟩ := hf
            have e9 : vs 12 = .int .i64 0 := e9
            have g2 := kb6.cell 0
            have g3 := kb6.cell 1
            have g6 := kb6.frozen 0
            have g7 := kb6.frozen 1
            simp at g2 g3
            clear hS HD HX
            simp only [List.drop]
            go_upto_region 4 with fail
            obtain ⟨V, hV, hVb, kb, hoff⟩ := one_box (B := w1.heap.size) kb6 hb6 (.slice B (putD D x).bytes.length cb) (.slice Q (putD D x).pend.length cq)
            have hsV : w2.heap.size ≤ V.heap.size := by rw [← hV]; simp [World.setCell]
            rw [hV]; clear hV
            have hEV : Ext w1 V := Below.trans hw hVb
            have hOV := hO.off1 kb6 clean_disk hsV hoff
            have H1 : Hid (DBx V b6 B Q cb cq (putD D x)) := ⟨kb, hOV.parts.1, hOV.parts.2⟩
            have HD := Lib.hid (HD1.out.ext hEV)
            have HX := Lib.hid (HX1.out.ext hEV)
            have Hq := Lib.hid (HE.out.trans hEV)
            clear HE
            have HE := Hq
            clear Hq
            clear hVb kb hoff hEV hO hOV kb6 hb6 hw HD1 HX1 g2 g3 g6 g7 e8 hsV
            have Hck1 := Lib.hid (put_ok_c Hck.out Hwr.out Hlt.out)
            have Hsm1 : Hid (Small (putD D x)) := ⟨Hsm.out.1, by have := Hlt.out; simp [putD]; omega, fun y hy => by
              rcases List.mem_append.1 hy with h | h
              · exact Hsm.out.2.2 y h
              · simp only [List.mem_singleton] at h; rw [h, Hxl.out]; omega⟩
            have hc := H1.out.cells
            have Hsee : Hid (∀ n : Nat, n < D.bytes.length / 32 → blkN (pFl (putD D x).bytes (putD D x).pend) n = if (n : Int) = x.blk then x.bs else blkN (pFl D.bytes D.pend) n) := fun n hn => put_sees Hck.out Hwr.out n hn
            have Hdif : Hid (pDifE D (putD D x) = 0 ∧ (pDifL D (putD D x) = [] ∨ pDifL D (putD D x) = [m])) := by
              obtain ⟨h1, h2⟩ := put_differs Hck.out Hwr.out Hlt.out
              refine ⟨h1, h2.imp id fun ⟨k, e1, e2⟩ => ?_⟩
              have := Hm.out
              rw [e1]
              congr 1
              omega
            have Hel : Hid ((putD D x).bytes.length = D.bytes.length) := by exact rfl
            obtain ⟨E, hE⟩ : ∃ E, putD D x = E := ⟨_, rfl⟩
            rw [hE] at H1 Hck1 Hsm1 hc Hsee Hdif Hel
            clear hE
            have hl5 : Hid ((pFl E.bytes E.pend).length = D.bytes.length) := by
              show _ = _
              rw [pFl_len (pCheck_ok Hck1.out).2.2.2.2, Hel.out]
            clear q3 q0
            go_wp2_with fail
            refine (own_dv2 B Q cb cq E V H1.out.a H1.out.p Hsm1.out).mono ?_
            rintro e w3 ⟨B2, cb2, Q2, cq2, rfl, hE3, hB2, hQ2⟩
            clear hc
            have Hq := Lib.hid (HD.out.ext hE3)
            clear HD
            have HD := Hq
            clear Hq
            have Hq := Lib.hid (HX.out.ext hE3)
            clear HX
            have HX := Hq
            clear Hq
            have Hq := Lib.hid (H1.out.ext hE3)
            clear H1
            have H1 := Hq
            clear Hq
            have Hq := Lib.hid (HE.out.trans hE3)
            clear HE
            have HE := Hq
            clear Hq
            go_wp2_with fail
            refine (flushAll_any B2 Q2 cb2 cq2 E w3 Hck1.out hB2 hQ2.ws Hsm1.out).mono ?_
            rintro e w4 ⟨B3, Q3, cb3, cq3, rfl, hE4, hB3⟩
            clear hE3 hB2 hQ2
            have Hq := Lib.hid (HD.out.ext hE4)
            clear HD
            have HD := Hq
            clear Hq
            have Hq := Lib.hid (HX.out.ext hE4)
            clear HX
            have HX := Hq
            clear Hq
            have Hq := Lib.hid (H1.out.ext hE4)
            clear H1
            have H1 := Hq
            clear Hq
            have Hq := Lib.hid (HE.out.trans hE4)
            clear HE
            have HE := Hq
            clear Hq
            obtain ⟨V4, hV4, hE5, hz5, k4⟩ := box1 w4 #[.slice B3 (pFl E.bytes E.pend).length cb3, .slice Q3 0 cq3] 25
            have H2 : Hid (DBx V4 w4.heap.size B3 Q3 cb3 cq3 ⟨pFl E.bytes E.pend, []⟩) := ⟨k4, hB3.ext hE5, Ws.nil _ _⟩
            have Hq := Lib.hid (HD.out.ext hE5)
            clear HD
            have HD := Hq
            clear Hq
            have Hq := Lib.hid (HX.out.ext hE5)
            clear HX
            have HX := Hq
            clear Hq
            have Hq := Lib.hid (H1.out.ext hE5)
            clear H1
            have H1 := Hq
            clear Hq
            have Hq := Lib.hid (HE.out.trans hE5)
            clear HE
            have HE := Hq
            clear Hq
            clear hE4 hE5 hz5 k4 hB3
            go_wp2_with fail
            clear hV4
            have HX1 := HX
            have H11 := H1
            have hS := Lib.hid (fun w' (h : Ext V4 w') => (⟨h, (H11.out.ext h).cells.1, (H11.out.ext h).cells.2, (HX1.out.ext h).cells.1⟩ : Ext V4 w' ∧ w'.cell? ⟨b6, 0, none⟩ = some (.slice B E.bytes.length cb) ∧ w'.cell? ⟨b6, 1, none⟩ = some (.slice Q E.pend.length cq) ∧ w'.cell? ⟨w.heap.size + 1, 0, none⟩ = some (.int .i64 x.blk)))
            refine wp_region_rel 9 (by kernel_rfl) (by kernel_rfl) (Ext.refl V4).drew ?_
            (apply relW_fix
             · intro vs w' hw hf
               have hc := hS.out w' hw
               unfold okAt
               go_simp
               first | exact ⟨rfl, Ext.refl _⟩ | exact rfl
             · intro vs; go_simp; rfl)
            (apply relW_any (SV.cd E)
             · intro vs w' hw hf
               have hc := hS.out w' hw
               skip
               unfold okAt
               go_simp
               refine ⟨Ext.refl _, ?_⟩; go_at_call 37; refine (own_dv2 B Q cb cq E w' (H11.out.a.ext hw) (H11.out.p.ext hw) Hsm1.out).mono ?_; rintro e w5 ⟨A', c', P', p', rfl, h1, h2, h3⟩; exact ⟨_, rfl, ⟨A', P', c', p', rfl, h2, h3⟩, h1⟩
             · intro vs; go_simp; rfl)
            (apply relW_fix
             · intro vs w' hw hf
               have hc := hS.out w' hw
               unfold okAt
               go_simp
               first | exact ⟨rfl, Ext.refl _⟩ | exact rfl
             · intro vs; go_simp; rfl)
            (apply relW_fix
             · intro vs w' hw hf
               have hc := hS.out w' hw
               unfold okAt
               go_simp
               first | exact ⟨rfl, Ext.refl _⟩ | exact rfl
             · intro vs; go_simp; rfl)
            (apply relW_any (SV.rb x.bs)
             · intro vs w' hw hf
               have hc := hS.out w' hw
               obtain ⟨Bx, Qx, cbx, cqx, e1, hB, hQ⟩ := hf.out.1 (by kernel_rfl)
               unfold okAt
               go_simp
               refine ⟨Ext.refl _, ?_⟩
               go_at_call 40
               rw [Hm.out]
               refine (readN_any Bx Qx cbx cqx E m x.bs w' (by rw [Hsee.out m Hmn.out, Hm.out, if_pos rfl]) Hck1.out (by rw [Hel.out]; exact Hmn.out) hB hQ.ws Hsm1.out).mono ?_
               rintro e w5 ⟨A', c', rfl, h1, h2⟩
               exact ⟨_, rfl, ⟨A', c', rfl, h2⟩, h1⟩
             · intro vs; go_simp; rfl)
            (apply relW_any (SV.rb x.bs)
             · intro vs w' hw hf
               have hc := hS.out w' hw
               obtain ⟨A', c', e6, h2⟩ := hf.out.1 (by kernel_rfl)
               unfold okAt
               go_simp
               exact ⟨⟨A', c', rfl, h2⟩, Ext.refl _⟩
             · intro vs; go_simp; rfl)
            (apply relW_any (SV.b1 x.bs)
             · intro vs w' hw hf
               have hc := hS.out w' hw
               obtain ⟨A', c', e6, h2⟩ := hf.out.1 (by kernel_rfl)
               unfold okAt
               go_simp
               exact ⟨⟨A', c', rfl, h2⟩, Ext.refl _⟩
             · intro vs; go_simp; rfl)
            (apply relW_any (SV.eq (.int .i64 0))
             · intro vs w' hw hf
               have hc := hS.out w' hw
               obtain ⟨A', c', e6, h2⟩ := hf.out.2.1 (by kernel_rfl)
               unfold okAt
               go_simp
               exact ⟨rfl, Ext.refl _⟩
             · intro vs; go_simp; rfl)
            (apply relW_any (SV.b1 x.bs)
             · intro vs w' hw hf
               have hc := hS.out w' hw
               obtain ⟨A', c', e6, h2⟩ := hf.out.2.1 (by kernel_rfl)
               unfold okAt
               go_simp
               exact ⟨⟨A', c', rfl, h2⟩, Ext.refl _⟩
             · intro vs; go_simp; rfl)
            refine relW_nil fun vs2 w5 hw hf => ?_
            obtain ⟨⟨R1, r1, ez8, hR1⟩, ez7, -⟩ := hf
            have ez7 : vs2 7 = .int .i64 0 := ez7
            clear hS HX H1
            have HD' := Lib.hid (HD.out.ext hw)
            have HX' := Lib.hid (HX1.out.ext hw)
            have H1' := Lib.hid (H11.out.ext hw)
            have H2' := Lib.hid (H2.out.ext hw)
            have Hq := Lib.hid (HE.out.trans hw)
            clear HE
            have HE := Hq
            clear Hq
            clear hw HD HX1 H11 H2
            have cv1 := conv_by hR1 r1
            have cv2 := conv_by HX'.out.a dx
            have hd := HX'.out.cells
            have hc := HD'.out.cells
            have ts := strB_toList
            have q0 : (D.bytes.length : Int).tdiv 32 = (D.bytes.length : Int) / 32 := Int.tdiv_eq_ediv_of_nonneg (by omega)
            have q3 : wrap64 ((D.bytes.length : Int) / 32) = (D.bytes.length : Int) / 32 := by have := Hsm.out.1; unfold wrap64; omega
            have q6 : wrap64 o = o := by have := Ho.out; unfold wrap64; omega
            have q5 : ¬ ((D.bytes.length : Int) / 32 = 0) := by have := Hnb.out; omega
            obtain ⟨n, hn⟩ : ∃ n : Nat, o.tmod ((D.bytes.length : Int) / 32) = n := ⟨(o % ((D.bytes.length : Int) / 32)).toNat, by
              have h0 := Ho.out
              rw [Int.tmod_eq_emod_of_nonneg h0.1]
              have := Int.emod_nonneg o q5
              omega⟩
            have Hn : Hid (n < D.bytes.length / 32) := by
              have h0 := Ho.out
              have h1 := Hnb.out
              rw [Int.tmod_eq_emod_of_nonneg h0.1] at hn
              have h2 := Int.emod_lt_of_pos o (show 0 < (D.bytes.length : Int) / 32 by omega)
              show _ < _
              omega
            have h1 := H1'.out.cells
            go_wp2_with fail
            refine (own_dv2 B Q cb cq E w5 H1'.out.a H1'.out.p Hsm1.out).mono ?_
            rintro e w6 ⟨B6, cb6, Q6, cq6, rfl, hE6, hB6, hQ6⟩
            clear hc hd h1 cv1 cv2 q0 q3 q5 q6 hn hR1
            have Hq := Lib.hid (HD'.out.ext hE6)
            clear HD'
            have HD' := Hq
            clear Hq
            have Hq := Lib.hid (HX'.out.ext hE6)
            clear HX'
            have HX' := Hq
            clear Hq
            have Hq := Lib.hid (H1'.out.ext hE6)
            clear H1'
            have H1' := Hq
            clear Hq
            have Hq := Lib.hid (H2'.out.ext hE6)
            clear H2'
            have H2' := Hq
            clear Hq
            have Hq := Lib.hid (HE.out.trans hE6)
            clear HE
            have HE := Hq
            clear Hq
            obtain ⟨Y, hY⟩ : ∃ Y, blkN (pFl E.bytes E.pend) n = Y := ⟨_, rfl⟩
            have HY := Lib.hid hY
            clear hE6 hY
            go_wp2_with fail
            refine (readN_any B6 Q6 cb6 cq6 E n Y w6 HY.out Hck1.out (by rw [Hel.out]; exact Hn.out) hB6 hQ6.ws Hsm1.out).mono ?_
            rintro e w7 ⟨R2, r2, rfl, hE7, hR2⟩
            have Hq := Lib.hid (HD'.out.ext hE7)
            clear HD'
            have HD' := Hq
            clear Hq
            have Hq := Lib.hid (HX'.out.ext hE7)
            clear HX'
            have HX' := Hq
            clear Hq
            have Hq := Lib.hid (H1'.out.ext hE7)
            clear H1'
            have H1' := Hq
            clear Hq
            have Hq := Lib.hid (H2'.out.ext hE7)
            clear H2'
            have H2' := Hq
            clear Hq
            have Hq := Lib.hid (HE.out.trans hE7)
            clear HE
            have HE := Hq
            clear Hq
            have HR2 := Lib.hid hR2
            clear hE7 hR2 hB6 hQ6
            have hc := HD'.out.cells
            go_wp2_with fail
            refine (own_dv2 A P c p D w7 HD'.out.a HD'.out.p Hsm.out).mono ?_
            rintro e w8 ⟨B8, cb8, Q8, cq8, rfl, hE8, hB8, hQ8⟩
            clear hc
            have Hq := Lib.hid (HD'.out.ext hE8)
            clear HD'
            have HD' := Hq
            clear Hq
            have Hq := Lib.hid (HX'.out.ext hE8)
            clear HX'
            have HX' := Hq
            clear Hq
            have Hq := Lib.hid (H1'.out.ext hE8)
            clear H1'
            have H1' := Hq
            clear Hq
            have Hq := Lib.hid (H2'.out.ext hE8)
            clear H2'
            have H2' := Hq
            clear Hq
            have Hq := Lib.hid (HR2.out.ext hE8)
            clear HR2
            have HR2 := Hq
            clear Hq
            have Hq := Lib.hid (HE.out.trans hE8)
            clear HE
            have HE := Hq
            clear Hq
            clear hE8
            obtain ⟨Z, hZ⟩ : ∃ Z, blkN (pFl D.bytes D.pend) n = Z := ⟨_, rfl⟩
            have HZ := Lib.hid hZ
            clear hZ
            go_wp2_with fail
            refine (readN_any B8 Q8 cb8 cq8 D n Z w8 HZ.out Hck.out Hn.out hB8 hQ8.ws Hsm.out).mono ?_
            rintro e w9 ⟨R3, r3, rfl, hE9, hR3⟩
            have Hq := Lib.hid (HD'.out.ext hE9)
            clear HD'
            have HD' := Hq
            clear Hq
            have Hq := Lib.hid (HX'.out.ext hE9)
            clear HX'
            have HX' := Hq
            clear Hq
            have Hq := Lib.hid (H1'.out.ext hE9)
            clear H1'
            have H1' := Hq
            clear Hq
            have Hq := Lib.hid (H2'.out.ext hE9)
            clear H2'
            have H2' := Hq
            clear Hq
            have Hq := Lib.hid (HR2.out.ext hE9)
            clear HR2
            have HR2 := Hq
            clear Hq
            have Hq := Lib.hid (HE.out.trans hE9)
            clear HE
            have HE := Hq
            clear Hq
            have HR3 := Lib.hid hR3
            clear hE9 hR3 hB8 hQ8
            have hc := H2'.out.cells
            simp only at hc
            go_wp2_with fail
            refine (readN_any B3 Q3 cb3 cq3 ⟨pFl E.bytes E.pend, []⟩ n Y w9 HY.out ?_ (by have := hl5.out; have := Hn.out; show n < (pFl E.bytes E.pend).length / 32; omega) H2'.out.a H2'.out.p ⟨by have := hl5.out; have := Hsm.out.1; show (pFl E.bytes E.pend).length ≤ _; omega, by simp, fun y hy => by cases hy⟩).mono ?_
            · have h1 := hl5.out
              have h2 := Hnb.out
              unfold pCheck
              simp only
              rw [if_neg (by omega), if_neg (by simp), if_pos (by simp)]
            rintro e w10 ⟨R4, r4, rfl, hE10, hR4⟩
            clear hc
            have Hq := Lib.hid (HD'.out.ext hE10)
            clear HD'
            have HD' := Hq
            clear Hq
            have Hq := Lib.hid (HX'.out.ext hE10)
            clear HX'
            have HX' := Hq
            clear Hq
            have Hq := Lib.hid (H1'.out.ext hE10)
            clear H1'
            have H1' := Hq
            clear Hq
            have Hq := Lib.hid (HR2.out.ext hE10)
            clear HR2
            have HR2 := Hq
            clear Hq
            have Hq := Lib.hid (HR3.out.ext hE10)
            clear HR3
            have HR3 := Hq
            clear Hq
            have Hq := Lib.hid (HE.out.trans hE10)
            clear HE
            have HE := Hq
            clear Hq
            clear hE10
            have cv2 := conv_by HR2.out r2
            have cv3 := conv_by HR3.out r3
            have cv4 := conv_by hR4 r4
            have hd := HX'.out.cells
            clear hR4
            by_cases h : (n : Int) = x.blk
            · have tz1 : ((n : Int) != x.blk) = false := by rw [h]; simp
              clear h
              go_wp2_with fail
              clear cv2 cv3 cv4 hd tz1 HR2 HR3
              obtain ⟨L, hL⟩ : ∃ L, pDifL D E = L := ⟨_, rfl⟩
              have HL := Lib.hid hL
              clear hL
              have hS := Lib.hid (fun w' (h : Ext w10 w') => (⟨h, (HD'.out.ext h).cells.1, (HD'.out.ext h).cells.2, (H1'.out.ext h).cells.1, (H1'.out.ext h).cells.2⟩ : Ext w10 w' ∧ w'.cell? ⟨w.heap.size, 0, none⟩ = some (.slice A D.bytes.length c) ∧ w'.cell? ⟨w.heap.size, 1, none⟩ = some (.slice P D.pend.length p) ∧ w'.cell? ⟨b6, 0, none⟩ = some (.slice B E.bytes.length cb) ∧ w'.cell? ⟨b6, 1, none⟩ = some (.slice Q E.pend.length cq)))
              refine wp_region_rel 9 (by kernel_rfl) (by kernel_rfl) (Ext.refl w10).drew ?_
              (apply relW_fix
               · intro vs w' hw hf
                 have hc := hS.out w' hw
                 unfold okAt
                 go_simp
                 first | exact ⟨rfl, Ext.refl _⟩ | exact rfl
               · intro vs; go_simp; rfl)
              (apply relW_any (SV.cd D)
               · intro vs w' hw hf
                 have hc := hS.out w' hw
                 skip
                 unfold okAt
                 go_simp
                 refine ⟨Ext.refl _, ?_⟩; go_at_call 37; refine (own_dv2 A P c p D w' (HD'.out.a.ext hw) (HD'.out.p.ext hw) Hsm.out).mono ?_; rintro e w5 ⟨A', c', P', p', rfl, h1, h2, h3⟩; exact ⟨_, rfl, ⟨A', P', c', p', rfl, h2, h3⟩, h1⟩
               · intro vs; go_simp; rfl)
              (apply relW_fix
               · intro vs w' hw hf
                 have hc := hS.out w' hw
                 unfold okAt
                 go_simp
                 first | exact ⟨rfl, Ext.refl _⟩ | exact rfl
               · intro vs; go_simp; rfl)
              (apply relW_any (SV.cd E)
               · intro vs w' hw hf
                 have hc := hS.out w' hw
                 skip
                 unfold okAt
                 go_simp
                 refine ⟨Ext.refl _, ?_⟩; go_at_call 37; refine (own_dv2 B Q cb cq E w' (H1'.out.a.ext hw) (H1'.out.p.ext hw) Hsm1.out).mono ?_; rintro e w5 ⟨A', c', P', p', rfl, h1, h2, h3⟩; exact ⟨_, rfl, ⟨A', P', c', p', rfl, h2, h3⟩, h1⟩
               · intro vs; go_simp; rfl)
              (apply relW_any (SV.rl L.length (L.map fun n : Nat => (n : Int)))
               · intro vs w' hw hf
                 have hc := hS.out w' hw
                 obtain ⟨Bx, Qx, cbx, cqx, e1, hB, hQ⟩ := hf.out.1 (by kernel_rfl)
                 obtain ⟨By', Qy, cby, cqy, e2, hBy, hQy⟩ := hf.out.2.1 (by kernel_rfl)
                 unfold okAt
                 go_simp
                 refine ⟨Ext.refl _, ?_⟩
                 go_at_call 49
                 refine (dDiffer_any By' Qy Bx Qx cby cqy cbx cqx D E w' hBy hQy.ws hB hQ.ws Hsm.out Hsm1.out).mono ?_
                 rw [Hdif.out.1, HL.out]
                 rintro e w5 ⟨A', c', rfl, h1, h2⟩
                 exact ⟨_, rfl, ⟨A', c', rfl, h2⟩, h1⟩
               · intro vs; go_simp; rfl)
              (apply relW_any (SV.rl L.length (L.map fun n : Nat => (n : Int)))
               · intro vs w' hw hf
                 have hc := hS.out w' hw
                 obtain ⟨A', c', e6, h2⟩ := hf.out.1 (by kernel_rfl)
                 unfold okAt
                 go_simp
                 exact ⟨⟨A', c', rfl, h2⟩, Ext.refl _⟩
               · intro vs; go_simp; rfl)
              (apply relW_any (SV.l1 L.length (L.map fun n : Nat => (n : Int)))
               · intro vs w' hw hf
                 have hc := hS.out w' hw
                 obtain ⟨A', c', e6, h2⟩ := hf.out.1 (by kernel_rfl)
                 unfold okAt
                 go_simp
                 exact ⟨⟨A', c', rfl, h2⟩, Ext.refl _⟩
               · intro vs; go_simp; rfl)
              (apply relW_any (SV.eq (.int .i64 0))
               · intro vs w' hw hf
                 have hc := hS.out w' hw
                 obtain ⟨A', c', e6, h2⟩ := hf.out.2.1 (by kernel_rfl)
                 unfold okAt
                 go_simp
                 exact ⟨rfl, Ext.refl _⟩
               · intro vs; go_simp; rfl)
              (apply relW_any (SV.l1 L.length (L.map fun n : Nat => (n : Int)))
               · intro vs w' hw hf
                 have hc := hS.out w' hw
                 obtain ⟨A', c', e6, h2⟩ := hf.out.2.1 (by kernel_rfl)
                 unfold okAt
                 go_simp
                 exact ⟨⟨A', c', rfl, h2⟩, Ext.refl _⟩
               · intro vs; go_simp; rfl)
              refine relW_nil fun vs3 w11 hw hf => ?_
              obtain ⟨⟨LA, lc, ey8, hLA⟩, ey7, -⟩ := hf
              have ey7 : vs3 7 = .int .i64 0 := ey7
              clear hS
              have Hq := Lib.hid (HE.out.trans hw)
              clear HE
              have HE := Hq
              clear Hq
              have HX2 := Lib.hid (HX'.out.ext hw)
              clear hw
              have hLd : L = [] ∨ L = [m] := by
                have := Hdif.out.2
                rw [HL.out] at this
                exact this
              clear HX' H1' HD'
              rcases hLd with hLe | hLe
              · have tL : L.length = 0 := by rw [hLe]; rfl
                rw [tL] at ey8
                clear hLe hLA tL
                go_wp2_with fail
                have hS := Lib.hid (fun w' (h : Ext w11 w') => (⟨h, trivial⟩ : Ext w11 w' ∧ True))
                refine wp_region_rel 17 (by kernel_rfl) (by kernel_rfl) (Ext.refl w11).drew ?_
                repeat (apply relW_fix
                        · intro vs w' hw hf
                          have hc := hS.out w' hw
                          unfold okAt
                          go_simp
                          first | exact ⟨rfl, Ext.refl _⟩ | exact rfl
                        · intro vs; go_simp; rfl)
                refine relW_nil fun vs4 w12 hw hf => ?_
                have Hq := Lib.hid (HE.out.trans hw)
                clear HE
                have HE := Hq
                clear Hq
                clear hw hS
                go_wp2_with fail
                refine (awake_any _).mono ?_
                rintro e w4 ⟨rfl, hE6⟩
                have HE' := Lib.hid (HE.out.trans hE6)
                clear hE6
                go_wp2_with fail
                go_ret
                exact ⟨rfl, HE'.out⟩
              · have tL : L.length = 1 := by rw [hLe]; rfl
                rw [tL] at ey8
                rw [hLe] at hLA
                obtain ⟨lb, lo, rfl, l1⟩ := hLA.at (j := 0) (by simp)
                have l1 : w11.cell? ⟨lb, lo, none⟩ = some (.int .i64 (m : Int)) := l1
                have tm : ((m : Int) != x.blk) = false := by rw [Hm.out]; simp
                clear hLe hLA tL
                go_wp2_with fail
                have hS := Lib.hid (fun w' (h : Ext w11 w') => (⟨h, cellExt h l1, (HX2.out.ext h).cells.1⟩ : Ext w11 w' ∧ w'.cell? ⟨lb, lo, none⟩ = some (.int .i64 (m : Int)) ∧ w'.cell? ⟨w.heap.size + 1, 0, none⟩ = some (.int .i64 x.blk)))
                refine wp_region_rel 17 (by kernel_rfl) (by kernel_rfl) (Ext.refl w11).drew ?_
                repeat (apply relW_fix
                        · intro vs w' hw hf
                          have hc := hS.out w' hw
                          unfold okAt
                          go_simp
                          first | exact ⟨rfl, Ext.refl _⟩ | exact rfl
                        · intro vs; go_simp; rfl)
                refine relW_nil fun vs4 w12 hw hf => ?_
                have Hq := Lib.hid (HE.out.trans hw)
                clear HE
                have HE := Hq
                clear Hq
                clear hw hS l1
                go_wp2_with fail
                refine (awake_any _).mono ?_
                rintro e w4 ⟨rfl, hE6⟩
                have HE' := Lib.hid (HE.out.trans hE6)
                clear hE6
                go_wp2_with fail
                go_ret
                exact ⟨rfl, HE'.out⟩
            · have tz1 : ((n : Int) != x.blk) = true := by simpa using h
              obtain rfl : Y = Z := by
                have := Hsee.out n Hn.out
                rw [if_neg h, HY.out, HZ.out] at this
                exact this
              clear h
              go_wp2_with fail
              clear cv2 cv3 cv4 hd tz1 HR2 HR3
              obtain ⟨L, hL⟩ : ∃ L, pDifL D E = L := ⟨_, rfl⟩
              have HL := Lib.hid hL
              clear hL
              have hS := Lib.hid (fun w' (h : Ext w10 w') => (⟨h, (HD'.out.ext h).cells.1, (HD'.out.ext h).cells.2, (H1'.out.ext h).cells.1, (H1'.out.ext h).cells.2⟩ : Ext w10 w' ∧ w'.cell? ⟨w.heap.size, 0, none⟩ = some (.slice A D.bytes.length c) ∧ w'.cell? ⟨w.heap.size, 1, none⟩ = some (.slice P D.pend.length p) ∧ w'.cell? ⟨b6, 0, none⟩ = some (.slice B E.bytes.length cb) ∧ w'.cell? ⟨b6, 1, none⟩ = some (.slice Q E.pend.length cq)))
              refine wp_region_rel 9 (by kernel_rfl) (by kernel_rfl) (Ext.refl w10).drew ?_
              (apply relW_fix
               · intro vs w' hw hf
                 have hc := hS.out w' hw
                 unfold okAt
                 go_simp
                 first | exact ⟨rfl, Ext.refl _⟩ | exact rfl
               · intro vs; go_simp; rfl)
              (apply relW_any (SV.cd D)
               · intro vs w' hw hf
                 have hc := hS.out w' hw
                 skip
                 unfold okAt
                 go_simp
                 refine ⟨Ext.refl _, ?_⟩; go_at_call 37; refine (own_dv2 A P c p D w' (HD'.out.a.ext hw) (HD'.out.p.ext hw) Hsm.out).mono ?_; rintro e w5 ⟨A', c', P', p', rfl, h1, h2, h3⟩; exact ⟨_, rfl, ⟨A', P', c', p', rfl, h2, h3⟩, h1⟩
               · intro vs; go_simp; rfl)
              (apply relW_fix
               · intro vs w' hw hf
                 have hc := hS.out w' hw
                 unfold okAt
                 go_simp
                 first | exact ⟨rfl, Ext.refl _⟩ | exact rfl
               · intro vs; go_simp; rfl)
              (apply relW_any (SV.cd E)
               · intro vs w' hw hf
                 have hc := hS.out w' hw
                 skip
                 unfold okAt
                 go_simp
                 refine ⟨Ext.refl _, ?_⟩; go_at_call 37; refine (own_dv2 B Q cb cq E w' (H1'.out.a.ext hw) (H1'.out.p.ext hw) Hsm1.out).mono ?_; rintro e w5 ⟨A', c', P', p', rfl, h1, h2, h3⟩; exact ⟨_, rfl, ⟨A', P', c', p', rfl, h2, h3⟩, h1⟩
               · intro vs; go_simp; rfl)
              (apply relW_any (SV.rl L.length (L.map fun n : Nat => (n : Int)))
               · intro vs w' hw hf
                 have hc := hS.out w' hw
                 obtain ⟨Bx, Qx, cbx, cqx, e1, hB, hQ⟩ := hf.out.1 (by kernel_rfl)
                 obtain ⟨By', Qy, cby, cqy, e2, hBy, hQy⟩ := hf.out.2.1 (by kernel_rfl)
                 unfold okAt
                 go_simp
                 refine ⟨Ext.refl _, ?_⟩
                 go_at_call 49
                 refine (dDiffer_any By' Qy Bx Qx cby cqy cbx cqx D E w' hBy hQy.ws hB hQ.ws Hsm.out Hsm1.out).mono ?_
                 rw [Hdif.out.1, HL.out]
                 rintro e w5 ⟨A', c', rfl, h1, h2⟩
                 exact ⟨_, rfl, ⟨A', c', rfl, h2⟩, h1⟩
               · intro vs; go_simp; rfl)
              (apply relW_any (SV.rl L.length (L.map fun n : Nat => (n : Int)))
               · intro vs w' hw hf
                 have hc := hS.out w' hw
                 obtain ⟨A', c', e6, h2⟩ := hf.out.1 (by kernel_rfl)
                 unfold okAt
                 go_simp
                 exact ⟨⟨A', c', rfl, h2⟩, Ext.refl _⟩
               · intro vs; go_simp; rfl)
              (apply relW_any (SV.l1 L.length (L.map fun n : Nat => (n : Int)))
               · intro vs w' hw hf
                 have hc := hS.out w' hw
                 obtain ⟨A', c', e6, h2⟩ := hf.out.1 (by kernel_rfl)
                 unfold okAt
                 go_simp
                 exact ⟨⟨A', c', rfl, h2⟩, Ext.refl _⟩
               · intro vs; go_simp; rfl)
              (apply relW_any (SV.eq (.int .i64 0))
               · intro vs w' hw hf
                 have hc := hS.out w' hw
                 obtain ⟨A', c', e6, h2⟩ := hf.out.2.1 (by kernel_rfl)
                 unfold okAt
                 go_simp
                 exact ⟨rfl, Ext.refl _⟩
               · intro vs; go_simp; rfl)
              (apply relW_any (SV.l1 L.length (L.map fun n : Nat => (n : Int)))
               · intro vs w' hw hf
                 have hc := hS.out w' hw
                 obtain ⟨A', c', e6, h2⟩ := hf.out.2.1 (by kernel_rfl)
                 unfold okAt
                 go_simp
                 exact ⟨⟨A', c', rfl, h2⟩, Ext.refl _⟩
               · intro vs; go_simp; rfl)
              refine relW_nil fun vs3 w11 hw hf => ?_
              obtain ⟨⟨LA, lc, ey8, hLA⟩, ey7, -⟩ := hf
              have ey7 : vs3 7 = .int .i64 0 := ey7
              clear hS
              have Hq := Lib.hid (HE.out.trans hw)
              clear HE
              have HE := Hq
              clear Hq
              have HX2 := Lib.hid (HX'.out.ext hw)
              clear hw
              have hLd : L = [] ∨ L = [m] := by
                have := Hdif.out.2
                rw [HL.out] at this
                exact this
              clear HX' H1' HD'
              rcases hLd with hLe | hLe
              · have tL : L.length = 0 := by rw [hLe]; rfl
                rw [tL] at ey8
                clear hLe hLA tL
                go_wp2_with fail
                have hS := Lib.hid (fun w' (h : Ext w11 w') => (⟨h, trivial⟩ : Ext w11 w' ∧ True))
                refine wp_region_rel 17 (by kernel_rfl) (by kernel_rfl) (Ext.refl w11).drew ?_
                repeat (apply relW_fix
                        · intro vs w' hw hf
                          have hc := hS.out w' hw
                          unfold okAt
                          go_simp
                          first | exact ⟨rfl, Ext.refl _⟩ | exact rfl
                        · intro vs; go_simp; rfl)
                refine relW_nil fun vs4 w12 hw hf => ?_
                have Hq := Lib.hid (HE.out.trans hw)
                clear HE
                have HE := Hq
                clear Hq
                clear hw hS
                go_wp2_with fail
                refine (awake_any _).mono ?_
                rintro e w4 ⟨rfl, hE6⟩
                have HE' := Lib.hid (HE.out.trans hE6)
                clear hE6
                go_wp2_with fail
                go_ret
                exact ⟨rfl, HE'.out⟩
              · have tL : L.length = 1 := by rw [hLe]; rfl
                rw [tL] at ey8
                rw [hLe] at hLA
                obtain ⟨lb, lo, rfl, l1⟩ := hLA.at (j := 0) (by simp)
                have l1 : w11.cell? ⟨lb, lo, none⟩ = some (.int .i64 (m : Int)) := l1
                have tm : ((m : Int) != x.blk) = false := by rw [Hm.out]; simp
                clear hLe hLA tL
                go_wp2_with fail
                have hS := Lib.hid (fun w' (h : Ext w11 w') => (⟨h, cellExt h l1, (HX2.out.ext h).cells.1⟩ : Ext w11 w' ∧ w'.cell? ⟨lb, lo, none⟩ = some (.int .i64 (m : Int)) ∧ w'.cell? ⟨w.heap.size + 1, 0, none⟩ = some (.int .i64 x.blk)))
                refine wp_region_rel 17 (by kernel_rfl) (by kernel_rfl) (Ext.refl w11).drew ?_
                repeat (apply relW_fix
                        · intro vs w' hw hf
                          have hc := hS.out w' hw
                          unfold okAt
                          go_simp
                          first | exact ⟨rfl, Ext.refl _⟩ | exact rfl
                        · intro vs; go_simp; rfl)
                refine relW_nil fun vs4 w12 hw hf => ?_
                have Hq := Lib.hid (HE.out.trans hw)
                clear HE
                have HE := Hq
                clear Hq
                clear hw hS l1
                go_wp2_with fail
                refine (awake_any _).mono ?_
                rintro e w4 ⟨rfl, hE6⟩
                have HE' := Lib.hid (HE.out.trans hE6)
                clear hE6
                go_wp2_with fail
                go_ret
                exact ⟨rfl, HE'.out⟩
    · have t1 : ((x.bs.length : Int) != 32) = true := by rw [bne_iff_ne]; omega
      clear h1
      go_wp2_with fail
      refine (awake_any _).mono ?_
      rintro e w4 ⟨rfl, hE6⟩
      have HE' := Lib.hid (HE.out.trans hE6)
      clear hE6
      go_wp2_with fail
      go_ret
      exact ⟨rfl, HE'.out⟩
  · rw [show pRight D = false by simpa using ht]
    clear ht
    go_wp2_with fail
    refine (awake_any _).mono ?_
    rintro e w4 ⟨rfl, hE6⟩
    have HE' := Lib.hid (HE.out.trans hE6)
    clear hE6
    go_wp2_with fail
    go_ret
    exact ⟨rfl, HE'.out⟩
end Go.Proofs.Ytdlalmbnkcadfaa
