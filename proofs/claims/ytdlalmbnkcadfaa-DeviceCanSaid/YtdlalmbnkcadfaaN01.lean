/- reference: Blocks, IsWrite, Check. -/
import Derived.Test.YtdlalmbnkcadfaaM24
import Derived.Test.YtdlalmbnkcadfaaM07
import Derived.Test.YtdlalmbnkcadfaaM08
import Derived.Test.YtdlalmbnkcadfaaM18
namespace Go.Proofs.Ytdlalmbnkcadfaa
open Go.RowKit

set_option maxRecDepth 100000 in
set_option maxHeartbeats 1000000 in
theorem rBlocks_any (A P : Option Addr) (n c m d : Nat) (w : World) (hn : n ≤ 1000000) :
    Calls Try.prog 66 #[.agg #[.slice A n c, .slice P m d]] w fun e w' => e = .returned (.int .i64 ((n / 32 : Nat) : Int)) ∧ Ext w w' := by
  go_enter Try.func66, Try.ntmps66
  go_wp2
  go_ret
  exact ⟨ret_int (by go_num), (Ext.refl w).alloc _⟩

theorem eq32 (k : Nat) : ((k : Int) == 32) = decide (k = 32) := by
  by_cases hk : k = 32
  · simp [hk]
  · rw [decide_eq_false hk]; simp; omega
theorem okWr_eq (nb : Nat) (x : Wr) : okWr nb x = decide (0 ≤ x.blk ∧ x.blk < (nb : Int) ∧ x.bs.length = 32) := by
  unfold okWr outB
  rw [Bool.eq_iff_iff]
  simp
  omega
set_option maxRecDepth 100000 in
set_option maxHeartbeats 2000000 in
theorem rIsWrite_any (A P B : Option Addr) (n c m d k b : Nat) (x : Int) (w : World) (hn : n ≤ 1000000) :
    Calls Try.prog 69 #[.agg #[.slice A n c, .slice P m d], .agg #[.int .i64 x, .slice B k b]] w fun e w' => e = .returned (.bool (decide (0 ≤ x ∧ x < ((n / 32 : Nat) : Int) ∧ k = 32))) ∧ Ext w w' := by
  obtain ⟨W, hW, hE, k0, k1, k2⟩ := box2 w #[.slice A n c, .slice P m d] #[.int .i64 x, .slice B k b] 25 49
  have HE := Lib.hid hE
  have hS := Lib.hid (fun w' (h : Ext W w') => (⟨h, (k1.ext h).cell 0, (k1.ext h).cell 1, (k2.ext h).cell 0, (k2.ext h).cell 1⟩ : Ext W w' ∧ w'.cell? ⟨w.heap.size, 0, none⟩ = some (.slice A n c) ∧ w'.cell? ⟨w.heap.size, 1, none⟩ = some (.slice P m d) ∧ w'.cell? ⟨w.heap.size + 1, 0, none⟩ = some (.int .i64 x) ∧ w'.cell? ⟨w.heap.size + 1, 1, none⟩ = some (.slice B k b)))
  have HN := Lib.hid hn
  clear hE k0 k1 k2 hn
  by_cases h1 : 0 ≤ x
  · have t1 : decide (x ≥ 0) = true := by simpa using h1
    by_cases h2 : x < (n : Int) / 32
    · have t2 : decide (x < (n : Int) / 32) = true := by simpa using h2
      have H1 := Lib.hid h1
      have H2 := Lib.hid h2
      clear h1 h2
      go_enter Try.func69, Try.ntmps69
      go_wp2_with fail
      clear hW
      refine wp_region_rel 8 (by kernel_rfl) (by kernel_rfl) (Ext.refl W).drew ?_
      repeat (apply relW_fix
              · intro vs w' hw hf
                have hc := hS.out w' hw
                unfold okAt
                go_simp
                first | exact ⟨rfl, Ext.refl _⟩ | exact rfl
              · intro vs; go_simp; rfl)
      (apply relW_fix
       · intro vs w' hw hf
         have hc := hS.out w' hw
         skip
         unfold okAt
         go_simp
         refine ⟨Ext.refl _, ?_⟩
         go_at_call 66
         refine (rBlocks_any A P n c m d w' HN.out).mono ?_; rintro e w2 ⟨rfl, hb⟩; exact ⟨_, rfl, rfl, hb⟩
       · intro vs; go_simp; rfl)
      refine relW_nil fun vs w' hw hf => ?_
      have hc := hS.out w' hw
      have HE2 := Lib.hid (HE.out.trans hw)
      clear hw hS hf
      go_wp2
      go_ret
      exact ⟨ret_bool (by have a := H1.out; have b := H2.out; rw [eq32 k]; congr 1; exact propext ⟨fun q => ⟨a, by omega, q⟩, fun q => q.2.2⟩), HE2.out⟩
    · have t2 : decide (x < (n : Int) / 32) = false := by simpa using h2
      have H2 := Lib.hid h2
      clear h1 h2
      go_enter Try.func69, Try.ntmps69
      go_wp2_with fail
      clear hW
      refine wp_region_rel 8 (by kernel_rfl) (by kernel_rfl) (Ext.refl W).drew ?_
      repeat (apply relW_fix
              · intro vs w' hw hf
                have hc := hS.out w' hw
                unfold okAt
                go_simp
                first | exact ⟨rfl, Ext.refl _⟩ | exact rfl
              · intro vs; go_simp; rfl)
      (apply relW_fix
       · intro vs w' hw hf
         have hc := hS.out w' hw
         skip
         unfold okAt
         go_simp
         refine ⟨Ext.refl _, ?_⟩
         go_at_call 66
         refine (rBlocks_any A P n c m d w' HN.out).mono ?_; rintro e w2 ⟨rfl, hb⟩; exact ⟨_, rfl, rfl, hb⟩
       · intro vs; go_simp; rfl)
      refine relW_nil fun vs w' hw hf => ?_
      have hc := hS.out w' hw
      have HE2 := Lib.hid (HE.out.trans hw)
      clear hw hS hf
      go_wp2
      go_ret
      exact ⟨ret_bool (by rw [eq_comm, decide_eq_false_iff_not]; intro h; have a := H2.out; have := h.2.1; omega), HE2.out⟩
  · have t1 : decide (x ≥ 0) = false := by simpa using h1
    have H1 := Lib.hid h1
    clear h1
    go_enter Try.func69, Try.ntmps69
    go_wp2_with fail
    clear hW
    refine wp_region_rel 8 (by kernel_rfl) (by kernel_rfl) (Ext.refl W).drew ?_
    repeat (apply relW_fix
            · intro vs w' hw hf
              have hc := hS.out w' hw
              unfold okAt
              go_simp
              first | exact ⟨rfl, Ext.refl _⟩ | exact rfl
            · intro vs; go_simp; rfl)
    refine relW_nil fun vs w' hw hf => ?_
    have hc := hS.out w' hw
    have HE2 := Lib.hid (HE.out.trans hw)
    clear hw hS hf
    go_wp2
    go_ret
    exact ⟨ret_bool (by rw [eq_comm, decide_eq_false_iff_not]; intro h; have a := H1.out; have := h.1; omega), HE2.out⟩
end Go.Proofs.Ytdlalmbnkcadfaa
/- reference: Check. -/
namespace Go.Proofs.Ytdlalmbnkcadfaa
open Go.RowKit

set_option maxRecDepth 100000 in
set_option maxHeartbeats 2000000 in
theorem rCheck_any (A P : Option Addr) (c p : Nat) (D : Dk) (w : World) (hP : Ws w P D.pend) (hsm : Small D) :
    Calls Try.prog 42 #[.agg #[.slice A D.bytes.length c, .slice P D.pend.length p]] w fun e w' => e = .returned (.int .i64 (pCheck D)) ∧ Ext w w' := by
  obtain ⟨n, hn⟩ : ∃ n, n = D.bytes.length := ⟨_, rfl⟩
  rw [← hn]
  obtain ⟨W, hW, hE, hz, k0⟩ := box1 w #[.slice A n c, .slice P D.pend.length p] 25
  have HP := Lib.hid (hP.ext hE)
  have HE := Lib.hid hE
  have Hsm := Lib.hid hsm
  have HK := Lib.hid k0
  have HN := Lib.hid hn
  have d0 := k0.cell 0
  have d1 := k0.cell 1
  simp at d0 d1
  clear hE hP hsm k0 hn
  by_cases h0 : n = 0
  · have hr : Hid (pCheck D = 4) := by show _ = _; have := HN.out; unfold pCheck; rw [if_pos (by omega)]
    have t0 : ((n : Int) == 0) = true := by simp [h0]
    clear h0
    go_enter Try.func42, Try.ntmps42
    go_wp2_with fail
    go_ret
    exact ⟨ret_int hr.out.symm, HE.out⟩
  · have t0 : ((n : Int) == 0) = false := by simp [h0]
    have H0 := Lib.hid h0
    clear h0
    by_cases h1 : (n : Int) % 32 = 0
    · go_enter Try.func42, Try.ntmps42
      go_wp2_with fail
      refine (rBlocks_any A P n c _ p W (by have := HN.out; have := Hsm.out.1; omega)).mono ?_
      rintro e w1 ⟨rfl, hE1⟩
      have K1 := HK.out.ext hE1
      have HP1 := Lib.hid (HP.out.ext hE1)
      have HE1 := Lib.hid (HE.out.trans hE1)
      have HK1 := Lib.hid K1
      have d0 := K1.cell 0
      have d1 := K1.cell 1
      simp at d0 d1
      clear hE1 K1 HP HE HK
      by_cases h2 : (256 : Int) < (n : Int) / 32
      · have hr : Hid (pCheck D = 4) := by show _ = _; have := HN.out; unfold pCheck; rw [if_pos (by omega)]
        have t2 : decide ((256 : Int) < (n : Int) / 32) = true := by simpa using h2
        clear h2
        go_wp2
        go_ret
        exact ⟨ret_int hr.out.symm, HE1.out⟩
      · have hq : Hid (¬ (D.bytes.length % 32 ≠ 0 ∨ D.bytes.length / 32 < 1 ∨ 256 < D.bytes.length / 32)) := by show ¬ _; have := HN.out; have := H0.out; omega
        have t2 : decide ((256 : Int) < (n : Int) / 32) = false := by simpa using h2
        clear h2 h1
        by_cases h3 : (64 : Int) < (D.pend.length : Int)
        · have hr : Hid (pCheck D = 5) := by show _ = _; unfold pCheck; rw [if_neg hq.out, if_pos (by omega)]
          go_wp2
          go_ret
          exact ⟨ret_int hr.out.symm, HE1.out⟩
        · have hr : Hid (pCheck D = if D.pend.all (okWr (D.bytes.length / 32)) = true then 0 else 2) := by show _ = _; unfold pCheck; rw [if_neg hq.out, if_neg (by omega)]
          have hN6 : n ≤ 1000000 := by have := HN.out; have := Hsm.out.1; omega
          have HN6 := Lib.hid hN6
          clear hN6
          go_wp2_with fail
          clear d0 d1 hW t0 t2
          go_loopw [3] (fun vi wr => ∃ k : Nat, k ≤ D.pend.length ∧ vi = .int .i64 k ∧ Ext w1 wr ∧ Hid ((D.pend.take k).all (okWr (D.bytes.length / 32)) = true)) (fun vi _ => D.pend.length - (intOf vi).toNat)
          case atStart => exact ⟨0, Nat.zero_le _, rfl, Ext.refl _, rfl⟩
          case round =>
            obtain ⟨k, hk, rfl, hE, Hall⟩ := hrel
            have K2 := HK1.out.ext hE
            have f0 := K2.cell 0
            have f1 := K2.cell 1
            simp at f0 f1
            have HEr := Lib.hid (HE1.out.trans hE)
            have HEk := Lib.hid hE
            by_cases hlt : k < D.pend.length
            · obtain ⟨b, o, B1, c1, rfl, e1, e2, e3, e4⟩ := HP1.out k D.pend[k] (List.getElem?_eq_getElem hlt)
              have g1 := cellExt hE e1
              have g2 := cellExt hE e2
              have hS := Lib.hid (fun w' (h : Ext wr w') => (⟨h, (K2.ext h).cell 0, (K2.ext h).cell 1, cellExt h g1, cellExt h g2⟩ : Ext wr w' ∧ w'.cell? ⟨w.heap.size, 0, none⟩ = some (.slice A n c) ∧ w'.cell? ⟨w.heap.size, 1, none⟩ = some (.slice (some ⟨b, o, none⟩) D.pend.length p) ∧ w'.cell? ⟨b, o + k * 2, none⟩ = some (.int .i64 D.pend[k].blk) ∧ w'.cell? ⟨b, o + k * 2 + 1, none⟩ = some (.slice B1 D.pend[k].bs.length c1)))
              clear e1 e2 e3 e4 g1 g2 K2 hE
              go_wp2_with fail
              refine wp_region_rel 6 (by kernel_rfl) (by kernel_rfl) (Ext.refl wr).drew ?_
              repeat (apply relW_fix
                      · intro vs w' hw hf
                        have hc := hS.out w' hw
                        unfold okAt
                        go_simp
                        first | exact ⟨rfl, Ext.refl _⟩ | exact rfl
                      · intro vs; go_simp; rfl)
              refine relW_nil fun vs w2 hw hf => ?_
              have HE2 := Lib.hid (HEk.out.trans hw)
              clear hf hw hS
              go_wp2_with fail
              refine (rIsWrite_any _ _ _ n c _ p _ _ _ w2 HN6.out).mono ?_
              rintro e w3 ⟨rfl, hE3⟩
              have HE3 := Lib.hid (HE2.out.trans hE3)
              have HE3' := Lib.hid (HE1.out.trans HE3.out)
              clear hE3 HE2
              by_cases hw : okWr (D.bytes.length / 32) D.pend[k] = true
              · have t5 : decide (0 ≤ D.pend[k].blk ∧ D.pend[k].blk < ((n / 32 : Nat) : Int) ∧ D.pend[k].bs.length = 32) = true := by rw [HN.out, ← okWr_eq]; exact hw
                rw [t5]
                have Ha : Hid ((D.pend.take (k + 1)).all (okWr (D.bytes.length / 32)) = true) := by
                  show _ = _
                  rw [List.take_succ_eq_append_getElem hlt, List.all_append, Hall.out]
                  simp [hw]
                clear t5 hw f0 f1
                go_wp2
                go_roundw
                case rel => exact ⟨k + 1, by omega, by go_num, HE3.out, Ha⟩
                case measure => simp [intOf]; omega
              · have t5 : decide (0 ≤ D.pend[k].blk ∧ D.pend[k].blk < ((n / 32 : Nat) : Int) ∧ D.pend[k].bs.length = 32) = false := by rw [HN.out, ← okWr_eq]; simpa using hw
                rw [t5]
                have Ha : Hid (pCheck D = 2) := by
                  show _ = _
                  rw [hr.out, if_neg]
                  intro h
                  rw [List.all_eq_true] at h
                  exact hw (h _ (List.getElem_mem hlt))
                clear t5 hw f0 f1
                go_wp2
                go_ret
                exact ⟨ret_int Ha.out.symm, HE3'.out⟩
            · obtain rfl : k = D.pend.length := by omega
              have Ha : Hid (pCheck D = 0) := by
                have h := Hall.out
                rw [List.take_length] at h
                show _ = _
                rw [hr.out, if_pos h]
              clear hE K2
              go_wp2
              go_ret
              exact ⟨ret_int Ha.out.symm, HEr.out⟩
    · have hr : Hid (pCheck D = 4) := by show _ = _; have := HN.out; unfold pCheck; rw [if_pos (by omega)]
      go_enter Try.func42, Try.ntmps42
      go_wp2_with fail
      go_ret
      exact ⟨ret_int hr.out.symm, HE.out⟩
end Go.Proofs.Ytdlalmbnkcadfaa
/- reference: There. -/
namespace Go.Proofs.Ytdlalmbnkcadfaa
open Go.RowKit

theorem gset (w : World) (p : Addr) (u : Value) : w.grownBy (w.setCell p u) (some p.block) :=
  ⟨rfl, rfl, rfl, by simp [World.setCell], fun k _ hne => Below.heap_setCell w p u k (fun e => hne (by rw [e]))⟩
theorem gtrans {a b c : World} {row : Option Nat} (h : a.grownBy b row) (k : b.grownBy c row) : a.grownBy c row :=
  ⟨k.os.trans h.os, k.tape.trans h.tape, k.output.trans h.output, Nat.le_trans h.size k.size, fun i hi hne => (k.block i (Nat.lt_of_lt_of_le hi h.size) hne).trans (h.block i hi hne)⟩
theorem put1_succ (bytes bs : BL) (blk k : Nat) (hk : k < bs.length) (hl : blk * 32 + k < bytes.length) : (put1 bytes blk bs k).set (blk * 32 + k) bs[k] = put1 bytes blk bs (k + 1) := by
  unfold put1
  rw [List.take_succ_eq_append_getElem hk]
  rw [List.set_append_right _ _ (by simp; omega)]
  have e : blk * 32 + k - (List.take (blk * 32) bytes ++ List.take k bs).length = 0 := by simp; omega
  rw [e, List.drop_eq_getElem_cons (i := blk * 32 + k) (by omega), List.set_cons_zero, ← Nat.add_assoc, List.append_assoc, List.append_assoc, List.append_assoc]
  rfl
theorem put1_zero (bytes bs : BL) (blk : Nat) : put1 bytes blk bs 0 = bytes := by simp [put1]
set_option maxRecDepth 100000 in
set_option maxHeartbeats 2000000 in
theorem rThere_any (g cap cg : Nat) (bytes bs : BL) (blk part c : Nat) (B : Option Addr) (w : World) (hO : OB w g cap bytes) (hB : By w B bs) (hBg : ∀ a, B = some a → a.block ≠ g) (hp : part ≤ bs.length) (hl : blk * 32 + part ≤ bytes.length) (hs : bytes.length ≤ 100000) :
    Calls Try.prog 88 #[.slice (some ⟨g, 0, none⟩) bytes.length cg, .agg #[.int .i64 (blk : Int), .slice B bs.length c], .int .i64 (part : Int)] w fun e w' => e = .returned (.tuple #[]) ∧ OB w' g cap (put1 bytes blk bs part) ∧ w.grownBy w' (some g) := by
  obtain ⟨W, hW, hE, hz, k0⟩ := box1 w #[.int .i64 (blk : Int), .slice B bs.length c] 49
  have hg := hO.lt
  have HO := Lib.hid (hO.ext hE)
  have HB := Lib.hid (hB.ext hE)
  have HE := Lib.hid hE
  have HK := Lib.hid k0
  have HP := Lib.hid hp
  have HL := Lib.hid hl
  have HS := Lib.hid hs
  have HG := Lib.hid hg
  clear hO hB hE k0 hp hl hs hg hz
  go_enter Try.func88, Try.ntmps88
  go_wp2_with fail
  clear hW
  go_loopw [6] (fun vi wr => ∃ k : Nat, k ≤ part ∧ vi = .int .i64 k ∧ W.grownBy wr (some g) ∧ OB wr g cap (put1 bytes blk bs k)) (fun vi _ => part - (intOf vi).toNat)
  case atStart => exact ⟨0, Nat.zero_le _, rfl, (Ext.refl _).grownBy _, by rw [put1_zero]; exact HO.out⟩
  case round =>
    obtain ⟨k, hk, rfl, hgr, hOr⟩ := hrel
    by_cases hlt : k < part
    · have hkb : k < bs.length := by have := HP.out; omega
      obtain ⟨b, o, rfl, e1⟩ := HB.out.at hkb
      have K2 := HK.out.grown hgr (by have := HG.out; simp; omega)
      have e2 : wr.cell? ⟨b, o + k, none⟩ = some (.int .u8 (bs[k].toNat : Int)) := (World.cell?_of_block (hgr.block b (cell_lt (p := ⟨b, o + k, none⟩) e1) (by have := hBg _ rfl; simpa using this))).trans e1
      have hS := Lib.hid (fun w' (h : Ext wr w') => (⟨h, (K2.ext h).cell 0, (K2.ext h).cell 1, cellExt h e2⟩ : Ext wr w' ∧ w'.cell? ⟨w.heap.size, 0, none⟩ = some (.int .i64 (blk : Int)) ∧ w'.cell? ⟨w.heap.size, 1, none⟩ = some (.slice (some ⟨b, o, none⟩) bs.length c) ∧ w'.cell? ⟨b, o + k, none⟩ = some (.int .u8 (bs[k].toNat : Int))))
      have Hgr := Lib.hid hgr
      have HOr := Lib.hid hOr
      have hll : blk * 32 + k < bytes.length := by have := HL.out; omega
      have hls := HS.out
      clear e1 e2 K2 hgr hOr
      go_wp2_with fail
      refine wp_region_rel 11 (by kernel_rfl) (by kernel_rfl) (Ext.refl wr).drew ?_
      repeat (apply relW_fix
              · intro vs w' hw hf
                have hc := hS.out w' hw
                unfold okAt
                go_simp
                first | exact ⟨rfl, Ext.refl _⟩ | exact rfl
              · intro vs; go_simp; rfl)
      refine relW_nil fun vs w2 hw hf => ?_
      have HO2 := Lib.hid (HOr.out.ext hw)
      have Hg2 := Lib.hid (gtrans Hgr.out (hw.grownBy (some g)))
      clear hf hw hS HOr Hgr
      have hlen : (put1 bytes blk bs k).length = bytes.length := put1_length _ _ _ _ (by omega) (by omega)
      obtain ⟨v0, hc⟩ : ∃ v, w2.cell? ⟨g, 32 * blk + k, none⟩ = some v := ⟨_, HO2.out.cell (i := 32 * blk + k) (by rw [hlen]; omega)⟩
      have hfz := HO2.out.frozen (32 * blk + k)
      have HX := HO2.out.set (i := 32 * blk + k) (by rw [hlen]; omega) bs[k]
      rw [show 32 * blk + k = blk * 32 + k from by omega, put1_succ bytes bs blk k hkb hll, show blk * 32 + k = 32 * blk + k from by omega] at HX
      have HX' := Lib.hid HX
      have HY := Lib.hid (gtrans Hg2.out (gset w2 ⟨g, 32 * blk + k, none⟩ (.int .u8 (bs[k].toNat : Int))))
      clear HX hlen HO2 Hg2
      go_wp2
      go_roundw
      case rel => exact ⟨k + 1, by omega, by go_num, HY.out, HX'.out⟩
      case measure => simp [intOf]; omega
    · obtain rfl : k = part := by omega
      have HX := Lib.hid hOr
      have HG2 := Lib.hid (gtrans (HE.out.grownBy _) hgr)
      clear hOr hgr
      go_wp2
      go_end0
      exact ⟨rfl, HX.out, HG2.out⟩
end Go.Proofs.Ytdlalmbnkcadfaa
/- reference: Flushed. -/
namespace Go.Proofs.Ytdlalmbnkcadfaa
open Go.RowKit

theorem rThere_int (g cap cg : Nat) (bytes bs : BL) (blk part : Int) (c : Nat) (B : Option Addr) (w : World) (hb0 : 0 ≤ blk) (hp0 : 0 ≤ part) (hO : OB w g cap bytes) (hB : By w B bs) (hBg : ∀ a, B = some a → a.block ≠ g) (hp : part.toNat ≤ bs.length) (hl : blk.toNat * 32 + part.toNat ≤ bytes.length) (hs : bytes.length ≤ 100000) :
    Calls Try.prog 88 #[.slice (some ⟨g, 0, none⟩) bytes.length cg, .agg #[.int .i64 blk, .slice B bs.length c], .int .i64 part] w fun e w' => e = .returned (.tuple #[]) ∧ OB w' g cap (put1 bytes blk.toNat bs part.toNat) ∧ w.grownBy w' (some g) := by
  obtain ⟨b, rfl⟩ := Int.eq_ofNat_of_zero_le hb0
  obtain ⟨p, rfl⟩ := Int.eq_ofNat_of_zero_le hp0
  exact rThere_any g cap cg bytes bs b p c B w hO hB hBg hp hl hs
theorem okWr_parts {nb : Nat} {x : Wr} (h : okWr nb x = true) : 0 ≤ x.blk ∧ x.blk < (nb : Int) ∧ x.bs.length = 32 := by
  rw [okWr_eq] at h
  exact of_decide_eq_true h
theorem By.lt {w : World} {A : Option Addr} {bs : BL} (h : By w A bs) (hne : 0 < bs.length) : ∀ a, A = some a → a.block < w.heap.size := fun a ha => by
  obtain ⟨b, o, e, hc⟩ := h.at hne
  rw [ha] at e
  cases e
  exact cell_lt (p := ⟨b, o + 0, none⟩) hc
set_option maxRecDepth 100000 in
set_option maxHeartbeats 2000000 in
theorem rFlushed_any (A P : Option Addr) (c p : Nat) (D : Dk) (w : World) (hA : By w A D.bytes) (hP : Ws w P D.pend) (hsm : Small D) (hne : D.bytes ≠ []) (hok : ∀ x ∈ D.pend, okWr (D.bytes.length / 32) x = true) :
    Calls Try.prog 70 #[.agg #[.slice A D.bytes.length c, .slice P D.pend.length p]] w fun e w' => ∃ g c', e = .returned (.agg #[.slice (some ⟨g, 0, none⟩) D.bytes.length c', .slice none 0 0]) ∧ OB w' g c' (pFl D.bytes D.pend) ∧ Ext w w' ∧ w.heap.size ≤ g ∧ D.bytes.length ≤ c' := by
  have hfl : ∀ k, (pFl D.bytes (D.pend.take k)).length = D.bytes.length := fun k => pFl_length (D.bytes.length / 32) _ _ (by omega) fun y hy => hok y (List.mem_of_mem_take hy)
  have hpl := hsm.2.1
  go_enter Try.func70, Try.ntmps70
  go_wp2_with (at_builtin; refine wpList_app0 rfl _ _ rfl _ c _ A D.bytes rfl rfl rfl (hA.ext (by repeat (first | exact Ext.refl _ | refine Ext.alloc ?_ _))) hsm.1 ?_; intro A' c' w1 h1 h2 h3 h4 h5)
  obtain ⟨W, hW, hE, hz, k0, k1⟩ := box2 w #[.slice A D.bytes.length c, .slice P D.pend.length p] #[.slice none 0 0, .slice none 0 0] 25 25
  rw [hW] at h1 h5; clear hW h4
  have hz' := hz.out
  have hE1 : Ext W w1 := ((Ext.refl W).alloc _).trans h1
  obtain ⟨g, rfl, hO, hg⟩ := h5 hne
  obtain ⟨xo, hxo⟩ : ∃ xo, xo = w1.heap.size := ⟨_, rfl⟩
  have hg2 : w.heap.size + 2 < g := by simp at hg; omega
  have hgx : g < xo := by rw [hxo]; exact hO.lt
  have m2 := Bk.new w1 #[.slice (some ⟨g, 0, none⟩) D.bytes.length c', .slice none 0 0] 25
  have HE : Hid (Ext w (w1.alloc (.cells #[.slice (some ⟨g, 0, none⟩) D.bytes.length c', .slice none 0 0] 25))) := (hE.trans hE1).alloc _
  have i0 := Lib.hid ((k0.ext hE1).alloc (.cells #[.slice (some ⟨g, 0, none⟩) D.bytes.length c', .slice none 0 0] 25))
  have i1 := Lib.hid ((k1.ext hE1).alloc (.cells #[.slice (some ⟨g, 0, none⟩) D.bytes.length c', .slice none 0 0] 25))
  have hO1 := Lib.hid (hO.ext ((Ext.refl w1).alloc (.cells #[.slice (some ⟨g, 0, none⟩) D.bytes.length c', .slice none 0 0] 25)))
  rw [← hxo] at m2 ⊢
  have M2 := Lib.hid m2
  have Hcc := Lib.hid h2
  have Hg2 := Lib.hid hg2
  have Hgx := Lib.hid hgx
  clear h1 h2 h3 h5 k0 k1 hE1 hxo m2 hE hz' hO hg hz hA hg2 hgx
  go_loopw [4] (fun i wr => ∃ k : Nat, k ≤ D.pend.length ∧ i = .int .i64 k ∧ Ext w wr ∧ Bk wr w.heap.size #[.slice A D.bytes.length c, .slice P D.pend.length p] 25 ∧ Bk wr (w.heap.size + 1) #[.slice none 0 0, .slice none 0 0] 25 ∧ Bk wr xo #[.slice (some ⟨g, 0, none⟩) D.bytes.length c', .slice none 0 0] 25 ∧ OB wr g c' (pFl D.bytes (D.pend.take k))) (fun i _ => D.pend.length - (intOf i).toNat)
  case atStart => exact ⟨0, Nat.zero_le _, rfl, HE.out, i0.out, i1.out, M2.out, by simpa [pFl] using hO1.out⟩
  case round =>
    clear HE i0 i1 hO1 M2
    obtain ⟨k, hk, rfl, hEr, j0, j1, jo, hOr⟩ := hrel
    have HEr := Lib.hid hEr
    have HOr := Lib.hid hOr
    have d1 := j0.cell 1
    simp at d1
    clear hOr
    by_cases hlt : k < D.pend.length
    · obtain ⟨b, o, Bx, d, rfl, e1, e2, e3, e4⟩ := hP k D.pend[k] (List.getElem?_eq_getElem hlt)
      have g1 := cellExt hEr e1
      have g2 := cellExt hEr e2
      have Hby := Lib.hid (e4.ext hEr)
      have hq := okWr_parts (hok D.pend[k] (List.getElem_mem hlt))
      have hbl := Lib.hid (e4.lt (by omega))
      have Hq := Lib.hid hq
      clear e1 e2 e3 e4 hEr hq
      go_wp2_with fail
      have hS := Lib.hid (fun w' (h : Ext wr w') => (⟨h, (jo.ext h).cell 0, (j0.ext h).cell 1, cellExt h g1, cellExt h g2⟩ : Ext wr w' ∧ w'.cell? ⟨xo, 0, none⟩ = some (.slice (some ⟨g, 0, none⟩) D.bytes.length c') ∧ w'.cell? ⟨w.heap.size, 1, none⟩ = some (.slice (some ⟨b, o, none⟩) D.pend.length p) ∧ w'.cell? ⟨b, o + k * 2, none⟩ = some (.int .i64 D.pend[k].blk) ∧ w'.cell? ⟨b, o + k * 2 + 1, none⟩ = some (.slice Bx D.pend[k].bs.length d)))
      clear g1 g2 d1
      refine wp_region_rel 7 (by kernel_rfl) (by kernel_rfl) (Ext.refl wr).drew ?_
      repeat (apply relW_fix
              · intro vs w' hw hf
                have hc := hS.out w' hw
                unfold okAt
                go_simp
                first | exact ⟨rfl, Ext.refl _⟩ | exact rfl
              · intro vs; go_simp; rfl)
      refine relW_nil fun vs w6 hw hf => ?_
      have hE6 : Ext wr w6 := hw
      have J0 := Lib.hid (j0.ext hE6)
      have J1 := Lib.hid (j1.ext hE6)
      have Jo := Lib.hid (jo.ext hE6)
      have HB6 := Lib.hid (Hby.out.ext hE6)
      have HE6 := Lib.hid (HEr.out.trans hE6)
      have HO6 := Lib.hid (HOr.out.ext hE6)
      have Hfl := Lib.hid (hfl k)
      have Hfl1 := Lib.hid (hfl (k + 1))
      clear hf hw hE6 j0 j1 jo hS Hby HEr HOr hfl
      go_wp2_with fail
      have ht := rThere_int g c' c' (pFl D.bytes (D.pend.take k)) D.pend[k].bs D.pend[k].blk 32 d Bx w6 Hq.out.1 (by omega) HO6.out HB6.out (fun a ha => by have := hbl.out a ha; have := Hg2.out; omega) (by rw [Hq.out.2.2]; decide) (by rw [Hfl.out]; have := Hq.out; omega) (by rw [Hfl.out]; exact hsm.1)
      rw [Hfl.out] at ht
      refine ht.mono ?_
      rintro e w7 ⟨rfl, hO7, hg7⟩
      have hp : Hid (put1 (pFl D.bytes (D.pend.take k)) D.pend[k].blk.toNat D.pend[k].bs (32 : Int).toNat = pFl D.bytes (D.pend.take (k + 1))) := by
        show _ = _
        rw [List.take_succ_eq_append_getElem hlt, pFl_snoc]
        rfl
      rw [hp.out] at hO7
      have HO7 := Lib.hid hO7
      have HE7 : Hid (Ext w w7) := Below.grown HE6.out hg7 (by have := HE6.out.size; omega) (fun x hx => by cases hx; have := Hg2.out; omega)
      have J0' := Lib.hid (J0.out.grown hg7 (by have := Hg2.out; simp; omega))
      have J1' := Lib.hid (J1.out.grown hg7 (by have := Hg2.out; simp; omega))
      have Jo' := Lib.hid (Jo.out.grown hg7 (by have := Hgx.out; simp; omega))
      clear hO7 hg7 hp ht J0 J1 Jo HO6 HB6 HE6
      go_wp2
      go_roundw
      case rel => exact ⟨k + 1, by omega, by go_num, HE7.out, J0'.out, J1'.out, Jo'.out, HO7.out⟩
      case measure => simp [intOf]; omega
    · obtain rfl : k = D.pend.length := by omega
      have o0 := jo.cell 0
      have o1 := jo.cell 1
      have r0 := j1.cell 0
      have r1 := j1.cell 1
      have f0 := j1.frozen 0
      have f1 := j1.frozen 1
      simp at o0 o1 r0 r1
      have Hj1 := Lib.hid j1
      clear jo j1 j0 hEr hfl
      go_wp2
      have kk := ((Hj1.out.set 0 (.slice (some ⟨g, 0, none⟩) D.bytes.length c')).set 1 (.slice none 0 0))
      have q0 := kk.cell 0
      have q1 := kk.cell 1
      simp only [Array.setIfInBounds_def] at q0 q1
      have hne1 : g ≠ w.heap.size + 1 := by have := Hg2.out; omega
      refine bodyPost_ret (v := .agg #[.slice (some ⟨g, 0, none⟩) D.bytes.length c', .slice none 0 0]) (by simp [results, Try.results70, go_sem, q0, q1]) rfl ⟨g, c', rfl, ?_, ?_, by have := Hg2.out; omega, Hcc.out⟩
      · have h := HOr.out
        rw [List.take_length] at h
        exact (h.far hne1 _).far hne1 _
      · exact (HEr.out.setCell (Nat.le_succ _) _).setCell (Nat.le_succ _) _
end Go.Proofs.Ytdlalmbnkcadfaa
/- reference: Read. -/
namespace Go.Proofs.Ytdlalmbnkcadfaa
open Go.RowKit

set_option maxRecDepth 100000 in
set_option maxHeartbeats 2000000 in
theorem rRead_any (A P : Option Addr) (c p : Nat) (D : Dk) (n : Int) (w : World) (hA : By w A D.bytes) (hP : Ws w P D.pend) (hsm : Small D) :
    Calls Try.prog 41 #[.agg #[.slice A D.bytes.length c, .slice P D.pend.length p], .int .i64 n] w (RetB w (pRead D n) (pReadB D n)) := by
  obtain ⟨W, hW, hE, hz, k0⟩ := box1 w #[.slice A D.bytes.length c, .slice P D.pend.length p] 25
  have HP := Lib.hid (hP.ext hE)
  have HA := Lib.hid (hA.ext hE)
  have HE := Lib.hid hE
  have Hsm := Lib.hid hsm
  have HK := Lib.hid k0
  have d0 := k0.cell 0
  have d1 := k0.cell 1
  simp at d0 d1
  clear hE hP hA hsm k0 hz
  by_cases h1 : pCheck D = 0
  · by_cases h2 : 0 ≤ n
    · have t2 : decide (n < 0) = false := by simpa using h2
      by_cases h3 : n < ((D.bytes.length / 32 : Nat) : Int)
      · have e1 : pRead D n = 0 := by unfold pRead inB; rw [if_pos h1, if_pos (decide_eq_true (by omega))]
        have t3 : decide (n ≥ (D.bytes.length : Int) / 32) = false := by simp; omega
        obtain ⟨hr0, hr1, hr2, hr3, hr4⟩ := pCheck_ok h1
        obtain ⟨k, rfl⟩ : ∃ k : Nat, n = k := ⟨n.toNat, by omega⟩
        have e2 : pReadB D (k : Int) = ((pFl D.bytes D.pend).drop (k * 32)).take 32 := by unfold pReadB; rw [if_pos e1]; simp
        have hkk : k < D.bytes.length / 32 := by omega
        have hl0 := pFl_length (D.bytes.length / 32) D.pend D.bytes (by omega) hr4
        rw [e1, e2]
        have H1 := Lib.hid h1
        have Hne : Hid (D.bytes ≠ []) := fun e => by rw [e] at hr1; simp at hr1
        have Hok := Lib.hid hr4
        have Hl := Lib.hid hl0
        have Hkk := Lib.hid hkk
        clear h1 h2 h3 e1 e2 hr0 hr1 hr2 hr3 hr4 hl0
        go_enter Try.func41, Try.ntmps41
        go_wp2_with fail
        refine (rCheck_any A P c p D W HP.out Hsm.out).mono ?_
        rintro e w1 ⟨rfl, hE1⟩
        have K1 := HK.out.ext hE1
        have d0 := K1.cell 0
        have d1 := K1.cell 1
        simp at d0 d1
        have HP1 := Lib.hid (HP.out.ext hE1)
        have HA1 := Lib.hid (HA.out.ext hE1)
        have HE1 := Lib.hid (HE.out.trans hE1)
        have HK1 := Lib.hid K1
        clear hE1 K1 HP HA HE HK hW
        rw [H1.out]
        go_wp2_with fail
        refine (rBlocks_any A P _ c _ p w1 (by have := Hsm.out.1; omega)).mono ?_
        rintro e w2 ⟨rfl, hE2⟩
        have K2 := HK1.out.ext hE2
        have d0 := K2.cell 0
        have d1 := K2.cell 1
        simp at d0 d1
        have HP2 := Lib.hid (HP1.out.ext hE2)
        have HA2 := Lib.hid (HA1.out.ext hE2)
        have HE2 := Lib.hid (HE1.out.trans hE2)
        clear hE2 K2 HP1 HA1 HE1 HK1
        go_wp2_with fail
        refine (rFlushed_any A P c p D w2 HA2.out HP2.out Hsm.out Hne.out Hok.out).mono ?_
        rintro e w3 ⟨g, c', rfl, hO, hE3, hg, hc⟩
        have HE3 := Lib.hid (HE2.out.trans hE3)
        have HO := Lib.hid hO
        have hs := Hsm.out.1
        have hkm : 32 * (k : Int) + 32 ≤ (D.bytes.length : Int) := by omega
        clear hO hE3 hg HP2 HA2 HE2
        have hfd : ∀ w' : World, (Instr.field 25 (.agg #[.slice (some ⟨g, 0, none⟩) D.bytes.length c', .slice none 0 0]) 0).run Try.prog w' = .ok (.slice (some ⟨g, 0, none⟩) D.bytes.length c') w' := fun _ => by kernel_rfl
        go_wp2
        go_ret2
        have hl := Hl.out
        have hlen : (List.take 32 (List.drop (k * 32) (pFl D.bytes D.pend))).length = 32 := by simp; omega
        have hb := HO.out.sub (32 * k) 32 (by omega)
        rw [Nat.mul_comm 32 k] at hb
        refine ⟨some ⟨g, k * 32, none⟩, c' - 32 * k, ?_, HE3.out, by omega, hb⟩
        rw [hlen, Nat.mul_comm k 32, ← show 32 * k + 32 - 32 * k = 32 from by omega]
        simp
      · have e1 : pRead D n = 3 := by unfold pRead inB; rw [if_pos h1, if_neg (by simp; omega)]
        have e2 : pReadB D n = [] := by unfold pReadB; rw [e1]; rfl
        have t3 : decide (n ≥ (D.bytes.length : Int) / 32) = true := by simp; omega
        rw [e1, e2]
        have H1 := Lib.hid h1
        clear h1 h2 h3 e1 e2
        go_enter Try.func41, Try.ntmps41
        go_wp2_with fail
        refine (rCheck_any A P c p D W HP.out Hsm.out).mono ?_
        rintro e w1 ⟨rfl, hE1⟩
        have K1 := HK.out.ext hE1
        have d0 := K1.cell 0
        have d1 := K1.cell 1
        simp at d0 d1
        have HP1 := Lib.hid (HP.out.ext hE1)
        have HA1 := Lib.hid (HA.out.ext hE1)
        have HE1 := Lib.hid (HE.out.trans hE1)
        have HK1 := Lib.hid K1
        clear hE1 K1 HP HA HE HK hW
        rw [H1.out]
        go_wp2_with fail
        refine (rBlocks_any A P _ c _ p w1 (by have := Hsm.out.1; omega)).mono ?_
        rintro e w2 ⟨rfl, hE2⟩
        have K2 := HK1.out.ext hE2
        have d0 := K2.cell 0
        have d1 := K2.cell 1
        simp at d0 d1
        have HP2 := Lib.hid (HP1.out.ext hE2)
        have HA2 := Lib.hid (HA1.out.ext hE2)
        have HE2 := Lib.hid (HE1.out.trans hE2)
        clear hE2 K2 HP1 HA1 HE1 HK1
        go_wp2
        go_ret2
        exact ⟨none, 0, rfl, HE2.out, Nat.zero_le _, By.nil _ _⟩
    · have t2 : decide (n < 0) = true := by simp; omega
      have e1 : pRead D n = 3 := by unfold pRead inB; rw [if_pos h1, if_neg (by simp; omega)]
      have e2 : pReadB D n = [] := by unfold pReadB; rw [e1]; rfl
      rw [e1, e2]
      have H1 := Lib.hid h1
      clear h1 h2 e1 e2
      go_enter Try.func41, Try.ntmps41
      go_wp2_with fail
      refine (rCheck_any A P c p D W HP.out Hsm.out).mono ?_
      rintro e w1 ⟨rfl, hE1⟩
      have K1 := HK.out.ext hE1
      have d0 := K1.cell 0
      have d1 := K1.cell 1
      simp at d0 d1
      have HP1 := Lib.hid (HP.out.ext hE1)
      have HA1 := Lib.hid (HA.out.ext hE1)
      have HE1 := Lib.hid (HE.out.trans hE1)
      have HK1 := Lib.hid K1
      clear hE1 K1 HP HA HE HK hW
      rw [H1.out]
      go_wp2
      go_ret2
      exact ⟨none, 0, rfl, HE1.out, Nat.zero_le _, By.nil _ _⟩
  · have e1 : pRead D n = pCheck D := by unfold pRead; rw [if_neg h1]
    have e2 : pReadB D n = [] := by unfold pReadB; rw [e1, if_neg h1]
    have t1 : (pCheck D != 0) = true := by simp [h1]
    rw [e1, e2]
    clear e1 e2 h1
    go_enter Try.func41, Try.ntmps41
    go_wp2_with fail
    refine (rCheck_any A P c p D W HP.out Hsm.out).mono ?_
    rintro e w1 ⟨rfl, hE1⟩
    have K1 := HK.out.ext hE1
    have d0 := K1.cell 0
    have d1 := K1.cell 1
    simp at d0 d1
    have HP1 := Lib.hid (HP.out.ext hE1)
    have HA1 := Lib.hid (HA.out.ext hE1)
    have HE1 := Lib.hid (HE.out.trans hE1)
    have HK1 := Lib.hid K1
    clear hE1 K1 HP HA HE HK hW
    go_wp2
    go_ret2
    exact ⟨none, 0, rfl, HE1.out, Nat.zero_le _, By.nil _ _⟩
end Go.Proofs.Ytdlalmbnkcadfaa
