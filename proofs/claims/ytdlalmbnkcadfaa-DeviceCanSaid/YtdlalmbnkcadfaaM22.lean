/- device: Possible. -/
import Derived.Test.YtdlalmbnkcadfaaM21
namespace Go.Proofs.Ytdlalmbnkcadfaa
open Go.RowKit

/-- What a call hands back: a bool and an error. -/
def RetP (w : World) (er : Int) (r : Bool) (e : Ending) (w' : World) : Prop := e = .returned (.tuple #[.bool r, .int .i64 er]) ∧ Ext w w'
set_option maxRecDepth 100000 in
set_option maxHeartbeats 1000000 in
theorem poss_bad (A P B : Option Addr) (c p d : Nat) (D : Dk) (b : BL) (w : World) (hA : By w A D.bytes) (hP : Ws w P D.pend) (_hB : By w B b) (hsm : Small D) (_hbd : b.length ≤ d) (_hbl : b.length ≤ 100000) (hbad : pCheck D ≠ 0) : Calls Try.prog 29 #[.agg #[.slice A D.bytes.length c, .slice P D.pend.length p], .slice B b.length d] w (RetP w (pPossE D b) (pPossR D b)) := by
  have he : Hid (pPossE D b = pCheck D) := if_neg hbad
  have hr : Hid (pPossR D b = false) := by show _ = _; unfold pPossR; rw [he.out, decide_eq_false hbad]; rfl
  go_enter Try.func29, Try.ntmps29
  go_wp2_with fail
  obtain ⟨W, hW, hE, hz, k0⟩ := box1 w #[.slice A D.bytes.length c, .slice P D.pend.length p] 25
  rw [hW]; clear hW
  have c0 := k0.cell 0
  have c1 := k0.cell 1
  simp at c0 c1
  go_wp2_with fail
  refine (open_any A P c p D W (hA.ext hE) (hP.ext hE) hsm).mono ?_
  rintro e w1 ⟨v, rfl, h1, h2, h3⟩
  obtain rfl := h3 hbad
  have t2 : (pCheck D != 0) = true := by simpa using hbad
  have hE1 := Lib.hid (hE.trans h1)
  clear h1 h2 h3 hbad c0 c1 k0 hA hP hE hz
  unfold zeroDk
  go_wp2
  go_ret2
  exact ⟨by rw [he.out, hr.out]; rfl, hE1.out.alloc _⟩
set_option maxRecDepth 100000 in
set_option maxHeartbeats 1000000 in
theorem poss_len (A P B : Option Addr) (c p d : Nat) (D : Dk) (b : BL) (w : World) (hA : By w A D.bytes) (hP : Ws w P D.pend) (_hB : By w B b) (hsm : Small D) (_hbd : b.length ≤ d) (_hbl : b.length ≤ 100000) (hgood : pCheck D = 0) (hne : b.length ≠ D.bytes.length) : Calls Try.prog 29 #[.agg #[.slice A D.bytes.length c, .slice P D.pend.length p], .slice B b.length d] w (RetP w (pPossE D b) (pPossR D b)) := by
  have he : Hid (pPossE D b = 3) := by show _ = _; unfold pPossE; rw [if_pos hgood, if_neg hne]
  have hr : Hid (pPossR D b = false) := by show _ = _; unfold pPossR; rw [he.out]; rfl
  have t3 : ((b.length : Int) != (D.bytes.length : Int)) = true := by rw [bne_iff_ne]; omega
  go_enter Try.func29, Try.ntmps29
  go_wp2_with fail
  obtain ⟨W, hW, hE, hz, k0⟩ := box1 w #[.slice A D.bytes.length c, .slice P D.pend.length p] 25
  rw [hW]; clear hW
  have c0 := k0.cell 0
  have c1 := k0.cell 1
  simp at c0 c1
  go_wp2_with fail
  refine (open_any A P c p D W (hA.ext hE) (hP.ext hE) hsm).mono ?_
  rintro e w1 ⟨v, rfl, h1, h2, h3⟩
  have t1 : (pCheck D != 0) = false := by simp [hgood]
  have hO := h2 hgood
  obtain ⟨g, gc, Pv, qs, hv, hBg, hgc, hOB, hPO, hqs⟩ := hO
  obtain ⟨vP, ve, rfl, hve⟩ := hPO.form
  subst hv
  have j0 := Bk.new w1 #[.slice (some ⟨g, 0, none⟩) D.bytes.length gc, .slice vP qs.length ve] 84
  have j1 := (k0.ext h1).alloc (.cells #[.slice (some ⟨g, 0, none⟩) D.bytes.length gc, .slice vP qs.length ve] 84)
  have hE1 := Lib.hid ((hE.trans h1).alloc (.cells #[.slice (some ⟨g, 0, none⟩) D.bytes.length gc, .slice vP qs.length ve] 84))
  have hOB1 := Lib.hid (hOB.ext ((Ext.refl w1).alloc (.cells #[.slice (some ⟨g, 0, none⟩) D.bytes.length gc, .slice vP qs.length ve] 84)))
  have hPO1 := Lib.hid (hPO.ext ((Ext.refl w1).alloc (.cells #[.slice (some ⟨g, 0, none⟩) D.bytes.length gc, .slice vP qs.length ve] 84)))
  have d0 := j0.cell 0
  have d1 := j0.cell 1
  have b0 := j1.cell 0
  have b1 := j1.cell 1
  simp at d0 d1 b0 b1
  have hs1 := Lib.hid h1.size
  have Hqs := Lib.hid hqs
  have Hgood := Lib.hid hgood
  have hwl : w.heap.size < w1.heap.size := (k0.ext h1).lt
  clear h1 h2 h3 c0 c1 k0 hA hP hE hgood hOB hPO hqs
  clear j0 j1
  go_wp2
  go_ret2
  exact ⟨by rw [he.out, hr.out]; rfl, hE1.out⟩

theorem block_at0 (g n c : Nat) (P : Value) (k : Nat) (w : World) (hk : k * 32 + 32 ≤ n) (hn : n ≤ c) (hc : n ≤ 100000) :
    Calls Try.prog 64 #[.agg #[.slice (some ⟨g, 0, none⟩) n c, P], .int .i64 (k : Int)] w fun e w' => e = .returned (.slice (some ⟨g, k * 32, none⟩) 32 32) ∧ Ext w w' := by
  have := block_any g 0 n c P k w hk hn hc
  rwa [Nat.zero_add] at this
/-- The bytes of a device's block. -/
theorem blkB_len {bs : BL} {n : Nat} (h : n * 32 + 32 ≤ bs.length) : (blkB bs n).length = 32 := by simp [blkB]; omega
def AllB (D : Dk) (b : BL) (n : Nat) : Bool := (List.range n).all fun n => pPoss1 (blkB D.bytes n) (blkB b n) (pWs D n)
theorem AllB_succ (D : Dk) (b : BL) (n : Nat) : AllB D b (n + 1) = (AllB D b n && pPoss1 (blkB D.bytes n) (blkB b n) (pWs D n)) := by
  unfold AllB
  rw [List.range_succ, List.all_append]
  simp
theorem AllB_false (D : Dk) (b : BL) (n m : Nat) (h : AllB D b n = false) (hm : n ≤ m) : AllB D b m = false := by
  unfold AllB at h ⊢
  rw [List.all_eq_false] at h ⊢
  obtain ⟨x, hx, h⟩ := h
  exact ⟨x, List.mem_range.2 (by have := List.mem_range.1 hx; omega), h⟩
set_option maxRecDepth 100000 in
set_option maxHeartbeats 1000000 in
theorem poss_good (A P B : Option Addr) (c p d : Nat) (D : Dk) (b : BL) (w : World) (hA : By w A D.bytes) (hP : Ws w P D.pend) (_hB : By w B b) (hsm : Small D) (_hbd : b.length ≤ d) (_hbl : b.length ≤ 100000) (hgood : pCheck D = 0) (hne : b.length = D.bytes.length) : Calls Try.prog 29 #[.agg #[.slice A D.bytes.length c, .slice P D.pend.length p], .slice B b.length d] w (RetP w (pPossE D b) (pPossR D b)) := by
  have Hne := Lib.hid hne
  have t3 : ((b.length : Int) != (D.bytes.length : Int)) = false := by rw [bne_eq_false_iff_eq]; omega
  clear hne
  obtain ⟨hc1, hc2, hc3, hc4, hc5⟩ := pCheck_ok hgood
  go_enter Try.func29, Try.ntmps29
  go_wp2_with fail
  obtain ⟨W, hW, hE, hz, k0⟩ := box1 w #[.slice A D.bytes.length c, .slice P D.pend.length p] 25
  rw [hW]; clear hW
  have c0 := k0.cell 0
  have c1 := k0.cell 1
  simp at c0 c1
  go_wp2_with fail
  refine (open_any A P c p D W (hA.ext hE) (hP.ext hE) hsm).mono ?_
  rintro e w1 ⟨v, rfl, h1, h2, h3⟩
  have t1 : (pCheck D != 0) = false := by simp [hgood]
  have hO := h2 hgood
  obtain ⟨g, gc, Pv, qs, hv, hBg, hgc, hOB, hPO, hqs⟩ := hO
  obtain ⟨vP, ve, rfl, hve⟩ := hPO.form
  subst hv
  have j0 := Bk.new w1 #[.slice (some ⟨g, 0, none⟩) D.bytes.length gc, .slice vP qs.length ve] 84
  have j1 := (k0.ext h1).alloc (.cells #[.slice (some ⟨g, 0, none⟩) D.bytes.length gc, .slice vP qs.length ve] 84)
  have hE1 := Lib.hid ((hE.trans h1).alloc (.cells #[.slice (some ⟨g, 0, none⟩) D.bytes.length gc, .slice vP qs.length ve] 84))
  have hOB1 := Lib.hid (hOB.ext ((Ext.refl w1).alloc (.cells #[.slice (some ⟨g, 0, none⟩) D.bytes.length gc, .slice vP qs.length ve] 84)))
  have hPO1 := Lib.hid (hPO.ext ((Ext.refl w1).alloc (.cells #[.slice (some ⟨g, 0, none⟩) D.bytes.length gc, .slice vP qs.length ve] 84)))
  have d0 := j0.cell 0
  have d1 := j0.cell 1
  have b0 := j1.cell 0
  have b1 := j1.cell 1
  simp at d0 d1 b0 b1
  have hs1 := Lib.hid h1.size
  have Hqs := Lib.hid hqs
  have Hgood := Lib.hid hgood
  have hwl : w.heap.size < w1.heap.size := (k0.ext h1).lt
  clear h1 h2 h3 c0 c1 k0 hA hP hE hgood hOB hPO hqs
  have hql : qs.length ≤ 64 := by have : qs.length = D.pend.length := by rw [← Hqs.out]; simp
                                  omega
  go_wp2_with fail
  refine (by_any (some ⟨g, 0, none⟩) vP D.bytes.length gc ve W.heap.size [g] qs _ hPO1.out (by omega)).mono ?_
  rintro e w2 ⟨r, rfl, hE2, hGM⟩
  obtain ⟨es, hes, hborn, hent, hcov⟩ := hGM.entry
  have hrl := hGM.lt
  have hrg : (Instr.range 89 (.map (some r))).run Try.prog w2 = .ok (.pointer (some ⟨w2.heap.size, 0, none⟩)) (w2.alloc (.mapIter (some r) es.size #[] es.size)) := by
    unfold Instr.range
    simp only [Sem.run_bind, run_underlying Try.underlying89, Result.andThen_ok, getMap hes, Sem.run_pure, run_newObj_alloc]
  obtain ⟨W3, hW3⟩ : ∃ W3, w2.alloc (.mapIter (some r) es.size #[] es.size) = W3 := ⟨_, rfl⟩
  have hE3 : Ext w2 W3 := by rw [← hW3]; exact (Ext.refl w2).alloc _
  have hi3 : W3.heap[w2.heap.size]? = some (.mapIter (some r) es.size #[] es.size) := by rw [← hW3]; exact heap_new w2 _
  have hl3 : w2.heap.size < W3.heap.size := by rw [← hW3]; simp
  rw [hW3] at hrg
  have hR3 : RngI W3 r w2.heap.size es qs W3 := ⟨grown_refl _ _, (hE3.block r hrl).trans hes, #[], es.size, hi3, Nat.le_refl _, fun e _ h => by simp at h⟩
  have J0 := Lib.hid (j0.ext hE2)
  have hE4 := Lib.hid (hE1.out.trans hE2)
  have hOB2 := Lib.hid (hOB1.out.ext hE2)
  have hPO2 := Lib.hid (hPO1.out.ext hE2)
  have HGM := Lib.hid hGM
  have Hent := Lib.hid hent
  have Hcov := Lib.hid hcov
  have HE3 := Lib.hid hE3
  have hB2 := Lib.hid (_hB.ext (hE1.out.trans hE2))
  clear hW3 j0 j1 hE1 hOB1 hPO1 hGM hent hcov hE3 hE2 d0 d1 b0 b1 hes hi3
  go_wp2
  clear hrg
  go_loopw [33] (fun _ wr => RngI W3 r w2.heap.size es qs wr) (fun _ wr => rngLeft wr w2.heap.size es)
  case atStart => exact hR3
  case round =>
    clear hR3
    rcases hrel.step (by omega) hl3 hborn 0 with ⟨hall, hn⟩ | ⟨e, he, wx, hn, hen, hgx, hkx⟩
    · have hX : Ext w2 wr := HE3.out.grown hrel.1 HE3.out.size (fun j e => by cases e; exact Nat.le_refl _)
      have he : Hid (pPossE D b = 0) := by
        show _ = _
        unfold pPossE
        rw [if_pos Hgood.out, if_pos Hne.out, if_neg]
        intro hany
        obtain ⟨m, hm, hm5⟩ := List.any_eq_true.1 hany
        have hm5' := of_decide_eq_true hm5
        rw [← grp_length D qs Hqs.out m] at hm5'
        obtain ⟨q, hq⟩ : ∃ q, q ∈ grp qs (m : Int) := List.exists_mem_of_ne_nil _ (fun h => by rw [h] at hm5'; simp at hm5')
        obtain ⟨q1, q2⟩ := List.mem_filter.1 hq
        obtain ⟨e, he, hek⟩ := Hcov.out q q1
        obtain ⟨k, hk, hk5⟩ := hall e he
        rw [hek] at hk
        have : k = (m : Int) := by rw [← beq_iff_eq.1 q2]; injection hk with _ h; exact h.symm
        rw [this] at hk5
        omega
      have h5 : Hid (∀ m : Nat, (grp qs (m : Int)).length ≤ 5) := fun m => by
        rcases Nat.eq_zero_or_pos (grp qs (m : Int)).length with h | h
        · omega
        · obtain ⟨q, hq⟩ : ∃ q, q ∈ grp qs (m : Int) := List.exists_mem_of_ne_nil _ (fun h' => by rw [h'] at h; simp at h)
          obtain ⟨q1, q2⟩ := List.mem_filter.1 hq
          obtain ⟨e, he, hek⟩ := Hcov.out q q1
          obtain ⟨k, hk, hk5⟩ := hall e he
          rw [hek] at hk
          have : k = (m : Int) := by rw [← beq_iff_eq.1 q2]; injection hk with _ h; exact h.symm
          rw [this] at hk5
          omega
      obtain ⟨bb, bo, rfl, _⟩ := _hB.at (j := 0) (by have := Hne.out; omega)
      have J1 := Lib.hid (J0.out.ext hX)
      have hOB3 := Lib.hid (hOB2.out.ext hX)
      have hPO3 := Lib.hid (hPO2.out.ext hX)
      have HG3 := Lib.hid (HGM.out.ext hX)
      have hB3 := Lib.hid (hB2.out.ext hX)
      have hE5 := Lib.hid (hE4.out.trans hX)
      have e0 := J1.out.cell 0
      have e1 := J1.out.cell 1
      have hj1 := J1.out.lt
      simp at e0 e1
      have Hn := Lib.hid Hne.out
      clear hall hrel hX
      go_wp2_with fail
      obtain ⟨wo, hwo⟩ : ∃ wo, wo = wr := ⟨_, rfl⟩
      rw [← hwo] at J1 hOB3 hPO3 HG3 hB3 hE5 e0 e1 hj1 ⊢
      clear hwo hn
      obtain ⟨W5, hW5, hE6, hz5, k5⟩ := box1 wo #[.slice (some ⟨bb, bo, none⟩) b.length d, .slice none 0 0] 84
      rw [hW5]; clear hW5
      refine (blocks_any (some ⟨g, 0, none⟩) vP D.bytes.length gc qs.length ve W5 (by have := hsm.1; omega)).mono ?_
      rintro e w6 ⟨rfl, hE7⟩
      have hE8 := hE6.trans hE7
      have K0 := Lib.hid (J1.out.ext hE8)
      have K5 := Lib.hid (k5.ext hE7)
      have hOB4 := Lib.hid (hOB3.out.ext hE8)
      have hPO4 := Lib.hid (hPO3.out.ext hE8)
      have HG4 := Lib.hid (HG3.out.ext hE8)
      have hB4 := Lib.hid (hB3.out.ext hE8)
      have hE9 := Lib.hid (hE5.out.trans hE8)
      clear e0 e1 k5 hE6 hE7 hE8 hj1
      go_wp2
      go_loopw [45] (fun vi wr => ∃ i : Nat, i ≤ D.bytes.length / 32 ∧ vi = .int .i64 i ∧ Ext w6 wr ∧ Hid (AllB D b i = true)) (fun vi _ => D.bytes.length / 32 - (intOf vi).toNat)
      case atStart => exact ⟨0, Nat.zero_le _, rfl, Ext.refl _, rfl⟩
      case round =>
        obtain ⟨i, hi, rfl, hEi, Hall⟩ := hrel
        by_cases hlt : i < D.bytes.length / 32
        · have hi32 : i * 32 + 32 ≤ D.bytes.length := by omega
          obtain ⟨v, hown, hlk, _⟩ := (HG4.out.ext hEi).look (i : Int)
          obtain ⟨sP, sc, rfl, hSS⟩ := own_ss hown (fun q hq => by
            have hq' := (List.mem_filter.1 hq).1
            obtain ⟨q1, q2, _⟩ := hPO4.out.one q hq'
            exact ⟨q1, q2.ext hEi⟩)
          rw [grp_pWs D qs Hqs.out i] at hSS hlk
          have HSS := Lib.hid hSS
          have hw5 : Hid ((pWs D i).length ≤ 5) := by have := h5.out i; rw [grp_length D qs Hqs.out i] at this; exact this
          have k0 := K0.out.ext hEi
          have k5 := K5.out.ext hEi
          have hS := Lib.hid (fun w' (h : Ext _ w') => (⟨h, (k0.ext h).cell 0, (k0.ext h).cell 1, (k5.ext h).cell 0, (k5.ext h).cell 1, hlk w' (h.block r (HG4.out.ext hEi).lt)⟩ : Ext wr w' ∧ w'.cell? ⟨w1.heap.size, 0, none⟩ = some (.slice (some ⟨g, 0, none⟩) D.bytes.length gc) ∧ w'.cell? ⟨w1.heap.size, 1, none⟩ = some (.slice vP qs.length ve) ∧ w'.cell? ⟨wo.heap.size, 0, none⟩ = some (.slice (some ⟨bb, bo, none⟩) b.length d) ∧ w'.cell? ⟨wo.heap.size, 1, none⟩ = some (.slice none 0 0) ∧
                                                                                                                                                                                     (Instr.lookup 89 (.map (some r)) (.int .i64 (i : Int)) false).run Try.prog w' = .ok (.slice sP (pWs D i).length sc) w'))
          have HA := hOB4.out.ext hEi
          have HB := hB4.out.ext hEi
          have HAi : Hid (By wr (some ⟨g, i * 32, none⟩) (blkB D.bytes i)) := HA.sub (i * 32) 32 hi32
          have HBi : Hid (By wr (some ⟨bb, bo + i * 32, none⟩) (blkB b i)) := HB.sub rfl (i * 32) 32
          have hsl := hsm.1
          have hEi' := Lib.hid hEi
          clear HA HB hEi
          cases hp : pPoss1 (blkB D.bytes i) (blkB b i) (pWs D i) with
          | true =>
            have Hp := Lib.hid hp
            clear hp k0 k5 hlk hown hSS
            go_wp2_with fail
            refine wp_region_rel 12 (by kernel_rfl) (by kernel_rfl) (Ext.refl wr).drew ?_
            (apply relW_fix
             · intro vs w' hw hf
               have hc := hS.out w' hw
               unfold okAt
               go_simp
               first | exact ⟨rfl, Ext.refl _⟩ | exact rfl
             · intro vs; go_simp; rfl)
            (apply relW_fix
             · intro vs w' hw hf
               have hc := hS.out w' hw
               unfold okAt
               go_simp
               first | exact ⟨rfl, Ext.refl _⟩ | exact rfl
             · intro vs; go_simp; rfl)
            (apply relW_fix
             · intro vs w' hw hf
               have hc := hS.out w' hw
               skip
               unfold okAt
               go_simp
               refine ⟨Ext.refl _, ?_⟩
               go_at_call 64
               refine (block_at0 g D.bytes.length gc (.slice vP qs.length ve) i _ hi32 hgc hsl).mono ?_; rintro e w2 ⟨rfl, hb⟩; exact ⟨_, rfl, rfl, hb⟩
             · intro vs; go_simp; rfl)
            (apply relW_fix
             · intro vs w' hw hf
               have hc := hS.out w' hw
               unfold okAt
               go_simp
               first | exact ⟨rfl, Ext.refl _⟩ | exact rfl
             · intro vs; go_simp; rfl)
            (apply relW_fix
             · intro vs w' hw hf
               have hc := hS.out w' hw
               unfold okAt
               go_simp
               first | exact ⟨rfl, Ext.refl _⟩ | exact rfl
             · intro vs; go_simp; rfl)
            (apply relW_fix
             · intro vs w' hw hf
               have hc := hS.out w' hw
               skip
               unfold okAt
               go_simp
               refine ⟨Ext.refl _, ?_⟩
               go_at_call 64
               refine (block_any bb bo b.length d (.slice none 0 0) i _ (by rw [Hne.out]; exact hi32) _hbd _hbl).mono ?_; rintro e w2 ⟨rfl, hb⟩; exact ⟨_, rfl, rfl, hb⟩
             · intro vs; go_simp; rfl)
            (apply relW_fix
             · intro vs w' hw hf
               have hc := hS.out w' hw
               unfold okAt
               go_simp
               first | exact ⟨rfl, Ext.refl _⟩ | exact rfl
             · intro vs; go_simp; rfl)
            (apply relW_fix
             · intro vs w' hw hf
               have hc := hS.out w' hw
               unfold okAt
               go_simp
               first | exact ⟨rfl, Ext.refl _⟩ | exact rfl
             · intro vs; go_simp; rfl)
            (apply relW_fix
             · intro vs w' hw hf
               have hc := hS.out w' hw
               unfold okAt
               go_simp
               first | exact ⟨rfl, Ext.refl _⟩ | exact rfl
             · intro vs; go_simp; rfl)
            (apply relW_fix
             · intro vs w' hw hf
               have hc := hS.out w' hw
               unfold okAt
               go_simp
               first | exact ⟨rfl, Ext.refl _⟩ | exact rfl
             · intro vs; go_simp; rfl)
            (apply relW_fix
             · intro vs w' hw hf
               have hc := hS.out w' hw
               skip
               unfold okAt
               go_simp
               refine ⟨Ext.refl _, ?_⟩
               go_at_call 65
               refine (isPossible_any (some ⟨g, i * 32, none⟩) (some ⟨bb, bo + i * 32, none⟩) sP sc (blkB D.bytes i) (blkB b i) (pWs D i) _ (HAi.out.ext hw) (HBi.out.ext hw) (HSS.out.ext hw) (blkB_len hi32) (blkB_len (by rw [Hne.out]; exact hi32)) hw5.out (pWs_32 Hgood.out i)).mono ?_; rintro e w2 ⟨rfl, hb⟩; rw [Hp.out]; exact ⟨_, rfl, rfl, hb⟩
             · intro vs; go_simp; rfl)
            (apply relW_fix
             · intro vs w' hw hf
               have hc := hS.out w' hw
               unfold okAt
               go_simp
               first | exact ⟨rfl, Ext.refl _⟩ | exact rfl
             · intro vs; go_simp; rfl)
            refine relW_nil fun vs w' hw hf => ?_
            refine wpList_nil ?_
            have hA1 : Hid (AllB D b (i + 1) = true) := by show _ = _; rw [AllB_succ, Hall.out, Hp.out]; rfl
            have HEw := Lib.hid (hEi'.out.trans hw)
            clear hw hf hS
            go_wp2
            go_roundw
            case rel => exact ⟨i + 1, by omega, by go_num, HEw.out, hA1⟩
            case measure => simp [intOf]; omega
          | false =>
            have Hp := Lib.hid hp
            clear hp k0 k5 hlk hown hSS
            go_wp2_with fail
            refine wp_region_rel 12 (by kernel_rfl) (by kernel_rfl) (Ext.refl wr).drew ?_
            (apply relW_fix
             · intro vs w' hw hf
               have hc := hS.out w' hw
               unfold okAt
               go_simp
               first | exact ⟨rfl, Ext.refl _⟩ | exact rfl
             · intro vs; go_simp; rfl)
            (apply relW_fix
             · intro vs w' hw hf
               have hc := hS.out w' hw
               unfold okAt
               go_simp
               first | exact ⟨rfl, Ext.refl _⟩ | exact rfl
             · intro vs; go_simp; rfl)
            (apply relW_fix
             · intro vs w' hw hf
               have hc := hS.out w' hw
               skip
               unfold okAt
               go_simp
               refine ⟨Ext.refl _, ?_⟩
               go_at_call 64
               refine (block_at0 g D.bytes.length gc (.slice vP qs.length ve) i _ hi32 hgc hsl).mono ?_; rintro e w2 ⟨rfl, hb⟩; exact ⟨_, rfl, rfl, hb⟩
             · intro vs; go_simp; rfl)
            (apply relW_fix
             · intro vs w' hw hf
               have hc := hS.out w' hw
               unfold okAt
               go_simp
               first | exact ⟨rfl, Ext.refl _⟩ | exact rfl
             · intro vs; go_simp; rfl)
            (apply relW_fix
             · intro vs w' hw hf
               have hc := hS.out w' hw
               unfold okAt
               go_simp
               first | exact ⟨rfl, Ext.refl _⟩ | exact rfl
             · intro vs; go_simp; rfl)
            (apply relW_fix
             · intro vs w' hw hf
               have hc := hS.out w' hw
               skip
               unfold okAt
               go_simp
               refine ⟨Ext.refl _, ?_⟩
               go_at_call 64
               refine (block_any bb bo b.length d (.slice none 0 0) i _ (by rw [Hne.out]; exact hi32) _hbd _hbl).mono ?_; rintro e w2 ⟨rfl, hb⟩; exact ⟨_, rfl, rfl, hb⟩
             · intro vs; go_simp; rfl)
            (apply relW_fix
             · intro vs w' hw hf
               have hc := hS.out w' hw
               unfold okAt
               go_simp
               first | exact ⟨rfl, Ext.refl _⟩ | exact rfl
             · intro vs; go_simp; rfl)
            (apply relW_fix
             · intro vs w' hw hf
               have hc := hS.out w' hw
               unfold okAt
               go_simp
               first | exact ⟨rfl, Ext.refl _⟩ | exact rfl
             · intro vs; go_simp; rfl)
            (apply relW_fix
             · intro vs w' hw hf
               have hc := hS.out w' hw
               unfold okAt
               go_simp
               first | exact ⟨rfl, Ext.refl _⟩ | exact rfl
             · intro vs; go_simp; rfl)
            (apply relW_fix
             · intro vs w' hw hf
               have hc := hS.out w' hw
               unfold okAt
               go_simp
               first | exact ⟨rfl, Ext.refl _⟩ | exact rfl
             · intro vs; go_simp; rfl)
            (apply relW_fix
             · intro vs w' hw hf
               have hc := hS.out w' hw
               skip
               unfold okAt
               go_simp
               refine ⟨Ext.refl _, ?_⟩
               go_at_call 65
               refine (isPossible_any (some ⟨g, i * 32, none⟩) (some ⟨bb, bo + i * 32, none⟩) sP sc (blkB D.bytes i) (blkB b i) (pWs D i) _ (HAi.out.ext hw) (HBi.out.ext hw) (HSS.out.ext hw) (blkB_len hi32) (blkB_len (by rw [Hne.out]; exact hi32)) hw5.out (pWs_32 Hgood.out i)).mono ?_; rintro e w2 ⟨rfl, hb⟩; rw [Hp.out]; exact ⟨_, rfl, rfl, hb⟩
             · intro vs; go_simp; rfl)
            (apply relW_fix
             · intro vs w' hw hf
               have hc := hS.out w' hw
               unfold okAt
               go_simp
               first | exact ⟨rfl, Ext.refl _⟩ | exact rfl
             · intro vs; go_simp; rfl)
            refine relW_nil fun vs w' hw hf => ?_
            refine wpList_nil ?_
            have hr : Hid (pPossR D b = false) := by
              have h1 : AllB D b (i + 1) = false := by rw [AllB_succ, Hp.out, Bool.and_false]
              have h2 := AllB_false D b (i + 1) (D.bytes.length / 32) h1 (by omega)
              unfold AllB at h2
              show _ = _
              unfold pPossR
              rw [h2, Bool.and_false]
            have HEw := Lib.hid ((hE9.out.trans hEi'.out).trans hw)
            clear hw hf hS
            go_wp2
            go_ret2
            exact ⟨by rw [he.out, hr.out]; rfl, HEw.out⟩
        · obtain rfl : i = D.bytes.length / 32 := by omega
          have hr : Hid (pPossR D b = true) := by
            show _ = _
            unfold pPossR
            rw [he.out, decide_eq_true rfl, Bool.true_and]
            exact Hall.out
          have HE10 := Lib.hid (hE9.out.trans hEi)
          clear hEi
          go_wp2
          go_ret2
          exact ⟨by rw [he.out, hr.out]; rfl, HE10.out⟩
    · obtain ⟨k, kP, kc, ek, ev, hkn⟩ := Hent.out e he
      rw [ek, ev] at hn hen
      by_cases h5 : (grp qs k).length ≤ 5
      · obtain ⟨h6, h7⟩ := hkx ⟨k, ek, h5⟩
        have t5 : ¬ ((5 : Int) < ((grp qs k).length : Int)) := by omega
        have H6 := Lib.hid h6
        have H7 := Lib.hid h7
        clear h6 h7 hrel hgx hkx
        go_wp2
        go_roundw
        case rel => exact H6.out
        case measure => exact H7.out
      · have t5 : ((5 : Int) < ((grp qs k).length : Int)) := by omega
        have HX : Hid (Ext w wx) := by
          have h := hE4.out.trans HE3.out
          exact Below.trans hE4.out ((Below.mono HE3.out (by have := hE4.out.size; omega)).grown hgx (Nat.le_trans hE4.out.size HE3.out.size) (fun j e => by cases e; exact hE4.out.size))
        have he : Hid (pPossE D b = 5) := by
          show _ = _
          unfold pPossE
          rw [if_pos Hgood.out, if_pos Hne.out, if_pos]
          obtain ⟨q, hq⟩ := List.exists_mem_of_ne_nil _ hkn
          obtain ⟨q1, q2⟩ := List.mem_filter.1 hq
          have hqd : q.1 ∈ D.pend := by rw [← Hqs.out]; exact List.mem_map_of_mem q1
          obtain ⟨m, hm, hmn, _⟩ := okWr_iff (hc5 q.1 hqd)
          have hkm : k = (m : Int) := by rw [← beq_iff_eq.1 q2]; exact hm
          refine List.any_eq_true.2 ⟨m, List.mem_range.2 hmn, ?_⟩
          rw [← grp_length D qs Hqs.out m, ← hkm]
          exact decide_eq_true (by omega)
        have hr : Hid (pPossR D b = false) := by show _ = _; unfold pPossR; rw [he.out]; rfl
        clear hrel hgx hkx h5
        go_wp2
        go_ret2
        exact ⟨by rw [he.out, hr.out]; rfl, HX.out⟩

theorem possF_any (A P B : Option Addr) (c p d : Nat) (D : Dk) (b : BL) (w : World) (hA : By w A D.bytes) (hP : Ws w P D.pend) (_hB : By w B b) (hsm : Small D) (_hbd : b.length ≤ d) (_hbl : b.length ≤ 100000) : Calls Try.prog 29 #[.agg #[.slice A D.bytes.length c, .slice P D.pend.length p], .slice B b.length d] w (RetP w (pPossE D b) (pPossR D b)) := by
  by_cases h1 : pCheck D = 0
  · by_cases h2 : b.length = D.bytes.length
    · exact poss_good A P B c p d D b w hA hP _hB hsm _hbd _hbl h1 h2
    · exact poss_len A P B c p d D b w hA hP _hB hsm _hbd _hbl h1 h2
  · exact poss_bad A P B c p d D b w hA hP _hB hsm _hbd _hbl h1
end Go.Proofs.Ytdlalmbnkcadfaa
