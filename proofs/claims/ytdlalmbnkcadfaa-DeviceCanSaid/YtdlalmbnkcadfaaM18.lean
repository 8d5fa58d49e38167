/- device: Read. -/
import Derived.Test.YtdlalmbnkcadfaaM17
namespace Go.Proofs.Ytdlalmbnkcadfaa
open Go.RowKit

def inB (D : Dk) (n : Int) : Bool := decide (0 ≤ n ∧ n ≤ ((D.bytes.length / 32 : Nat) : Int) - 1)
def pRead (D : Dk) (n : Int) : Int := if pCheck D = 0 then (if inB D n = true then 0 else 3) else pCheck D
def pReadB (D : Dk) (n : Int) : BL := if pRead D n = 0 then ((pFl D.bytes D.pend).drop (n.toNat * 32)).take 32 else []
/-- What a call hands back: bytes and an error. -/
def RetB (w : World) (er : Int) (bs : BL) (e : Ending) (w' : World) : Prop :=
  ∃ A c, e = .returned (.tuple #[.slice A bs.length c, .int .i64 er]) ∧ Ext w w' ∧ bs.length ≤ c ∧ By w' A bs
theorem out3 (lo hi n : Int) : (!([n].any (outB lo hi))) = decide (lo ≤ n ∧ n ≤ hi) := by
  by_cases h : lo ≤ n ∧ n ≤ hi
  · rw [decide_eq_true h]; simp [outB]; omega
  · rw [decide_eq_false h]; simp [outB]; omega

set_option maxRecDepth 100000 in
set_option maxHeartbeats 1000000 in
theorem read_bad (A P : Option Addr) (c p : Nat) (D : Dk) (n : Int) (w : World) (hA : By w A D.bytes) (hP : Ws w P D.pend) (hsm : Small D) (hbad : pCheck D ≠ 0) :
    Calls Try.prog 40 #[.agg #[.slice A D.bytes.length c, .slice P D.pend.length p], .int .i64 n] w (RetB w (pCheck D) []) := by
  go_enter Try.func40, Try.ntmps40
  go_wp2_with fail
  obtain ⟨W, hW, hE, hz, k0⟩ := box1 w #[.slice A D.bytes.length c, .slice P D.pend.length p] 25
  rw [hW]; clear hW
  have c0 := k0.cell 0
  have c1 := k0.cell 1
  simp at c0 c1
  go_wp2_with fail
  refine (open_any A P c p D W (hA.ext hE) (hP.ext hE) hsm).mono ?_
  rintro e w1 ⟨v, rfl, h1, h2, h3⟩
  obtain rfl := h3 hbad
  have t2 : (pCheck D != 0) = true := by simpa using hbad
  have hE1 := Lib.hid (hE.trans h1)
  clear h1 h2 h3 hbad c0 c1 k0 hA hP hE hz
  unfold zeroDk
  go_wp2
  refine bodyPost_ret (v := .tuple #[.slice none 0 0, .int .i64 (pCheck D)]) (by simp [results, Try.results40, go_sem]) rfl ⟨none, 0, rfl, hE1.out.alloc _, Nat.le_refl _, By.nil _ _⟩

set_option maxRecDepth 100000 in
set_option maxHeartbeats 1000000 in
theorem read_out (A P : Option Addr) (c p : Nat) (D : Dk) (n : Int) (w : World) (hA : By w A D.bytes) (hP : Ws w P D.pend) (hsm : Small D) (hgood : pCheck D = 0) (hin : inB D n = false) :
    Calls Try.prog 40 #[.agg #[.slice A D.bytes.length c, .slice P D.pend.length p], .int .i64 n] w (RetB w 3 []) := by
  have hnn : Hid ((!([n].any (outB 0 (((D.bytes.length / 32 : Nat) : Int) - 1)))) = false) := by rw [out3]; exact hin
  clear hin
  go_enter Try.func40, Try.ntmps40
  go_wp2_with fail
  obtain ⟨W, hW, hE, hz, k0⟩ := box1 w #[.slice A D.bytes.length c, .slice P D.pend.length p] 25
  rw [hW]; clear hW
  have c0 := k0.cell 0
  have c1 := k0.cell 1
  simp at c0 c1
  go_wp2_with fail
  refine (open_any A P c p D W (hA.ext hE) (hP.ext hE) hsm).mono ?_
  rintro e w1 ⟨v, rfl, h1, h2, h3⟩
  have t1 : (pCheck D != 0) = false := by simp [hgood]
  have hO := h2 hgood
  obtain ⟨vA, vn, vc, vP, vm, ve, rfl⟩ := hO.form
  have hL1 := hO.ld h1.size ((Ext.refl w1).alloc (.cells #[.slice vA vn vc, .slice vP vm ve] 84)) (Bk.new _ _ _)
  obtain ⟨g, gc, hvv⟩ : ∃ g gc, (Value.slice vA vn vc) = .slice (some ⟨g, 0, none⟩) D.bytes.length gc := by
    obtain ⟨g, gc, Pv, qs, hv, _⟩ := hO
    simp only [Value.agg.injEq, Array.mk.injEq, List.cons.injEq, and_true] at hv
    exact ⟨_, _, hv.1⟩
  simp only [Value.slice.injEq] at hvv
  obtain ⟨rfl, rfl, rfl⟩ := hvv
  have HL1 := Lib.hid hL1
  have a1 := Bk.new w1 #[.slice (some ⟨g, 0, none⟩) D.bytes.length vc, .slice vP vm ve] 84
  have b0 := a1.cell 0
  have b1 := a1.cell 1
  simp at b0 b1
  have hE1 := Lib.hid ((hE.trans h1).alloc (.cells #[.slice (some ⟨g, 0, none⟩) D.bytes.length vc, .slice vP vm ve] 84))
  have hs1 := Lib.hid h1.size
  have hl3 := hsm.1
  clear h1 h2 h3 hO c0 c1 k0 hA hP hE hL1
  go_wp2_with fail
  refine (blocks_any (some ⟨g, 0, none⟩) vP D.bytes.length vc vm ve _ (by omega)).mono ?_
  rintro e w2 ⟨rfl, h2⟩
  have a2 := a1.ext h2
  go_wp2_with fail
  refine (within_b false _ _ [n] _ _ _ (by simp) ?_ ?_).mono ?_
  · exact Is.one (new_cell0 _ _ _ _)
  · exact hnn.out
  rintro e w3 ⟨rfl, h3⟩
  have h23 := (h2.trans ((Ext.refl w2).alloc (.cells #[.int .i64 n] 3))).trans h3
  have HE := Lib.hid (hE1.out.trans h23)
  clear h2 h3 h23 a1 a2 b0 b1 hE1
  go_wp2
  refine bodyPost_ret (v := .tuple #[.slice none 0 0, .int .i64 3]) (by simp [results, Try.results40, go_sem]) rfl ⟨none, 0, rfl, HE.out, Nat.le_refl _, By.nil _ _⟩
set_option maxRecDepth 100000 in
set_option maxHeartbeats 1000000 in
theorem read_ok (A P : Option Addr) (c p : Nat) (D : Dk) (k : Nat) (w : World) (hA : By w A D.bytes) (hP : Ws w P D.pend) (hsm : Small D) (hgood : pCheck D = 0) (hin : inB D (k : Int) = true) :
    Calls Try.prog 40 #[.agg #[.slice A D.bytes.length c, .slice P D.pend.length p], .int .i64 (k : Int)] w (RetB w 0 (((pFl D.bytes D.pend).drop (k * 32)).take 32)) := by
  obtain ⟨n, hnk⟩ : ∃ n : Int, n = k := ⟨_, rfl⟩
  have Hnk := Lib.hid hnk
  have hin2 := hin
  rw [← hnk] at hin ⊢
  clear hnk
  have hnn : Hid ((!([n].any (outB 0 (((D.bytes.length / 32 : Nat) : Int) - 1)))) = true) := by rw [out3]; exact hin
  have hkb : Hid (k * 32 + 32 ≤ D.bytes.length) := by have := of_decide_eq_true hin2; show _ ≤ _; omega
  have hok := Lib.hid (pCheck_ok hgood).2.2.2.2
  clear hin hin2
  go_enter Try.func40, Try.ntmps40
  go_wp2_with fail
  obtain ⟨W, hW, hE, hz, k0⟩ := box1 w #[.slice A D.bytes.length c, .slice P D.pend.length p] 25
  rw [hW]; clear hW
  have c0 := k0.cell 0
  have c1 := k0.cell 1
  simp at c0 c1
  go_wp2_with fail
  refine (open_any A P c p D W (hA.ext hE) (hP.ext hE) hsm).mono ?_
  rintro e w1 ⟨v, rfl, h1, h2, h3⟩
  have t1 : (pCheck D != 0) = false := by simp [hgood]
  have hO := h2 hgood
  obtain ⟨vA, vn, vc, vP, vm, ve, rfl⟩ := hO.form
  have hL1 := hO.ld h1.size ((Ext.refl w1).alloc (.cells #[.slice vA vn vc, .slice vP vm ve] 84)) (Bk.new _ _ _)
  obtain ⟨g, gc, hvv⟩ : ∃ g gc, (Value.slice vA vn vc) = .slice (some ⟨g, 0, none⟩) D.bytes.length gc := by
    obtain ⟨g, gc, Pv, qs, hv, _⟩ := hO
    simp only [Value.agg.injEq, Array.mk.injEq, List.cons.injEq, and_true] at hv
    exact ⟨_, _, hv.1⟩
  simp only [Value.slice.injEq] at hvv
  obtain ⟨rfl, rfl, rfl⟩ := hvv
  have HL1 := Lib.hid hL1
  have a1 := Bk.new w1 #[.slice (some ⟨g, 0, none⟩) D.bytes.length vc, .slice vP vm ve] 84
  have b0 := a1.cell 0
  have b1 := a1.cell 1
  simp at b0 b1
  have hE1 := Lib.hid ((hE.trans h1).alloc (.cells #[.slice (some ⟨g, 0, none⟩) D.bytes.length vc, .slice vP vm ve] 84))
  have hs1 := Lib.hid h1.size
  have hl3 := hsm.1
  clear h1 h2 h3 hO c0 c1 k0 hA hP hE hL1
  go_wp2_with fail
  refine (blocks_any (some ⟨g, 0, none⟩) vP D.bytes.length vc vm ve _ (by omega)).mono ?_
  rintro e w2 ⟨rfl, h2⟩
  have a2 := a1.ext h2
  go_wp2_with fail
  refine (within_b true _ _ [n] _ _ _ (by simp) ?_ ?_).mono ?_
  · exact Is.one (new_cell0 _ _ _ _)
  · exact hnn.out
  rintro e w3 ⟨rfl, h3⟩
  have h23 := (h2.trans ((Ext.refl w2).alloc (.cells #[.int .i64 n] 3))).trans h3
  have hL3 := HL1.out.ext h23
  have HE := Lib.hid (hE1.out.trans h23)
  have hB3 : Hid (W.heap.size ≤ w3.heap.size) := by have := hs1.out; have := h23.size; simp at this; show _ ≤ _; omega
  clear h2 h3 h23 a1 a2 b0 b1 hE1 HL1
  go_wp2_with fail
  refine (flush_ld w1.heap.size W.heap.size D w3 hL3 hB3.out hsm hok.out).mono ?_
  rintro e w4 ⟨rfl, hL4, h4⟩
  obtain ⟨g4, c4, Pv4, qs4, k4, hO4, hP4, hq4, hB4, hX4, hc4⟩ := hL4
  obtain ⟨P4, e4, rfl, _⟩ := hP4.form
  have hlen4 : (pFl D.bytes D.pend).length = D.bytes.length := pFl_len hok.out
  have d0 := k4.cell 0
  have d1 := k4.cell 1
  simp at d0 d1
  rw [hlen4] at d0 hc4
  have HO4 := Lib.hid hO4
  have HE4 : Hid (Ext w w4) := Below.trans HE.out (Below.mono h4 (by have := hz.out; omega))
  clear hL3 hO4 hP4 k4 h4 HE
  go_wp2_with fail
  rw [Hnk.out]
  refine (block_any g4 0 D.bytes.length c4 (.slice P4 qs4.length e4) k w4 hkb.out hc4 hsm.1).mono ?_
  rintro e w5 ⟨rfl, h5⟩
  have HE5 := Lib.hid (HE4.out.trans h5)
  have HB5 := Lib.hid ((HO4.out.sub (k * 32) 32 (by rw [hlen4]; exact hkb.out)).ext h5)
  have hl5 : (((pFl D.bytes D.pend).drop (k * 32)).take 32).length = 32 := by have := hkb.out; simp; omega
  clear h5 d0 d1
  go_wp2
  refine bodyPost_ret (v := .tuple #[.slice (some ⟨g4, 0 + k * 32, none⟩) 32 32, .int .i64 0]) (by simp [results, Try.results40, go_sem]) rfl ⟨(some ⟨g4, 0 + k * 32, none⟩), 32, by rw [hl5], HE5.out, by rw [hl5]; exact Nat.le_refl _, ?_⟩
  rw [Nat.zero_add]
  exact HB5.out
theorem read_any (A P : Option Addr) (c p : Nat) (D : Dk) (n : Int) (w : World) (hA : By w A D.bytes) (hP : Ws w P D.pend) (hsm : Small D) :
    Calls Try.prog 40 #[.agg #[.slice A D.bytes.length c, .slice P D.pend.length p], .int .i64 n] w (RetB w (pRead D n) (pReadB D n)) := by
  by_cases h1 : pCheck D = 0
  · by_cases h2 : inB D n = true
    · have e1 : pRead D n = 0 := by unfold pRead; rw [if_pos h1, if_pos h2]
      have h3 := of_decide_eq_true h2
      obtain ⟨k, rfl⟩ : ∃ k : Nat, n = k := ⟨n.toNat, by omega⟩
      have e2 : pReadB D (k : Int) = ((pFl D.bytes D.pend).drop (k * 32)).take 32 := by unfold pReadB; rw [if_pos e1]; simp
      rw [e1, e2]
      exact read_ok A P c p D k w hA hP hsm h1 h2
    · have e1 : pRead D n = 3 := by unfold pRead; rw [if_pos h1, if_neg h2]
      have e2 : pReadB D n = [] := by unfold pReadB; rw [e1]; rfl
      rw [e1, e2]
      exact read_out A P c p D n w hA hP hsm h1 (by simpa using h2)
  · have e1 : pRead D n = pCheck D := by unfold pRead; rw [if_neg h1]
    have e2 : pReadB D n = [] := by unfold pReadB; rw [e1, if_neg h1]
    rw [e1, e2]
    exact read_bad A P c p D n w hA hP hsm h1
end Go.Proofs.Ytdlalmbnkcadfaa
/- device: crash. -/
namespace Go.Proofs.Ytdlalmbnkcadfaa
open Go.RowKit

/-- The bytes behind a crash. -/
def crStep (ws : List Wr) (part : List Int) (b : BL) (i : Int) : BL := match ws[i.toNat]? with
  | some x => put1 b x.blk.toNat x.bs (part[i.toNat]?.getD 0).toNat
  | none => b
def pCr (bytes : BL) (ws : List Wr) (F : Ft) : BL := F.order.foldl (crStep ws F.part) bytes
theorem crStep_length (nb : Nat) (ws : List Wr) (part : List Int) (b : BL) (i : Int) (hn : nb * 32 ≤ b.length) (hok : ∀ x ∈ ws, okWr nb x = true) (hp : ∀ p ∈ part, 0 ≤ p ∧ p ≤ 32) : (crStep ws part b i).length = b.length := by
  unfold crStep
  cases hx : ws[i.toNat]? with
  | none => rfl
  | some x =>
    obtain ⟨k, hk, hlt, hl⟩ := okWr_iff (hok x (List.mem_of_getElem? hx))
    have hpp : (part[i.toNat]?.getD 0).toNat ≤ 32 := by
      cases hq : part[i.toNat]? with
      | none => simp
      | some q => have := hp q (List.mem_of_getElem? hq); simp; omega
    exact put1_length _ _ _ _ (by omega) (by rw [hk]; simp; omega)
theorem cr_length (nb : Nat) (ws : List Wr) (part : List Int) (hok : ∀ x ∈ ws, okWr nb x = true) (hp : ∀ p ∈ part, 0 ≤ p ∧ p ≤ 32) : ∀ (l : List Int) (b : BL), nb * 32 ≤ b.length → (l.foldl (crStep ws part) b).length = b.length
  | [], _, _ => rfl
  | i :: r, b, hn => by
    have h1 := crStep_length nb ws part b i hn hok hp
    rw [List.foldl_cons, cr_length nb ws part hok hp r _ (by omega), h1]

def CrInv (w wr : World) (A P : Option Addr) (B xb xf g c n : Nat) (Pv : Value) (fv : Array Value) (qs : List Rec) (bytes : BL) (F : Ft) (k : Nat) : Prop :=
  Below B w wr ∧ Bk wr xb #[.slice (some ⟨g, 0, none⟩) n c, Pv] 84 ∧ Bk wr xf fv 34 ∧ OB wr g c ((F.order.take k).foldl (crStep (qs.map Prod.fst) F.part) bytes) ∧ PO wr B [g, xb] Pv qs ∧ Is wr A F.order ∧ Is wr P F.part

set_option maxRecDepth 100000 in
set_option maxHeartbeats 2000000 in
theorem crash_any (xb g c B : Nat) (Pv : Value) (qs : List Rec) (bytes : BL) (F : Ft) (A P : Option Addr) (c1 d : Nat) (w : World) (hx : Bk w xb #[.slice (some ⟨g, 0, none⟩) bytes.length c, Pv] 84) (hO : OB w g c bytes) (hPO : PO w B [g, xb] Pv qs)
    (hA : Is w A F.order) (hP : Is w P F.part) (hAB : F.order.length ≤ 100000)
    (hBx : B ≤ xb) (hBg : B ≤ g) (hB : B ≤ w.heap.size) (hsm : bytes.length ≤ 100000) (hok : ∀ q ∈ qs, okWr (bytes.length / 32) q.1 = true)
    (hlow : F.order ≠ [] → ∀ a, A = some a → a.block ≠ g) (hlow2 : F.part ≠ [] → ∀ a, P = some a → a.block ≠ g)
    (ho : ∀ i ∈ F.order, 0 ≤ i ∧ i < qs.length) (hpl : F.part.length = qs.length) (hp : ∀ p ∈ F.part, 0 ≤ p ∧ p ≤ 32) :
    Calls Try.prog 59 #[.pointer (some ⟨xb, 0, none⟩), .agg #[.slice A F.order.length c1, .slice P F.part.length d]] w fun e w' => e = .returned (.tuple #[]) ∧ Below B w w' ∧
      Bk w' xb #[.slice (some ⟨g, 0, none⟩) bytes.length c, .slice none 0 0] 84 ∧ OB w' g c (pCr bytes (qs.map Prod.fst) F) := by
  obtain ⟨PA, pc, rfl, hpc⟩ := hPO.form
  have Hpl := Lib.hid hpl
  have Ho := Lib.hid ho
  have Hp := Lib.hid hp
  clear hpl ho hp
  go_enter Try.func59, Try.ntmps59
  go_wp2_with fail
  obtain ⟨W, hW, hE, hz, k0⟩ := box1 w #[.slice A F.order.length c1, .slice P F.part.length d] 34
  rw [hW]; clear hW
  have c00 := k0.cell 0
  simp at c00
  go_wp2_with fail
  go_loopw [9] (fun i wr => ∃ k : Nat, k ≤ F.order.length ∧ i = .int .i64 k ∧ CrInv w wr A P B xb w.heap.size g c bytes.length (.slice PA qs.length pc) #[.slice A F.order.length c1, .slice P F.part.length d] qs bytes F k) (fun i _ => F.order.length - (intOf i).toNat)
  case atStart => exact ⟨0, Nat.zero_le _, rfl, Below.mono hE hB, hx.ext hE, k0, hO.ext hE, hPO.ext hE, hA.ext hE, hP.ext hE⟩
  case round =>
    obtain ⟨k, hk, rfl, hEr, jx, jf, hOr, hPr, hAr, hFr⟩ := hrel
    by_cases hlt : k < F.order.length
    · obtain ⟨ob, oo, rfl, hoc⟩ := hAr.at hlt
      have hoi := Ho.out F.order[k] (List.getElem_mem hlt)
      obtain ⟨i, hi⟩ : ∃ i : Nat, F.order[k] = (i : Int) := ⟨F.order[k].toNat, by omega⟩
      have hiq : i < qs.length := by omega
      have hif : i < F.part.length := by have := Hpl.out; omega
      obtain ⟨fb, fo, rfl, hfc⟩ := hFr.at hif
      obtain ⟨r, pc', hv, hBr, e1, e2⟩ := hPr.at hiq
      simp only [Value.slice.injEq, true_and] at hv
      obtain ⟨rfl, rfl⟩ := hv
      have x0 := jx.cell 0
      have x1 := jx.cell 1
      have y1 := jf.cell 1
      simp at x0 x1 y1
      have Hi := Lib.hid hi
      rw [hi] at hoc
      clear hi hoi
      have hS := Lib.hid (fun w' (h : Ext wr w') => (⟨h, (jx.ext h).cell 0, (jx.ext h).cell 1, cellExt h y1, cellExt h hfc, cellExt h e1, cellExt h e2⟩ : Ext wr w' ∧ w'.cell? ⟨xb, 0, none⟩ = some (.slice (some ⟨g, 0, none⟩) bytes.length c) ∧ w'.cell? ⟨xb, 1, none⟩ = some (.slice (some ⟨r, 0, none⟩) qs.length pc) ∧ w'.cell? ⟨w.heap.size, 1, none⟩ = some (.slice (some ⟨fb, fo, none⟩) F.part.length d) ∧ w'.cell? ⟨fb, fo + i, none⟩ = some (.int .i64 F.part[i]) ∧ w'.cell? ⟨r, i * 2, none⟩ = some (.int .i64 qs[i].1.blk) ∧ w'.cell? ⟨r, i * 2 + 1, none⟩ = some (.slice qs[i].2.1 qs[i].1.bs.length qs[i].2.2)))
      go_wp2_with fail
      refine wp_region_rel 16 (by kernel_rfl) (by kernel_rfl) (Ext.refl wr).drew ?_
      repeat (apply relW_fix
              · intro vs w' hw hf
                have hc := hS.out w' hw
                unfold okAt
                go_simp
                first | exact ⟨rfl, Ext.refl _⟩ | exact rfl
              · intro vs; go_simp; rfl)
      refine relW_nil fun vs w6 hw hf => ?_
      have hoki := hok qs[i] (List.getElem_mem hiq)
      obtain ⟨kb, hkb, hkn, hbl⟩ := okWr_iff hoki
      have hE6 : Ext wr w6 := hw
      obtain ⟨hq1, hq2, hq3⟩ := hPr.one qs[i] (List.getElem_mem hiq)
      have hpi := Hp.out F.part[i] (List.getElem_mem hif)
      have hlen : ((F.order.take k).foldl (crStep (qs.map Prod.fst) F.part) bytes).length = bytes.length := cr_length (bytes.length / 32) _ _ (fun x hx => by
        obtain ⟨q, hq, rfl⟩ := List.mem_map.1 hx
        exact hok q hq) Hp.out _ _ (by omega)
      have hstep : Hid ((F.order.take (k + 1)).foldl (crStep (qs.map Prod.fst) F.part) bytes = put1 ((F.order.take k).foldl (crStep (qs.map Prod.fst) F.part) bytes) qs[i].1.blk.toNat qs[i].1.bs F.part[i].toNat) := by
        show _ = _
        rw [List.take_succ_eq_append_getElem hlt, List.foldl_append, Hi.out]
        simp [crStep, hiq, hif]
      generalize (F.order.take k).foldl (crStep (qs.map Prod.fst) F.part) bytes = cur at hOr hlen hstep
      have Hlen := Lib.hid hlen
      have hgo := Lib.hid (reach_int g c (.slice (some ⟨r, 0, none⟩) qs.length pc) cur qs[i].1.bs qs[i].2.1 qs[i].2.2 qs[i].1.blk F.part[i] w6 (hOr.ext hE6) (by rw [hlen]; exact hsm) (hq2.ext hE6)
        (by rw [hkb]; omega) (by rw [hkb, hlen]; simp; omega) (by omega) (by rw [hbl]; omega) (by omega) hq1)
      rw [hlen] at hgo
      clear hlen hkb hbl x0 x1 y1 e1 e2 hfc hoc hoki hpi
      have HEr := Lib.hid hEr
      simp only [List.drop]
      go_wp2_with fail
      refine hgo.out.mono ?_
      rintro e w7 ⟨rfl, hO7, hg7⟩
      have nX : (84 : Nat) ≠ 5 := by decide
      have hbg : ∃ cur, Bk wr g cur 5 := by obtain ⟨m, _, h⟩ := hOr; exact ⟨_, h⟩
      obtain ⟨cur2, hcur⟩ := hbg
      have hPO7 := Lib.hid ((hPr.ext hE6).grown hg7 (by simp) (hcur.not_own hPr.own (by decide)))
      have hx7 := Lib.hid ((jx.ext hE6).grown hg7 (fun e => Bk.ne jx hcur nX (Option.some.inj e)))
      have hf7 := Lib.hid ((jf.ext hE6).grown hg7 (fun e => Bk.ne jf hcur (by decide) (Option.some.inj e)))
      have hA7 := Lib.hid ((hAr.ext hE6).grown (fun a ha e => hlow (fun h => by rw [h] at hlt; simp at hlt) a ha (Option.some.inj e)) hg7)
      have hF7 := Lib.hid ((hFr.ext hE6).grown (fun a ha e => hlow2 (fun h => by rw [h] at hif; simp at hif) a ha (Option.some.inj e)) hg7)
      have hE7 : Hid (Below B w w7) := (HEr.out.trans (Below.mono hE6 (by have := HEr.out.size; omega))).grown hg7 (by have := HEr.out.size; have := hE6.size; omega) (fun k hk => by obtain rfl := Option.some.inj hk; exact hBg)
      have hO7' := Lib.hid hO7
      clear hO7 hg7 hcur hgo hPr jx jf hS hE6 hw hEr hOr hq1 hq2 hq3 hAr hFr hf
      go_wp2
      go_roundw
      case rel =>
        refine ⟨k + 1, by omega, by go_num, hE7.out, hx7.out, hf7.out, ?_, hPO7.out, hA7.out, hF7.out⟩
        rw [hstep.out]
        exact hO7'.out
      case measure => simp [intOf]; omega
    · obtain rfl : k = F.order.length := by omega
      have x0 := jx.cell 0
      have x1 := jx.cell 1
      have f1 := jx.frozen 1
      simp at x0 x1
      have Hjx := Lib.hid jx
      have HEr := Lib.hid hEr
      clear jx hEr
      go_wp2
      go_end0
      have hne : g ≠ xb := by obtain ⟨m, _, h⟩ := hOr; exact Bk.ne h Hjx.out (by decide)
      refine ⟨rfl, HEr.out.setCell (by exact hBx) _, Hjx.out.set 1 _, ?_⟩
      rw [List.take_length] at hOr
      exact hOr.far hne _
end Go.Proofs.Ytdlalmbnkcadfaa
