/- device: isFate. -/
import Derived.Test.YtdlalmbnkcadfaaM19
namespace Go.Proofs.Ytdlalmbnkcadfaa
open Go.RowKit

def rgI (n : Nat) : List Int := (pFitO ⟨[], []⟩ n).map fun i : Nat => (i : Int)
def pIsFate (n : Nat) (F : Ft) : Bool := decide (F.part.length = n) && (!F.part.any (outB 0 32)) && (pSorted F.order == rgI n)
set_option maxRecDepth 100000 in
set_option maxHeartbeats 1000000 in
theorem isFate_len (b1 P A Q : Option Addr) (b2 b3 m e' c d : Nat) (F : Ft) (w : World) (hne : F.part.length ≠ m) :
    Calls Try.prog 58 #[.agg #[.slice b1 b2 b3, .slice P m e'], .agg #[.slice A F.order.length c, .slice Q F.part.length d]] w fun e w' => e = .returned (.bool (pIsFate m F)) ∧ Ext w w' := by
  have hr : Hid (pIsFate m F = false) := by show _ = _; unfold pIsFate; rw [decide_eq_false hne]; rfl
  have t1 : (((F.part.length : Nat) : Int) != (m : Int)) = true := by simp; omega
  clear hne
  go_enter Try.func58, Try.ntmps58
  go_wp2_with fail
  obtain ⟨W, hW, hE, hz, k0, k1⟩ := box2 w #[.slice b1 b2 b3, .slice P m e'] #[.slice A F.order.length c, .slice Q F.part.length d] 84 34
  try (rw [hW]; clear hW)
  have c0 := k0.cell 1
  have f0 := k1.cell 0
  have f1 := k1.cell 1
  simp at c0 f0 f1
  go_wp2
  go_ret
  exact ⟨ret_bool hr.out.symm, hE⟩
set_option maxRecDepth 100000 in
set_option maxHeartbeats 1000000 in
theorem isFate_out (b1 P A Q : Option Addr) (b2 b3 m e' c d : Nat) (F : Ft) (w : World) (hQ : Is w Q F.part) (hl : F.part.length ≤ 100000) (heq : F.part.length = m) (hout : (!F.part.any (outB 0 32)) = false) :
    Calls Try.prog 58 #[.agg #[.slice b1 b2 b3, .slice P m e'], .agg #[.slice A F.order.length c, .slice Q F.part.length d]] w fun e w' => e = .returned (.bool (pIsFate m F)) ∧ Ext w w' := by
  have hr : Hid (pIsFate m F = false) := by show _ = _; unfold pIsFate; rw [hout]; simp
  have t1 : (((F.part.length : Nat) : Int) != (m : Int)) = false := by simp [heq]
  have Heq := Lib.hid heq
  have Hout := Lib.hid hout
  clear heq hout
  go_enter Try.func58, Try.ntmps58
  go_wp2_with fail
  obtain ⟨W, hW, hE, hz, k0, k1⟩ := box2 w #[.slice b1 b2 b3, .slice P m e'] #[.slice A F.order.length c, .slice Q F.part.length d] 84 34
  try (rw [hW]; clear hW)
  have c0 := k0.cell 1
  have f0 := k1.cell 0
  have f1 := k1.cell 1
  simp at c0 f0 f1
  go_wp2_with fail
  refine (within_b false Q d F.part 0 32 _ (by omega) (hQ.ext hE) Hout.out).mono ?_
  rintro e w1 ⟨rfl, h1⟩
  have HE := Lib.hid (hE.trans h1)
  clear h1 hE c0 f0 f1
  go_wp2
  go_ret
  exact ⟨ret_bool hr.out.symm, HE.out⟩
set_option maxRecDepth 100000 in
set_option maxHeartbeats 1000000 in
theorem isFate_in (b1 P A Q : Option Addr) (b2 b3 m e' c d : Nat) (F : Ft) (w : World) (hA : Is w A F.order) (hQ : Is w Q F.part) (hl : F.part.length ≤ 100000) (hl2 : F.order.length ≤ 100000) (hm : m ≤ 64) (heq : F.part.length = m) (hout : (!F.part.any (outB 0 32)) = true) :
    Calls Try.prog 58 #[.agg #[.slice b1 b2 b3, .slice P m e'], .agg #[.slice A F.order.length c, .slice Q F.part.length d]] w fun e w' => e = .returned (.bool (pIsFate m F)) ∧ Ext w w' := by
  have hr : Hid (pIsFate m F = (pSorted F.order == rgI m)) := by show _ = _; unfold pIsFate; rw [hout, decide_eq_true heq]; simp
  have t1 : (((F.part.length : Nat) : Int) != (m : Int)) = false := by simp [heq]
  have Heq := Lib.hid heq
  have Hout := Lib.hid hout
  clear heq hout
  go_enter Try.func58, Try.ntmps58
  go_wp2_with fail
  obtain ⟨W, hW, hE, hz, k0, k1⟩ := box2 w #[.slice b1 b2 b3, .slice P m e'] #[.slice A F.order.length c, .slice Q F.part.length d] 84 34
  try (rw [hW]; clear hW)
  have c0 := k0.cell 1
  have f0 := k1.cell 0
  have f1 := k1.cell 1
  simp at c0 f0 f1
  go_wp2_with fail
  refine (within_b true Q d F.part 0 32 _ (by omega) (hQ.ext hE) Hout.out).mono ?_
  rintro e w1 ⟨rfl, h1⟩
  have HE := Lib.hid (hE.trans h1)
  have j1 := k1.ext h1
  clear h1 hE c0 f0 f1
  have f0 := j1.cell 0
  simp at f0
  go_wp2_with fail
  refine (values_any A F.order.length c w1).mono ?_
  rintro e w2 ⟨rfl, rfl⟩
  go_wp2_with fail
  refine (sorted_any w1.heap.size c A F.order _ hl2 (new_cell0 _ _ _ _) (hA.ext (HE.out.alloc _))).mono ?_
  rintro e w3 ⟨v, rfl, hS, h3⟩
  have HE3 := Lib.hid ((HE.out.alloc (.cells #[.slice A F.order.length c] 32)).trans h3)
  have HS := Lib.hid hS
  clear hS h3 f0
  go_wp2_with fail
  refine (fit_any none none 0 0 m ⟨[], []⟩ w3 (Is.nil _ _) (Is.nil _ _) hm).mono ?_
  rintro e w4 ⟨v4, rfl, h4, Ov, Pv, rfl, hO, hP, _⟩
  obtain ⟨oA, oc, rfl⟩ := hO.shape
  obtain ⟨pA, pc, rfl⟩ := hP.shape
  have HE4 := Lib.hid (HE3.out.trans h4)
  have hS4 : w4.ownsRow (w1.alloc (.cells #[.slice A F.order.length c] 32)).heap.size 3 1 v (pSorted F.order).length ((pSorted F.order).map (Value.int .i64)) := by
    have := ownsRow_ext HS.out h4
    rwa [show (pSorted F.order).length = F.order.length by simp]
  have hO4 : w4.ownsRow w3.heap.size 3 1 (.slice oA (pFitO ⟨[], []⟩ m).length oc) (rgI m).length ((rgI m).map (Value.int .i64)) := by
    have : ncells (pFitO ⟨[], []⟩ m) = (rgI m).map (Value.int .i64) := by simp [rgI, List.map_map, Function.comp_def]
    rw [← this, show (rgI m).length = (pFitO ⟨[], []⟩ m).length by simp [rgI]]
    exact hO
  have hlr : (rgI m).length ≤ 100000 := by simp [rgI, pFitO, pStable_length]; omega
  have hfd : (Instr.field 34 (.agg #[.slice oA (pFitO ⟨[], []⟩ m).length oc, .slice pA (pFitP ⟨[], []⟩ m).length pc]) 0).run Try.prog w4 = .ok (.slice oA (pFitO ⟨[], []⟩ m).length oc) w4 := by kernel_rfl
  have HQ := Lib.hid (equal_any hS4 hO4 (by simpa using hl2) hlr)
  clear hS4 hO4 hO hP h4 hlr
  go_wp2_with fail
  refine HQ.out.mono ?_
  rintro e w5 ⟨rfl, h5⟩
  have HE5 := Lib.hid (HE4.out.trans h5)
  clear h5 HQ
  go_wp2
  go_ret
  exact ⟨ret_bool hr.out.symm, HE5.out⟩
theorem isFate_any (b1 P A Q : Option Addr) (b2 b3 m e' c d : Nat) (F : Ft) (w : World) (hA : Is w A F.order) (hQ : Is w Q F.part) (hl : F.part.length ≤ 100000) (hl2 : F.order.length ≤ 100000) (hm : m ≤ 64) :
    Calls Try.prog 58 #[.agg #[.slice b1 b2 b3, .slice P m e'], .agg #[.slice A F.order.length c, .slice Q F.part.length d]] w fun e w' => e = .returned (.bool (pIsFate m F)) ∧ Ext w w' := by
  by_cases h1 : F.part.length = m
  · cases h2 : (!F.part.any (outB 0 32)) with
    | true => exact isFate_in b1 P A Q b2 b3 m e' c d F w hA hQ hl hl2 hm h1 h2
    | false => exact isFate_out b1 P A Q b2 b3 m e' c d F w hQ hl h1 h2
  · exact isFate_len b1 P A Q b2 b3 m e' c d F w h1
end Go.Proofs.Ytdlalmbnkcadfaa
/- plain: a stable sort whose key is constant moves nothing. -/
namespace Go.Proofs.Ytdlalmbnkcadfaa

section
variable (key : Nat → Int) (hk : ∀ xs i j, ltk key xs i j = false)
include hk
theorem insIn_const (a j : Nat) (xs : List Nat) : insIn key a j xs = xs := insIn_neg key a j xs (by rw [hk]; simp)
theorem insOut_const (a : Nat) (xs : List Nat) : ∀ n, insOut key a n xs = xs
  | 0 => rfl
  | n + 1 => by rw [insOut_succ, insOut_const a xs n, insIn_const key hk]
theorem stB_const (xs : List Nat) : ∀ k, stB key k xs = xs
  | 0 => rfl
  | k + 1 => by rw [stB_succ, stB_const xs k, insOut_const key hk]
omit hk in
theorem bsr_false (p : Nat → Bool) (hp : ∀ x, p x = false) : ∀ (n i j : Nat), j - i ≤ n → bsr p i j = i
  | 0, i, j, h => bsr_end p i j (by omega)
  | n + 1, i, j, h => by
    by_cases hlt : i < j
    · rw [bsr_dn p i j hlt (hp _)]; exact bsr_false p hp n _ _ (by omega)
    · exact bsr_end p i j hlt
omit hk in
theorem bsr_true (p : Nat → Bool) (hp : ∀ x, p x = true) : ∀ (n i j : Nat), j - i ≤ n → i ≤ j → bsr p i j = j
  | 0, i, j, h, hij => by rw [bsr_end p i j (by omega)]; omega
  | n + 1, i, j, h, hij => by
    by_cases hlt : i < j
    · rw [bsr_up p i j hlt (hp _)]; exact bsr_true p hp n _ _ (by omega) (by omega)
    · rw [bsr_end p i j hlt]; omega
theorem pSym_const : ∀ (f a m b : Nat) (xs : List Nat), a < m → m < b → pSym key f a m b xs = xs
  | 0, _, _, _, _, _, _ => rfl
  | f + 1, a, m, b, xs, ham, hmb => by
    unfold pSym
    by_cases h1 : m = a + 1
    · rw [if_pos h1, bsr_false _ (fun x => hk _ _ _) _ _ _ (Nat.le_refl _), show m - 1 - a = 0 by omega]
      rfl
    · rw [if_neg h1]
      by_cases h2 : b = m + 1
      · rw [if_pos h2, bsr_true _ (fun x => by rw [hk]; rfl) _ _ _ (Nat.le_refl _) (by omega), Nat.sub_self]
        rfl
      · rw [if_neg h2]
        simp only
        by_cases h3 : (a + b) / 2 < m
        · rw [if_pos h3, if_pos h3, bsr_true _ (fun x => by rw [hk]; rfl) _ _ _ (Nat.le_refl _) (by omega)]
          rw [if_neg (fun h => by omega : ¬ ((a + b) / 2 < m ∧ m < (a + b) / 2 + m - (a + b) / 2)), if_neg (fun h => by omega : ¬ (a < (a + b) / 2 ∧ (a + b) / 2 < (a + b) / 2))]
          split
          · exact pSym_const f _ _ _ _ (by omega) (by omega)
          · rfl
        · rw [if_neg h3, if_neg h3, bsr_true _ (fun x => by rw [hk]; rfl) _ _ _ (Nat.le_refl _) (by omega)]
          rw [if_neg (fun h => by omega : ¬ (m < m ∧ m < (a + b) / 2 + m - m)), if_neg (fun h => by omega : ¬ ((a + b) / 2 < (a + b) / 2 + m - m ∧ (a + b) / 2 + m - m < b))]
          split
          · exact pSym_const f _ _ _ _ (by omega) (by omega)
          · rfl
theorem stM_const (z : Nat) (hz : 1 ≤ z) (xs : List Nat) : ∀ k, stM key z k xs = xs
  | 0 => rfl
  | k + 1 => by rw [stM_succ, stM_const z hz xs k, pSym_const key hk _ _ _ _ _ (by omega) (by omega)]
theorem stR_const (n z : Nat) (hz : 1 ≤ z) (xs : List Nat) : stR key n z xs = xs := by
  unfold stR
  simp only
  rw [stM_const key hk z hz]
  split
  · exact pSym_const key hk _ _ _ _ _ (by omega) (by omega)
  · rfl
theorem stF_const (n : Nat) : ∀ (f z : Nat) (xs : List Nat), 1 ≤ z → stF key n f z xs = xs
  | 0, _, _, _ => rfl
  | f + 1, z, xs, hz => by
    unfold stF
    split
    · rw [stR_const key hk n z hz, stF_const n f _ _ (by omega)]
    · rfl
theorem pStable_const (xs : List Nat) : pStable key xs = xs := by
  unfold pStable
  rw [stB_const key hk, insOut_const key hk, stF_const key hk _ _ _ _ (by omega)]
end
theorem rgI_eq (n : Nat) : rgI n = (List.range n).map fun i : Nat => (i : Int) := by
  unfold rgI pFitO
  rw [pStable_const _ fun xs i j => by simp [ltk, atI]]
/-- A fate that is one: its order's numbers lie in 0 .. n-1, each once; its parts in 0 .. 32. -/
theorem pIsFate_ok {n : Nat} {F : Ft} (h : pIsFate n F = true) : F.part.length = n ∧ (∀ p ∈ F.part, 0 ≤ p ∧ p ≤ 32) ∧ F.order.Perm ((List.range n).map fun i : Nat => (i : Int)) := by
  unfold pIsFate at h
  simp only [Bool.and_eq_true, decide_eq_true_eq, Bool.not_eq_true', beq_iff_eq] at h
  obtain ⟨⟨h1, h2⟩, h3⟩ := h
  refine ⟨h1, fun p hp => ?_, ?_⟩
  · have := List.any_eq_false.1 h2 p hp
    simp [outB] at this
    omega
  · rw [rgI_eq] at h3
    have h4 : (pSorted F.order).Perm F.order := List.mergeSort_perm F.order _
    rw [h3] at h4
    exact h4.symm
theorem pIsFate_order {n : Nat} {F : Ft} (h : pIsFate n F = true) : ∀ i ∈ F.order, 0 ≤ i ∧ i < (n : Int) := fun i hi => by
  have := (pIsFate_ok h).2.2.mem_iff.1 hi
  obtain ⟨k, hk, rfl⟩ := List.mem_map.1 this
  have := List.mem_range.1 hk
  omega
end Go.Proofs.Ytdlalmbnkcadfaa
/- device: Crash. -/
namespace Go.Proofs.Ytdlalmbnkcadfaa
open Go.RowKit

theorem Is.block {w0 : World} {A : Option Addr} {xs : List Int} (h : Is w0 A xs) (hne : xs ≠ []) : ∀ a, A = some a → a.block < w0.heap.size := fun a ha => by
  have hl : 0 < xs.length := List.length_pos_iff.2 hne
  obtain ⟨b, o, e, hc⟩ := h.at hl
  rw [ha] at e
  obtain rfl := Option.some.inj e
  exact cell_lt hc
theorem crash_ld (xb B : Nat) (D : Dk) (F : Ft) (A P : Option Addr) (c1 d : Nat) (w0 w : World) (hL : LD w B xb D) (hE : Ext w0 w) (h0 : w0.heap.size ≤ B) (hB : B ≤ w.heap.size) (hsm : Small D) (hok : ∀ x ∈ D.pend, okWr (D.bytes.length / 32) x = true)
    (hA : Is w0 A F.order) (hP : Is w0 P F.part) (hl : F.order.length ≤ 100000) (hF : pIsFate D.pend.length F = true) :
    Calls Try.prog 59 #[.pointer (some ⟨xb, 0, none⟩), .agg #[.slice A F.order.length c1, .slice P F.part.length d]] w fun e w' =>
      e = .returned (.tuple #[]) ∧ LD w' B xb ⟨pCr D.bytes D.pend F, []⟩ ∧ Below B w w' := by
  obtain ⟨g, c, Pv, qs, h1, h2, h3, h4, h5, h6, h7⟩ := hL
  have hq : qs.length = D.pend.length := by rw [← h4]; simp
  obtain ⟨f1, f2, _⟩ := pIsFate_ok hF
  have f3 := pIsFate_order hF
  refine (crash_any xb g c B Pv qs D.bytes F A P c1 d w h1 h2 h3 (hA.ext hE) (hP.ext hE) hl h6 h5 hB hsm.1 (fun q hq => hok q.1 (by rw [← h4]; exact List.mem_map_of_mem hq))
    (fun hne a ha e => by have := hA.block hne a ha; omega) (fun hne a ha e => by have := hP.block hne a ha; omega) (fun i hi => by rw [hq]; exact f3 i hi) (by rw [f1, hq]) f2).mono ?_
  rintro e w' ⟨e1, e2, e3, e4⟩
  rw [h4] at e4
  have hlen : (pCr D.bytes D.pend F).length = D.bytes.length := cr_length (D.bytes.length / 32) D.pend F.part hok f2 _ _ (by omega)
  refine ⟨e1, ⟨g, c, .slice none 0 0, [], ?_, e4, PO.nil _ _ _, rfl, h5, h6, ?_⟩, e2⟩
  · rw [hlen]; exact e3
  · rw [hlen]; exact h7
end Go.Proofs.Ytdlalmbnkcadfaa
/- device: Crash. -/
namespace Go.Proofs.Ytdlalmbnkcadfaa
open Go.RowKit

def pCrash (D : Dk) (F : Ft) : Int := if pCheck D = 0 then (if pIsFate D.pend.length F = true then 0 else 3) else pCheck D
def pCrashD (D : Dk) (F : Ft) : Dk := ⟨pCr D.bytes D.pend F, []⟩
set_option maxRecDepth 100000 in
set_option maxHeartbeats 1000000 in
theorem crashF_bad (A P A' P' : Option Addr) (c p c' d' : Nat) (D : Dk) (F : Ft) (w : World) (hA : By w A D.bytes) (hP : Ws w P D.pend) (hsm : Small D) (hbad : pCheck D ≠ 0) :
    Calls Try.prog 27 #[.agg #[.slice A D.bytes.length c, .slice P D.pend.length p], .agg #[.slice A' F.order.length c', .slice P' F.part.length d']] w (RetD w (pCrash D F) (pCrashD D F)) := by
  go_enter Try.func27, Try.ntmps27
  go_wp2_with fail
  obtain ⟨W, hW, hE, hz, k0, k1, k2⟩ := box3 w #[.slice A D.bytes.length c, .slice P D.pend.length p] #[.slice A' F.order.length c', .slice P' F.part.length d'] #[.slice none 0 0, .slice none 0 0] 25 34 25
  rw [hW]; clear hW
  have c0 := k0.cell 0
  have c1 := k0.cell 1
  simp at c0 c1
  go_wp2_with fail
  refine (open_any A P c p D W (hA.ext hE) (hP.ext hE) hsm).mono ?_
  rintro e w1 ⟨v, rfl, h1, h2, h3⟩
  obtain rfl := h3 hbad
  have t1 : (pCheck D == 0) = false := by simpa using hbad
  have t2 : (pCheck D != 0) = true := by simpa using hbad
  have Hbad := Lib.hid hbad
  have j2 := (k2.ext h1).alloc (.cells #[.slice none 0 0, .slice none 0 0] 84)
  have r0 := j2.cell 0
  have r1 := j2.cell 1
  have f0 := j2.frozen 0
  have f1 := j2.frozen 1
  simp at r0 r1
  have hE1 := Lib.hid ((hE.trans h1).alloc (.cells #[.slice none 0 0, .slice none 0 0] 84))
  have Hj2 := Lib.hid j2
  clear h1 h2 h3 hbad c0 c1 k0 k1 k2 hA hP hE hz j2
  unfold zeroDk
  go_wp2
  have kk := ((Hj2.out.set 0 (.slice none 0 0)).set 1 (.slice none 0 0))
  have q0 := kk.cell 0
  have q1 := kk.cell 1
  simp only [Array.setIfInBounds_def] at q0 q1
  have he : pCrash D F = pCheck D := by unfold pCrash; rw [if_neg Hbad.out]
  refine bodyPost_ret (v := .tuple #[zeroDk, .int .i64 (pCheck D)]) (by simp [results, Try.results27, go_sem, q0, q1, zeroDk]) rfl ⟨_, by rw [he], ?_, fun h => ?_, fun _ => rfl⟩
  · exact (hE1.out.setCell (by show _ ≤ _; simp only; omega) _).setCell (by show _ ≤ _; simp only; omega) _
  · rw [he] at h; exact absurd h Hbad.out

theorem OD.form2 {w : World} {B : Nat} {v : Value} {D : Dk} (h : OD w B v D) : ∃ A c P d, v = .agg #[.slice A D.bytes.length c, .slice P D.pend.length d] := by
  obtain ⟨g, c', Pv, qs, hv, h1, h2, h3, h4, h5⟩ := h
  obtain ⟨P, e, rfl, _⟩ := h4.form
  have : qs.length = D.pend.length := by rw [← h5]; simp
  rw [this] at hv
  exact ⟨_, _, _, _, hv⟩
set_option maxRecDepth 100000 in
set_option maxHeartbeats 1000000 in
theorem crashF_err (A P A' P' : Option Addr) (c p c' d' : Nat) (D : Dk) (F : Ft) (w : World) (hA : By w A D.bytes) (hP : Ws w P D.pend) (hA' : Is w A' F.order) (hP' : Is w P' F.part) (hsm : Small D) (hFl : (F.order.length ≤ 100000 ∧ F.part.length ≤ 100000)) (hgood : pCheck D = 0) (hbad : pIsFate D.pend.length F = false) :
    Calls Try.prog 27 #[.agg #[.slice A D.bytes.length c, .slice P D.pend.length p], .agg #[.slice A' F.order.length c', .slice P' F.part.length d']] w (RetD w (pCrash D F) (pCrashD D F)) := by
  go_enter Try.func27, Try.ntmps27
  go_wp2_with fail
  obtain ⟨W, hW, hE, hz, k0, k1, k2⟩ := box3 w #[.slice A D.bytes.length c, .slice P D.pend.length p] #[.slice A' F.order.length c', .slice P' F.part.length d'] #[.slice none 0 0, .slice none 0 0] 25 34 25
  rw [hW]; clear hW
  have c0 := k0.cell 0
  have c1 := k0.cell 1
  simp at c0 c1
  go_wp2_with fail
  refine (open_any A P c p D W (hA.ext hE) (hP.ext hE) hsm).mono ?_
  rintro e w1 ⟨v, rfl, h1, h2, h3⟩
  have t1 : (pCheck D != 0) = false := by simp [hgood]
  have hO := h2 hgood
  obtain ⟨vA, vc, vP, ve, rfl⟩ := hO.form2
  have HL1 := Lib.hid (hO.ld h1.size ((Ext.refl w1).alloc _) (Bk.new w1 #[.slice vA D.bytes.length vc, .slice vP D.pend.length ve] 84))
  have j0 := Bk.new w1 #[.slice vA D.bytes.length vc, .slice vP D.pend.length ve] 84
  have j1 := (k1.ext h1).alloc (.cells #[.slice vA D.bytes.length vc, .slice vP D.pend.length ve] 84)
  have j2 := (k2.ext h1).alloc (.cells #[.slice vA D.bytes.length vc, .slice vP D.pend.length ve] 84)
  have hE1 := Lib.hid ((hE.trans h1).alloc (.cells #[.slice vA D.bytes.length vc, .slice vP D.pend.length ve] 84))
  have hs1 := Lib.hid h1.size
  have d0 := j0.cell 0
  have d1 := j0.cell 1
  have b0 := j1.cell 0
  have b1 := j1.cell 1
  simp at d0 d1 b0 b1
  have hpl := (pCheck_ok hgood).2.2.2.1
  have Hgood := Lib.hid hgood
  clear h1 h2 h3 hO c0 c1 k0 k1 k2 hA hP hE hgood
  go_wp2_with fail
  refine (isFate_any vA vP A' P' D.bytes.length vc D.pend.length ve c' d' F _ (hA'.ext hE1.out) (hP'.ext hE1.out) hFl.2 hFl.1 hpl).mono ?_
  rintro e w3 ⟨rfl, h3⟩
  have J0 := j0.ext h3
  have J1 := j1.ext h3
  have J2 := j2.ext h3
  have HL3 := Lib.hid (HL1.out.ext h3)
  have hE3 := Lib.hid (hE1.out.trans h3)
  have hs3 := Lib.hid h3.size
  clear d0 d1 b0 b1 j0 j1 j2 HL1 hE1 h3
  have b0 := J1.cell 0
  have b1 := J1.cell 1
  have r0 := J2.cell 0
  have r1 := J2.cell 1
  have f0 := J2.frozen 0
  have f1 := J2.frozen 1
  simp at b0 b1 r0 r1
  have HJ2 := Lib.hid J2
  clear J0 J2
  have he : Hid (pCrash D F = 3) := by show _ = _; unfold pCrash; rw [if_pos Hgood.out, if_neg (by rw [hbad]; simp)]
  go_wp2
  have kk := ((HJ2.out.set 0 (.slice none 0 0)).set 1 (.slice none 0 0))
  have q0 := kk.cell 0
  have q1 := kk.cell 1
  simp only [Array.setIfInBounds_def] at q0 q1
  refine bodyPost_ret (v := .tuple #[zeroDk, .int .i64 3]) (by simp [results, Try.results27, go_sem, q0, q1, zeroDk]) rfl ⟨_, by rw [he.out], ?_, fun h => ?_, fun _ => rfl⟩
  · exact (hE3.out.setCell (by show _ ≤ _; simp only; omega) _).setCell (by show _ ≤ _; simp only; omega) _
  · rw [he.out] at h; cases h
set_option maxRecDepth 100000 in
set_option maxHeartbeats 1000000 in
theorem crashF_ok (A P A' P' : Option Addr) (c p c' d' : Nat) (D : Dk) (F : Ft) (w : World) (hA : By w A D.bytes) (hP : Ws w P D.pend) (hA' : Is w A' F.order) (hP' : Is w P' F.part) (hsm : Small D) (hFl : (F.order.length ≤ 100000 ∧ F.part.length ≤ 100000)) (hgood : pCheck D = 0) (hok : pIsFate D.pend.length F = true) :
    Calls Try.prog 27 #[.agg #[.slice A D.bytes.length c, .slice P D.pend.length p], .agg #[.slice A' F.order.length c', .slice P' F.part.length d']] w (RetD w (pCrash D F) (pCrashD D F)) := by
  go_enter Try.func27, Try.ntmps27
  go_wp2_with fail
  obtain ⟨W, hW, hE, hz, k0, k1, k2⟩ := box3 w #[.slice A D.bytes.length c, .slice P D.pend.length p] #[.slice A' F.order.length c', .slice P' F.part.length d'] #[.slice none 0 0, .slice none 0 0] 25 34 25
  rw [hW]; clear hW
  have c0 := k0.cell 0
  have c1 := k0.cell 1
  simp at c0 c1
  go_wp2_with fail
  refine (open_any A P c p D W (hA.ext hE) (hP.ext hE) hsm).mono ?_
  rintro e w1 ⟨v, rfl, h1, h2, h3⟩
  have t1 : (pCheck D != 0) = false := by simp [hgood]
  have hO := h2 hgood
  obtain ⟨vA, vc, vP, ve, rfl⟩ := hO.form2
  have HL1 := Lib.hid (hO.ld h1.size ((Ext.refl w1).alloc _) (Bk.new w1 #[.slice vA D.bytes.length vc, .slice vP D.pend.length ve] 84))
  have j0 := Bk.new w1 #[.slice vA D.bytes.length vc, .slice vP D.pend.length ve] 84
  have j1 := (k1.ext h1).alloc (.cells #[.slice vA D.bytes.length vc, .slice vP D.pend.length ve] 84)
  have j2 := (k2.ext h1).alloc (.cells #[.slice vA D.bytes.length vc, .slice vP D.pend.length ve] 84)
  have hE1 := Lib.hid ((hE.trans h1).alloc (.cells #[.slice vA D.bytes.length vc, .slice vP D.pend.length ve] 84))
  have hs1 := Lib.hid h1.size
  have d0 := j0.cell 0
  have d1 := j0.cell 1
  have b0 := j1.cell 0
  have b1 := j1.cell 1
  simp at d0 d1 b0 b1
  have hpl := (pCheck_ok hgood).2.2.2.1
  have Hgood := Lib.hid hgood
  clear h1 h2 h3 hO c0 c1 k0 k1 k2 hA hP hE hgood
  go_wp2_with fail
  refine (isFate_any vA vP A' P' D.bytes.length vc D.pend.length ve c' d' F _ (hA'.ext hE1.out) (hP'.ext hE1.out) hFl.2 hFl.1 hpl).mono ?_
  rintro e w3 ⟨rfl, h3⟩
  have J0 := j0.ext h3
  have J1 := j1.ext h3
  have J2 := j2.ext h3
  have HL3 := Lib.hid (HL1.out.ext h3)
  have hE3 := Lib.hid (hE1.out.trans h3)
  have hs3 := Lib.hid h3.size
  clear d0 d1 b0 b1 j0 j1 j2 HL1 hE1 h3
  have b0 := J1.cell 0
  have b1 := J1.cell 1
  have r0 := J2.cell 0
  have r1 := J2.cell 1
  have f0 := J2.frozen 0
  have f1 := J2.frozen 1
  simp at b0 b1 r0 r1
  have HJ2 := Lib.hid J2
  clear J0 J2
  have he : Hid (pCrash D F = 0) := by show _ = _; unfold pCrash; rw [if_pos Hgood.out, if_pos hok]
  have Hok := Lib.hid hok
  go_wp2_with fail
  refine (crash_ld w1.heap.size W.heap.size D F A' P' c' d' w w3 HL3.out hE3.out (by have := hz.out; omega) (by have := hs1.out; have := hs3.out; simp at this; omega) hsm (pCheck_ok Hgood.out).2.2.2.2 hA' hP' hFl.1 Hok.out).mono ?_
  rintro e w4 ⟨rfl, h4, h5⟩
  obtain ⟨oA, oc, oP, od, jx, hOD⟩ := h4.od
  have o0 := jx.cell 0
  have o1 := jx.cell 1
  simp at o0 o1
  have HOD : Hid (OD w4 W.heap.size (.agg #[.slice oA (pCr D.bytes D.pend F).length oc, .slice oP 0 od]) (pCrashD D F)) := hOD
  have J2 := HJ2.out.below h5 (by have := hz.out; omega)
  have hE4 : Hid (Ext w w4) := Below.trans hE3.out (Below.mono h5 (by have := hz.out; omega))
  clear r0 r1 f0 f1 b0 b1 J1 h4 h5 hOD jx HJ2
  have r0 := J2.cell 0
  have r1 := J2.cell 1
  have f0 := J2.frozen 0
  have f1 := J2.frozen 1
  simp at r0 r1
  have HJ2 := Lib.hid J2
  clear J2
  go_wp2
  have kk := ((HJ2.out.set 0 (.slice oA (pCr D.bytes D.pend F).length oc)).set 1 (.slice oP 0 od))
  have q0 := kk.cell 0
  have q1 := kk.cell 1
  simp only [Array.setIfInBounds_def] at q0 q1
  refine bodyPost_ret (v := .tuple #[.agg #[.slice oA (pCr D.bytes D.pend F).length oc, .slice oP 0 od], .int .i64 0]) (by simp [results, Try.results27, go_sem, q0, q1]) rfl ⟨_, by rw [he.out], ?_, fun _ => ?_, fun h => absurd he.out h⟩
  · exact (hE4.out.setCell (by show _ ≤ _; simp only; omega) _).setCell (by show _ ≤ _; simp only; omega) _
  · exact ((HOD.out.low (by have := hz.out; show _ < _; simp only; omega) _).low (by have := hz.out; show _ < _; simp only; omega) _).down (by have := hz.out; omega)
theorem crashF_any (A P A' P' : Option Addr) (c p c' d' : Nat) (D : Dk) (F : Ft) (w : World) (hA : By w A D.bytes) (hP : Ws w P D.pend) (hA' : Is w A' F.order) (hP' : Is w P' F.part) (hsm : Small D) (hFl : (F.order.length ≤ 100000 ∧ F.part.length ≤ 100000)) :
    Calls Try.prog 27 #[.agg #[.slice A D.bytes.length c, .slice P D.pend.length p], .agg #[.slice A' F.order.length c', .slice P' F.part.length d']] w (RetD w (pCrash D F) (pCrashD D F)) := by
  by_cases h1 : pCheck D = 0
  · cases h2 : pIsFate D.pend.length F with
    | true => exact crashF_ok A P A' P' c p c' d' D F w hA hP hA' hP' hsm hFl h1 h2
    | false => exact crashF_err A P A' P' c p c' d' D F w hA hP hA' hP' hsm hFl h1 h2
  · exact crashF_bad A P A' P' c p c' d' D F w hA hP hsm h1
end Go.Proofs.Ytdlalmbnkcadfaa
