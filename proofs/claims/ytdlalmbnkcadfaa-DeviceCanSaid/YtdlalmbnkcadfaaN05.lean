/- plain: what a fate is, asked in two ways. -/
import Derived.Test.YtdlalmbnkcadfaaM20
import Derived.Test.YtdlalmbnkcadfaaN03
namespace Go.Proofs.Ytdlalmbnkcadfaa
open Go.RowKit

def rOne (F : Ft) (i : Nat) : Bool := decide (F.order.count (i : Int) = 1) && decide (0 ≤ F.part.getD i 0) && decide (F.part.getD i 0 ≤ 32)
/-- The reference's way. -/
def rIsF (n : Nat) (F : Ft) : Bool := decide (F.order.length = n) && decide (F.part.length = n) && (List.range n).all (rOne F)
theorem sorted_of_perm {xs : List Int} {n : Nat} (h : xs.Perm ((List.range n).map fun i : Nat => (i : Int))) : pSorted xs = (List.range n).map fun i : Nat => (i : Int) := by
  have h1 : (pSorted xs).Perm ((List.range n).map fun i : Nat => (i : Int)) := (List.mergeSort_perm xs _).trans h
  have h2 : (pSorted xs).Pairwise (fun a b => decide (a ≤ b) = true) := List.pairwise_mergeSort (fun a b c => by simp; omega) (fun a b => by simp; omega) xs
  have h3 : ((List.range n).map fun i : Nat => (i : Int)).Pairwise (fun a b => decide (a ≤ b) = true) := by
    rw [List.pairwise_map]
    exact List.pairwise_lt_range.imp fun h => by simp; omega
  exact h1.eq_of_pairwise (fun a b _ _ h h' => by simp at h h'; omega) h2 h3
theorem perm_counts : ∀ (R xs : List Int), R.Nodup → xs.length = R.length → (∀ x ∈ R, xs.count x = 1) → xs.Perm R
  | [], xs, _, hl, _ => by
    have : xs = [] := List.eq_nil_of_length_eq_zero (by simpa using hl)
    rw [this]
  | x :: R, xs, hn, hl, h => by
    have hx : x ∈ xs := List.count_pos_iff.1 (by rw [h x (by simp)]; decide)
    have hn' := List.nodup_cons.1 hn
    have h1 := List.perm_cons_erase hx
    have h2 : (xs.erase x).length = R.length := by rw [List.length_erase_of_mem hx, hl]; simp
    refine h1.trans (List.Perm.cons x (perm_counts R (xs.erase x) hn'.2 h2 fun y hy => ?_))
    have hne : y ≠ x := fun e => hn'.1 (e ▸ hy)
    rw [List.count_erase_of_ne hne]
    exact h y (by simp [hy])
theorem perm_of_counts {xs : List Int} {n : Nat} (hl : xs.length = n) (h : ∀ i, i < n → xs.count (i : Int) = 1) : xs.Perm ((List.range n).map fun i : Nat => (i : Int)) := by
  refine perm_counts _ _ ?_ (by simp [hl]) fun x hx => ?_
  · unfold List.Nodup
    rw [List.pairwise_map]
    exact List.pairwise_lt_range.imp fun h => by omega
  · obtain ⟨i, hi, rfl⟩ := List.mem_map.1 hx
    exact h i (List.mem_range.1 hi)
theorem rIsF_eq (n : Nat) (F : Ft) : rIsF n F = pIsFate n F := by
  rw [Bool.eq_iff_iff]
  constructor
  · intro h
    unfold rIsF at h
    simp only [Bool.and_eq_true, decide_eq_true_eq, List.all_eq_true, List.mem_range, rOne] at h
    obtain ⟨⟨h1, h2⟩, h3⟩ := h
    have hp := sorted_of_perm (perm_of_counts h1 fun i hi => (h3 i hi).1.1)
    unfold pIsFate
    rw [hp, rgI_eq]
    simp only [Bool.and_eq_true, decide_eq_true_eq, Bool.not_eq_true', beq_self_eq_true, and_true]
    refine ⟨h2, List.any_eq_false.2 fun p hp => ?_⟩
    obtain ⟨i, hi, rfl⟩ := List.mem_iff_getElem.1 hp
    have h4 := h3 i (by omega)
    rw [List.getD_eq_getElem?_getD, List.getElem?_eq_getElem hi] at h4
    simp [outB] at h4 ⊢
    omega
  · intro h
    obtain ⟨h1, h2, h3⟩ := pIsFate_ok h
    unfold rIsF
    simp only [Bool.and_eq_true, decide_eq_true_eq, List.all_eq_true, List.mem_range, rOne]
    refine ⟨⟨by have := h3.length_eq; simpa using this, h1⟩, fun i hi => ⟨⟨?_, ?_⟩, ?_⟩⟩
    · rw [h3.count_eq]
      have hn : ((List.range n).map fun i : Nat => (i : Int)).Nodup := by
        unfold List.Nodup
        rw [List.pairwise_map]
        exact List.pairwise_lt_range.imp fun h => by omega
      have hm : (i : Int) ∈ (List.range n).map fun i : Nat => (i : Int) := List.mem_map.2 ⟨i, List.mem_range.2 hi, rfl⟩
      have a := List.nodup_iff_count.1 hn (i : Int)
      have b := List.count_pos_iff.2 hm
      omega
    · rw [List.getD_eq_getElem?_getD, List.getElem?_eq_getElem (by omega)]
      exact (h2 _ (List.getElem_mem _)).1
    · rw [List.getD_eq_getElem?_getD, List.getElem?_eq_getElem (by omega)]
      exact (h2 _ (List.getElem_mem _)).2
end Go.Proofs.Ytdlalmbnkcadfaa
/- reference: IsFate. -/
namespace Go.Proofs.Ytdlalmbnkcadfaa
open Go.RowKit

set_option maxRecDepth 100000 in
set_option maxHeartbeats 2000000 in
theorem rIsFate_any (A Q : Option Addr) (c d m : Nat) (F : Ft) (w : World) (hA : Is w A F.order) (hQ : Is w Q F.part) (hm : m ≤ 64) :
    Calls Try.prog 60 #[.agg #[.slice A F.order.length c, .slice Q F.part.length d], .int .i64 (m : Int)] w fun e w' => e = .returned (.bool (rIsF m F)) ∧ Ext w w' := by
  obtain ⟨W, hW, hE, hz, k0⟩ := box1 w #[.slice A F.order.length c, .slice Q F.part.length d] 34
  have HA := Lib.hid (hA.ext hE)
  have HQ := Lib.hid (hQ.ext hE)
  have HE := Lib.hid hE
  have d0 := k0.cell 0
  have d1 := k0.cell 1
  simp at d0 d1
  clear hE hA hQ k0 hz
  by_cases h1 : F.order.length = m
  · have t1 : ((F.order.length : Int) != (m : Int)) = false := by simp [h1]
    by_cases h2 : F.part.length = m
    · have t2 : ((F.part.length : Int) != (m : Int)) = false := by simp [h2]
      have hr : Hid (rIsF m F = (List.range m).all (rOne F)) := by show _ = _; unfold rIsF; rw [decide_eq_true h1, decide_eq_true h2]; rfl
      have H1 := Lib.hid h1
      have H2 := Lib.hid h2
      clear h1 h2
      go_enter Try.func60, Try.ntmps60
      go_wp2
      clear hW
      go_loop [5] (fun vi => ∃ i : Nat, i ≤ m ∧ vi = .int .i64 i ∧ Hid ((List.range i).all (rOne F) = true)) (fun vi => m - (intOf vi).toNat)
      case atStart => exact ⟨0, Nat.zero_le _, rfl, rfl⟩
      case round =>
        obtain ⟨i, hi, rfl, Hall⟩ := hrel
        by_cases hlt : i < m
        · go_wp2_with fail
          go_loop [6, 7] (fun vt vk => ∃ k : Nat, k ≤ m ∧ vk = .int .i64 k ∧ vt = .int .i64 (((F.order.take k).count (i : Int) : Nat) : Int)) (fun _ vk => m - (intOf vk).toNat)
          case atStart => exact ⟨0, Nat.zero_le _, rfl, rfl⟩
          case round =>
            obtain ⟨k, hk, rfl, rfl⟩ := hrel
            have hcb : (F.order.take k).count (i : Int) ≤ 64 := by
              have h1 := List.count_le_length (a := (i : Int)) (l := F.order.take k)
              simp at h1; omega
            obtain ⟨cn, hcn⟩ : ∃ cn, cn = (F.order.take k).count (i : Int) := ⟨_, rfl⟩
            rw [← hcn] at hcb ⊢
            have Hcn := Lib.hid hcn
            clear hcn
            by_cases hkl : k < m
            · obtain ⟨b, o, rfl, e1⟩ := HA.out.at (j := k) (by rw [H1.out]; exact hkl)
              have hk1 : k < F.order.length := by rw [H1.out]; exact hkl
              have hk2 : (k : Int) < (F.order.length : Int) := by omega
              have hst : Hid ((F.order.take (k + 1)).count (i : Int) = cn + if F.order[k] = (i : Int) then 1 else 0) := by
                show _ = _
                rw [List.take_succ_eq_append_getElem hk1, List.count_append, ← Hcn.out, List.count_singleton]
                simp [beq_iff_eq]
              by_cases he : F.order[k] = (i : Int)
              · have t3 : (F.order[k] == (i : Int)) = true := by simp [he]
                have hst' : Hid ((F.order.take (k + 1)).count (i : Int) = cn + 1) := by show _ = _; rw [hst.out, if_pos he]
                clear he hst
                go_wp2
                go_round
                case rel => exact ⟨k + 1, by omega, by go_num, by rw [hst'.out]; go_num⟩
                case measure => simp [intOf]; omega
              · have t3 : (F.order[k] == (i : Int)) = false := by simp [he]
                have hst' : Hid ((F.order.take (k + 1)).count (i : Int) = cn) := by show _ = _; rw [hst.out, if_neg he]; rfl
                clear he hst
                go_wp2
                go_round
                case rel => exact ⟨k + 1, by omega, by go_num, by rw [hst'.out]⟩
                case measure => simp [intOf]; omega
            · obtain rfl : k = m := by omega
              have hcc : Hid (cn = F.order.count (i : Int)) := by
                show _ = _
                rw [Hcn.out, ← H1.out, List.take_length]
              obtain ⟨b, o, rfl, e1⟩ := HQ.out.at (j := i) (by rw [H2.out]; exact hlt)
              have hi1 : i < F.part.length := by rw [H2.out]; exact hlt
              have hi2 : (i : Int) < (F.part.length : Int) := by omega
              have hp : Hid (F.part.getD i 0 = F.part[i]) := by show _ = _; rw [List.getD_eq_getElem?_getD, List.getElem?_eq_getElem hi1]; rfl
              have hone : Hid (rOne F i = (decide (cn = 1) && decide (0 ≤ F.part[i]) && decide (F.part[i] ≤ 32))) := by show _ = _; unfold rOne; rw [hp.out, ← hcc.out]
              have hbad : rOne F i = false → Hid (rIsF k F = false) := fun hf => by
                show _ = _
                rw [hr.out, List.all_eq_false]
                exact ⟨i, List.mem_range.2 hlt, by simp [hf]⟩
              by_cases h3 : cn = 1
              · have t3 : ((cn : Int) != 1) = false := by simp [h3]
                by_cases h4 : 0 ≤ F.part[i]
                · have t4 : decide (F.part[i] < 0) = false := by simpa using h4
                  by_cases h5 : F.part[i] ≤ 32
                  · have t5 : decide (32 < F.part[i]) = false := by simpa using h5
                    have Hn : Hid ((List.range (i + 1)).all (rOne F) = true) := by
                      show _ = _
                      rw [List.range_succ, List.all_append, Hall.out]
                      simp [hone.out, h3, h4, h5]
                    clear h3 h4 h5 hbad hcb
                    go_wp2
                    go_round
                    case rel => exact ⟨i + 1, by omega, by go_num, Hn⟩
                    case measure => simp [intOf]; omega
                  · have t5 : decide (32 < F.part[i]) = true := by simp; omega
                    have Hb := hbad (by rw [hone.out]; simp [h5])
                    clear h3 h4 h5 hbad hcb
                    go_wp2
                    go_ret
                    exact ⟨ret_bool Hb.out.symm, HE.out⟩
                · have t4 : decide (F.part[i] < 0) = true := by simp; omega
                  have Hb := hbad (by rw [hone.out]; simp [h4])
                  clear h3 h4 hbad hcb
                  go_wp2
                  go_ret
                  exact ⟨ret_bool Hb.out.symm, HE.out⟩
              · have t3 : ((cn : Int) != 1) = true := by simp; omega
                have Hb := hbad (by rw [hone.out]; simp [h3])
                clear h3 hbad hcb
                go_wp2
                go_ret
                exact ⟨ret_bool Hb.out.symm, HE.out⟩
        · obtain rfl : i = m := by omega
          go_wp2
          go_ret
          exact ⟨ret_bool (by rw [hr.out, Hall.out]), HE.out⟩
    · have t2 : ((F.part.length : Int) != (m : Int)) = true := by simp; omega
      have hr : Hid (rIsF m F = false) := by show _ = _; unfold rIsF; rw [decide_eq_false h2]; simp
      clear h1 h2
      go_enter Try.func60, Try.ntmps60
      go_wp2
      go_ret
      exact ⟨ret_bool hr.out.symm, HE.out⟩
  · have t1 : ((F.order.length : Int) != (m : Int)) = true := by simp; omega
    have hr : Hid (rIsF m F = false) := by show _ = _; unfold rIsF; rw [decide_eq_false h1]; simp
    clear h1
    go_enter Try.func60, Try.ntmps60
    go_wp2
    go_ret
    exact ⟨ret_bool hr.out.symm, HE.out⟩
end Go.Proofs.Ytdlalmbnkcadfaa
/- reference: Crashed. -/
namespace Go.Proofs.Ytdlalmbnkcadfaa
open Go.RowKit

set_option maxRecDepth 100000 in
set_option maxHeartbeats 2000000 in
theorem rCrashed_any (A P FA FQ : Option Addr) (c p fc fd : Nat) (D : Dk) (F : Ft) (w : World) (hA : By w A D.bytes) (hP : Ws w P D.pend) (hFA : Is w FA F.order) (hFQ : Is w FQ F.part) (hsm : Small D) (hne : D.bytes ≠ []) (hok : ∀ x ∈ D.pend, okWr (D.bytes.length / 32) x = true) (hfl1 : F.part.length = D.pend.length) (hfp : ∀ q ∈ F.part, 0 ≤ q ∧ q ≤ 32) (hfo : ∀ i ∈ F.order, 0 ≤ i ∧ i < (D.pend.length : Int)) (hfn : F.order.length ≤ 100000) :
    Calls Try.prog 61 #[.agg #[.slice A D.bytes.length c, .slice P D.pend.length p], .agg #[.slice FA F.order.length fc, .slice FQ F.part.length fd]] w fun e w' => ∃ g c', e = .returned (.agg #[.slice (some ⟨g, 0, none⟩) D.bytes.length c', .slice none 0 0]) ∧ OB w' g c' (pCr D.bytes D.pend F) ∧ Ext w w' ∧ w.heap.size ≤ g ∧ D.bytes.length ≤ c' := by
  have hfl : ∀ k, ((F.order.take k).foldl (crStep D.pend F.part) D.bytes).length = D.bytes.length := fun k => cr_length (D.bytes.length / 32) _ _ hok hfp _ _ (by omega)
  have hpl := hsm.2.1
  have Hpl := Lib.hid hfl1
  clear hfl1
  go_enter Try.func61, Try.ntmps61
  go_wp2_with (at_builtin; refine wpList_app0 rfl _ _ rfl _ c _ A D.bytes rfl rfl rfl (hA.ext (by repeat (first | exact Ext.refl _ | refine Ext.alloc ?_ _))) hsm.1 ?_; intro A' c' w1 h1 h2 h3 h4 h5)
  obtain ⟨W, hW, hE, hz, k0, kf, k1⟩ := box3 w #[.slice A D.bytes.length c, .slice P D.pend.length p] #[.slice FA F.order.length fc, .slice FQ F.part.length fd] #[.slice none 0 0, .slice none 0 0] 25 34 25
  rw [hW] at h1 h5; clear hW h4
  have hz' := hz.out
  have hE1 : Ext W w1 := ((Ext.refl W).alloc _).trans h1
  obtain ⟨g, rfl, hO, hg⟩ := h5 hne
  obtain ⟨xo, hxo⟩ : ∃ xo, xo = w1.heap.size := ⟨_, rfl⟩
  have hg2 : w.heap.size + 3 < g := by simp at hg; omega
  have hgx : g < xo := by rw [hxo]; exact hO.lt
  have m2 := Bk.new w1 #[.slice (some ⟨g, 0, none⟩) D.bytes.length c', .slice none 0 0] 25
  have HE : Hid (Ext w (w1.alloc (.cells #[.slice (some ⟨g, 0, none⟩) D.bytes.length c', .slice none 0 0] 25))) := (hE.trans hE1).alloc _
  have i0 := Lib.hid ((k0.ext hE1).alloc (.cells #[.slice (some ⟨g, 0, none⟩) D.bytes.length c', .slice none 0 0] 25))
  have i2 := Lib.hid ((kf.ext hE1).alloc (.cells #[.slice (some ⟨g, 0, none⟩) D.bytes.length c', .slice none 0 0] 25))
  have i1 := Lib.hid ((k1.ext hE1).alloc (.cells #[.slice (some ⟨g, 0, none⟩) D.bytes.length c', .slice none 0 0] 25))
  have hO1 := Lib.hid (hO.ext ((Ext.refl w1).alloc (.cells #[.slice (some ⟨g, 0, none⟩) D.bytes.length c', .slice none 0 0] 25)))
  rw [← hxo] at m2 ⊢
  have M2 := Lib.hid m2
  have Hcc := Lib.hid h2
  have Hg2 := Lib.hid hg2
  have Hgx := Lib.hid hgx
  clear h1 h2 h3 h5 k0 k1 kf hE1 hxo m2 hE hz' hO hg hz hA hg2 hgx
  go_loopw [6] (fun i wr => ∃ k : Nat, k ≤ F.order.length ∧ i = .int .i64 k ∧ Ext w wr ∧ Bk wr w.heap.size #[.slice A D.bytes.length c, .slice P D.pend.length p] 25 ∧ Bk wr (w.heap.size + 1) #[.slice FA F.order.length fc, .slice FQ F.part.length fd] 34 ∧ Bk wr (w.heap.size + 1 + 1) #[.slice none 0 0, .slice none 0 0] 25 ∧ Bk wr xo #[.slice (some ⟨g, 0, none⟩) D.bytes.length c', .slice none 0 0] 25 ∧ OB wr g c' ((F.order.take k).foldl (crStep D.pend F.part) D.bytes)) (fun i _ => F.order.length - (intOf i).toNat)
  case atStart => exact ⟨0, Nat.zero_le _, rfl, HE.out, i0.out, i2.out, i1.out, M2.out, by simpa using hO1.out⟩
  case round =>
    clear HE i0 i1 i2 hO1 M2
    obtain ⟨k, hk, rfl, hEr, j0, jf, j1, jo, hOr⟩ := hrel
    have HEr := Lib.hid hEr
    have HOr := Lib.hid hOr
    have d1 := j0.cell 1
    have df := jf.cell 0
    have df1 := jf.cell 1
    simp at d1 df df1
    clear hOr
    by_cases hlt : k < F.order.length
    · have hmm := hfo F.order[k] (List.getElem_mem hlt)
      obtain ⟨ix, hix⟩ : ∃ ix : Nat, F.order[k] = (ix : Int) := ⟨F.order[k].toNat, by omega⟩
      have hi1 : ix < D.pend.length := by omega
      have hi2 : ix < F.part.length := by have := Hpl.out; omega
      have hi3 : (ix : Int) < (D.pend.length : Int) := by omega
      have hi4 : (ix : Int) < (F.part.length : Int) := by omega
      obtain ⟨b, o, Bx, d, rfl, e1, e2, e3, e4⟩ := hP ix D.pend[ix] (List.getElem?_eq_getElem hi1)
      obtain ⟨b1, o1, rfl, f1⟩ := hFA.at hlt
      obtain ⟨b2, o2, rfl, f2⟩ := hFQ.at hi2
      rw [hix] at f1
      have g3 := cellExt hEr f1
      have g4 := cellExt hEr f2
      have Hfp := Lib.hid (hfp F.part[ix] (List.getElem_mem hi2))
      have Hix := Lib.hid hix
      clear f1 f2 hmm hix
      have g1 := cellExt hEr e1
      have g2 := cellExt hEr e2
      have Hby := Lib.hid (e4.ext hEr)
      have hq := okWr_parts (hok D.pend[ix] (List.getElem_mem hi1))
      have hbl := Lib.hid (e4.lt (by omega))
      have Hq := Lib.hid hq
      clear e1 e2 e3 e4 hEr hq
      go_wp2_with fail
      have hS := Lib.hid (fun w' (h : Ext wr w') => (⟨h, (jo.ext h).cell 0, (j0.ext h).cell 1, (jf.ext h).cell 0, (jf.ext h).cell 1, cellExt h g3, cellExt h g4, cellExt h g1, cellExt h g2⟩ : Ext wr w' ∧ w'.cell? ⟨xo, 0, none⟩ = some (.slice (some ⟨g, 0, none⟩) D.bytes.length c') ∧ w'.cell? ⟨w.heap.size, 1, none⟩ = some (.slice (some ⟨b, o, none⟩) D.pend.length p) ∧ w'.cell? ⟨w.heap.size + 1, 0, none⟩ = some (.slice (some ⟨b1, o1, none⟩) F.order.length fc) ∧ w'.cell? ⟨w.heap.size + 1, 1, none⟩ = some (.slice (some ⟨b2, o2, none⟩) F.part.length fd) ∧ w'.cell? ⟨b1, o1 + k, none⟩ = some (.int .i64 (ix : Int)) ∧ w'.cell? ⟨b2, o2 + ix, none⟩ = some (.int .i64 F.part[ix]) ∧ w'.cell? ⟨b, o + ix * 2, none⟩ = some (.int .i64 D.pend[ix].blk) ∧ w'.cell? ⟨b, o + ix * 2 + 1, none⟩ = some (.slice Bx D.pend[ix].bs.length d)))
      clear g1 g2 g3 g4 d1 df df1
      refine wp_region_rel 20 (by kernel_rfl) (by kernel_rfl) (Ext.refl wr).drew ?_
      repeat (apply relW_fix
              · intro vs w' hw hf
                have hc := hS.out w' hw
                unfold okAt
                go_simp
                first | exact ⟨rfl, Ext.refl _⟩ | exact rfl
              · intro vs; go_simp; rfl)
      refine relW_nil fun vs w6 hw hf => ?_
      have hE6 : Ext wr w6 := hw
      have J0 := Lib.hid (j0.ext hE6)
      have J1 := Lib.hid (j1.ext hE6)
      have Jf := Lib.hid (jf.ext hE6)
      have Jo := Lib.hid (jo.ext hE6)
      have HB6 := Lib.hid (Hby.out.ext hE6)
      have HE6 := Lib.hid (HEr.out.trans hE6)
      have HO6 := Lib.hid (HOr.out.ext hE6)
      have Hfl := Lib.hid (hfl k)
      have Hfl1 := Lib.hid (hfl (k + 1))
      clear hf hw hE6 j0 j1 jf jo hS Hby HEr HOr hfl
      go_wp2_with fail
      have ht := rThere_int g c' c' ((F.order.take k).foldl (crStep D.pend F.part) D.bytes) D.pend[ix].bs D.pend[ix].blk F.part[ix] d Bx w6 Hq.out.1 Hfp.out.1 HO6.out HB6.out (fun a ha => by have := hbl.out a ha; have := Hg2.out; omega) (by have := Hfp.out; rw [Hq.out.2.2]; omega) (by rw [Hfl.out]; have := Hq.out; have := Hfp.out; omega) (by rw [Hfl.out]; exact hsm.1)
      rw [Hfl.out] at ht
      refine ht.mono ?_
      rintro e w7 ⟨rfl, hO7, hg7⟩
      have hp : Hid (put1 ((F.order.take k).foldl (crStep D.pend F.part) D.bytes) D.pend[ix].blk.toNat D.pend[ix].bs F.part[ix].toNat = (F.order.take (k + 1)).foldl (crStep D.pend F.part) D.bytes) := by
        show _ = _
        rw [List.take_succ_eq_append_getElem hlt, List.foldl_append, Hix.out]
        simp only [List.foldl_cons, List.foldl_nil]
        rw [show crStep D.pend F.part ((F.order.take k).foldl (crStep D.pend F.part) D.bytes) (ix : Int) = put1 ((F.order.take k).foldl (crStep D.pend F.part) D.bytes) D.pend[ix].blk.toNat D.pend[ix].bs F.part[ix].toNat from by
          unfold crStep
          simp [hi1, hi2]]
      rw [hp.out] at hO7
      have HO7 := Lib.hid hO7
      have HE7 : Hid (Ext w w7) := Below.grown HE6.out hg7 (by have := HE6.out.size; omega) (fun x hx => by cases hx; have := Hg2.out; omega)
      have J0' := Lib.hid (J0.out.grown hg7 (by have := Hg2.out; simp; omega))
      have J1' := Lib.hid (J1.out.grown hg7 (by have := Hg2.out; simp; omega))
      have Jf' := Lib.hid (Jf.out.grown hg7 (by have := Hg2.out; simp; omega))
      have Jo' := Lib.hid (Jo.out.grown hg7 (by have := Hgx.out; simp; omega))
      clear hO7 hg7 hp ht J0 J1 Jf Jo HO6 HB6 HE6
      go_wp2
      go_roundw
      case rel => exact ⟨k + 1, by omega, by go_num, HE7.out, J0'.out, Jf'.out, J1'.out, Jo'.out, HO7.out⟩
      case measure => simp [intOf]; omega
    · obtain rfl : k = F.order.length := by omega
      have o0 := jo.cell 0
      have o1 := jo.cell 1
      have r0 := j1.cell 0
      have r1 := j1.cell 1
      have f0 := j1.frozen 0
      have f1 := j1.frozen 1
      simp at o0 o1 r0 r1
      have Hj1 := Lib.hid j1
      clear jo j1 j0 jf hEr hfl d1 df1
      go_wp2
      have kk := ((Hj1.out.set 0 (.slice (some ⟨g, 0, none⟩) D.bytes.length c')).set 1 (.slice none 0 0))
      have q0 := kk.cell 0
      have q1 := kk.cell 1
      simp only [Array.setIfInBounds_def] at q0 q1
      have hne1 : g ≠ w.heap.size + 1 + 1 := by have := Hg2.out; omega
      refine bodyPost_ret (v := .agg #[.slice (some ⟨g, 0, none⟩) D.bytes.length c', .slice none 0 0]) (by simp [results, Try.results61, go_sem, q0, q1]) rfl ⟨g, c', rfl, ?_, ?_, by have := Hg2.out; omega, Hcc.out⟩
      · have h := HOr.out
        rw [List.take_length] at h
        exact (h.far hne1 _).far hne1 _
      · exact (HEr.out.setCell (by show _ ≤ w.heap.size + 1 + 1; omega) _).setCell (by show _ ≤ w.heap.size + 1 + 1; omega) _
end Go.Proofs.Ytdlalmbnkcadfaa
/- reference: Crash. -/
namespace Go.Proofs.Ytdlalmbnkcadfaa
open Go.RowKit

set_option maxRecDepth 100000 in
set_option maxHeartbeats 2000000 in
theorem rCrash_any (A P FA FQ : Option Addr) (c p fc fd : Nat) (D : Dk) (F : Ft) (w : World) (hA : By w A D.bytes) (hP : Ws w P D.pend) (hFA : Is w FA F.order) (hFQ : Is w FQ F.part) (hsm : Small D) (hfo : F.order.length ≤ 100000) :
    Calls Try.prog 28 #[.agg #[.slice A D.bytes.length c, .slice P D.pend.length p], .agg #[.slice FA F.order.length fc, .slice FQ F.part.length fd]] w (RetV w (pCrash D F) (resD (pCrash D F) (pCrashD D F))) := by
  obtain ⟨W, hW, hE, hz, k0, kf, k1⟩ := box3 w #[.slice A D.bytes.length c, .slice P D.pend.length p] #[.slice FA F.order.length fc, .slice FQ F.part.length fd] #[.slice none 0 0, .slice none 0 0] 25 34 25
  have HP := Lib.hid (hP.ext hE)
  have HA := Lib.hid (hA.ext hE)
  have HFA := Lib.hid (hFA.ext hE)
  have HFQ := Lib.hid (hFQ.ext hE)
  have HE := Lib.hid hE
  have Hsm := Lib.hid hsm
  have HK := Lib.hid k0
  have HKf := Lib.hid kf
  have HKR := Lib.hid k1
  have Hfo := Lib.hid hfo
  clear hE hP hA hFA hFQ hsm k0 kf k1 hz hfo
  have K := HK.out
  have Kf := HKf.out
  have d0 := K.cell 0
  have d1 := K.cell 1
  have e0 := Kf.cell 0
  have e1 := Kf.cell 1
  simp at d0 d1 e0 e1
  clear K Kf
  go_enter Try.func28, Try.ntmps28
  go_wp2_with fail
  refine (rCheck_any A P c p D W HP.out Hsm.out).mono ?_
  rintro e w1 ⟨rfl, hE1⟩
  clear hW d0 d1 e0 e1
  have Hq := Lib.hid (HP.out.ext hE1)
  clear HP
  have HP := Hq
  clear Hq
  have Hq := Lib.hid (HA.out.ext hE1)
  clear HA
  have HA := Hq
  clear Hq
  have Hq := Lib.hid (HFA.out.ext hE1)
  clear HFA
  have HFA := Hq
  clear Hq
  have Hq := Lib.hid (HFQ.out.ext hE1)
  clear HFQ
  have HFQ := Hq
  clear Hq
  have Hq := Lib.hid (HK.out.ext hE1)
  clear HK
  have HK := Hq
  clear Hq
  have Hq := Lib.hid (HKf.out.ext hE1)
  clear HKf
  have HKf := Hq
  clear Hq
  have Hq := Lib.hid (HKR.out.ext hE1)
  clear HKR
  have HKR := Hq
  clear Hq
  have Hq := Lib.hid (HE.out.trans hE1)
  clear HE
  have HE := Hq
  clear Hq
  clear hE1
  by_cases h1 : pCheck D = 0
  · obtain ⟨hr0, hr1, hr2, hr3, hr4⟩ := pCheck_ok h1
    have Hne : Hid (D.bytes ≠ []) := fun e => by rw [e] at hr1; simp at hr1
    have Hok := Lib.hid hr4
    have Hr3 := Lib.hid hr3
    have Hr0 := Lib.hid hr0
    rw [h1]
    have Hc0 := Lib.hid h1
    clear h1 hr0 hr1 hr2 hr3 hr4
    have K := HK.out
    have Kf := HKf.out
    have d0 := K.cell 0
    have d1 := K.cell 1
    have e0 := Kf.cell 0
    have e1 := Kf.cell 1
    simp at d0 d1 e0 e1
    clear K Kf
    go_wp2_with fail
    refine (rIsFate_any FA FQ fc fd D.pend.length F w1 HFA.out HFQ.out Hr3.out).mono ?_
    rintro e w2 ⟨rfl, hE2⟩
    clear d0 d1 e0 e1
    have Hq := Lib.hid (HP.out.ext hE2)
    clear HP
    have HP := Hq
    clear Hq
    have Hq := Lib.hid (HA.out.ext hE2)
    clear HA
    have HA := Hq
    clear Hq
    have Hq := Lib.hid (HFA.out.ext hE2)
    clear HFA
    have HFA := Hq
    clear Hq
    have Hq := Lib.hid (HFQ.out.ext hE2)
    clear HFQ
    have HFQ := Hq
    clear Hq
    have Hq := Lib.hid (HK.out.ext hE2)
    clear HK
    have HK := Hq
    clear Hq
    have Hq := Lib.hid (HKf.out.ext hE2)
    clear HKf
    have HKf := Hq
    clear Hq
    have Hq := Lib.hid (HKR.out.ext hE2)
    clear HKR
    have HKR := Hq
    clear Hq
    have Hq := Lib.hid (HE.out.trans hE2)
    clear HE
    have HE := Hq
    clear Hq
    clear hE2
    rw [rIsF_eq]
    by_cases h2 : pIsFate D.pend.length F = true
    · obtain ⟨ha, hb, _⟩ := pIsFate_ok h2
      have Ha := Lib.hid ha
      have Hb := Lib.hid hb
      have Ho := Lib.hid (pIsFate_order h2)
      have Hl : Hid ((pCr D.bytes D.pend F).length = D.bytes.length) := cr_length (D.bytes.length / 32) D.pend F.part Hok.out hb F.order D.bytes (by omega)
      have hpp : Hid (pCrash D F = 0) := by show _ = _; unfold pCrash; rw [if_pos Hc0.out, if_pos h2]
      rw [h2]
      clear ha hb h2
      have K := HK.out
      have Kf := HKf.out
      have d0 := K.cell 0
      have d1 := K.cell 1
      have e0 := Kf.cell 0
      have e1 := Kf.cell 1
      simp at d0 d1 e0 e1
      clear K Kf
      go_wp2_with fail
      refine (rCrashed_any A P FA FQ c p fc fd D F w2 HA.out HP.out HFA.out HFQ.out Hsm.out Hne.out Hok.out Ha.out Hb.out Ho.out Hfo.out).mono ?_
      rintro e w3 ⟨g, c', rfl, hO, hE3, hg, hc⟩
      have HO := Lib.hid hO
      have HG : Hid (g ≠ w.heap.size + 1 + 1) := by show _ ≠ _; have := HKR.out.lt; omega
      have HC := Lib.hid hc
      have Hq := Lib.hid (HKR.out.ext hE3)
      clear HKR
      have HKR := Hq
      clear Hq
      have Hq := Lib.hid (HE.out.trans hE3)
      clear HE
      have HE := Hq
      clear Hq
      have KR3 := HKR.out
      have r0 := KR3.cell 0
      have r1 := KR3.cell 1
      have f0 := KR3.frozen 0
      have f1 := KR3.frozen 1
      simp at r0 r1
      clear hO hE3 hg hc HP HA HFA HFQ HK HKf KR3 d0 d1 e0 e1
      go_wp2
      have kk := ((HKR.out.set 0 (.slice (some ⟨g, 0, none⟩) D.bytes.length c')).set 1 (.slice none 0 0))
      have q0 := kk.cell 0
      have q1 := kk.cell 1
      simp only [Array.setIfInBounds_def] at q0 q1
      refine bodyPost_ret (v := .tuple #[.agg #[.slice (some ⟨g, 0, none⟩) D.bytes.length c', .slice none 0 0], .int .i64 0]) (by simp [results, Try.results28, go_sem, q0, q1]) rfl ⟨_, by rw [hpp.out], (HE.out.setCell (by show _ ≤ w.heap.size + 2; omega) _).setCell (by show _ ≤ w.heap.size + 2; omega) _, ?_⟩
      rw [resD_0 hpp.out]
      refine ⟨some ⟨g, 0, none⟩, c', none, 0, by simp [pCrashD, Hl.out], by simp only [pCrashD]; rw [Hl.out]; exact HC.out, ?_, Nat.le_refl _, Ws.nil _ _⟩
      exact ((HO.out.far HG.out _).far HG.out _).by
    · have hpp : Hid (pCrash D F = 3) := by show _ = _; unfold pCrash; rw [if_pos Hc0.out, if_neg h2]
      rw [show pIsFate D.pend.length F = false by simpa using h2]
      have H1 : Hid ((3 : Int) ≠ 0) := by show _ ≠ _; decide
      clear h2
      have KR := HKR.out
      have r0 := KR.cell 0
      have r1 := KR.cell 1
      have f0 := KR.frozen 0
      have f1 := KR.frozen 1
      simp at r0 r1
      clear KR
      go_wp2
      have kk := ((HKR.out.set 0 (.slice none 0 0)).set 1 (.slice none 0 0))
      have q0 := kk.cell 0
      have q1 := kk.cell 1
      simp only [Array.setIfInBounds_def] at q0 q1
      rw [hpp.out]
      exact bodyPost_ret (v := .tuple #[zeroDk, .int .i64 3]) (by simp [results, Try.results28, go_sem, q0, q1, zeroDk]) rfl (retV_bad H1.out ((HE.out.setCell (by show _ ≤ w.heap.size + 2; omega) _).setCell (by show _ ≤ w.heap.size + 2; omega) _))
  · have hpp : Hid (pCrash D F = pCheck D) := by show _ = _; unfold pCrash; rw [if_neg h1]
    have t1 : (pCheck D != 0) = true := by simp [h1]
    have H1 := Lib.hid h1
    clear h1
    have KR := HKR.out
    have r0 := KR.cell 0
    have r1 := KR.cell 1
    have f0 := KR.frozen 0
    have f1 := KR.frozen 1
    simp at r0 r1
    clear KR
    go_wp2
    have kk := ((HKR.out.set 0 (.slice none 0 0)).set 1 (.slice none 0 0))
    have q0 := kk.cell 0
    have q1 := kk.cell 1
    simp only [Array.setIfInBounds_def] at q0 q1
    rw [hpp.out]
    exact bodyPost_ret (v := .tuple #[zeroDk, .int .i64 (pCheck D)]) (by simp [results, Try.results28, go_sem, q0, q1, zeroDk]) rfl (retV_bad H1.out ((HE.out.setCell (by show _ ≤ w.heap.size + 2; omega) _).setCell (by show _ ≤ w.heap.size + 2; omega) _))
end Go.Proofs.Ytdlalmbnkcadfaa
