/- slices: the merge in place, case 3. -/
import Derived.Test.YtdlalmbnkcadfaaM14
import Derived.Deep.DeepCutAuto
namespace Go.Proofs.Ytdlalmbnkcadfaa
open Go.RowKit

def pSym (key : Nat → Int) : Nat → Nat → Nat → Nat → List Nat → List Nat
  | 0, _, _, _, xs => xs
  | f + 1, a, m, b, xs =>
    if m = a + 1 then pUp xs a (bsr (fun h => ltk key xs h a) m b - 1 - a)
    else if b = m + 1 then pDn xs m (m - bsr (fun h => !ltk key xs m h) a m)
    else
      let mid := (a + b) / 2
      let st := bsr (fun c => !ltk key xs (mid + m - 1 - c) c) (if mid < m then mid + m - b else a) (if mid < m then mid else m)
      let xs1 := if st < m ∧ m < mid + m - st then pRot m (m - st) (mid + m - st - m) xs else xs
      let xs2 := if a < st ∧ st < mid then pSym key f a st mid xs1 else xs1
      if mid < mid + m - st ∧ mid + m - st < b then pSym key f mid (mid + m - st) b xs2 else xs2

theorem pRot_length (m : Nat) : ∀ (n i j : Nat) (xs : List Nat), i + j ≤ n → (pRot m i j xs).length = xs.length
  | 0, i, j, xs, h => by rw [pRot, dif_pos (by omega)]
  | n + 1, i, j, xs, h => by
    by_cases h0 : i = 0 ∨ j = 0
    · rw [pRot, dif_pos h0]
    · rcases Nat.lt_trichotomy i j with hij | hij | hij
      · rw [pRot_lt m i j xs (by omega) hij, pRot_length m n _ _ _ (by omega), pSwapR_length]
      · subst hij; rw [pRot_eq m i xs (by omega), pSwapR_length]
      · rw [pRot_gt m i j xs (by omega) hij, pRot_length m n _ _ _ (by omega), pSwapR_length]
theorem pSym_length (key : Nat → Int) : ∀ (f a m b : Nat) (xs : List Nat), (pSym key f a m b xs).length = xs.length
  | 0, _, _, _, _ => rfl
  | f + 1, a, m, b, xs => by
    unfold pSym
    split
    · exact pUp_length _ _ _
    · split
      · exact pDn_length _ _ _
      · simp only
        have h1 : ∀ (c : Prop) [Decidable c] (m i j : Nat) (ys : List Nat), (if c then pRot m i j ys else ys).length = ys.length := fun c _ m i j ys => by
          split
          · exact pRot_length _ _ _ _ _ (Nat.le_refl _)
          · rfl
        have h2 : ∀ (c : Prop) [Decidable c] (a m b : Nat) (ys : List Nat), (if c then pSym key f a m b ys else ys).length = ys.length := fun c _ a m b ys => by
          split
          · exact pSym_length key f _ _ _ _
          · rfl
        rw [h2, h2, h1]

/-- The merge's contract, for ranges up to f. -/
def SymC (f : Nat) : Prop := ∀ (g cap bx a m b L : Nat) (va vm vb : Int) (key : Nat → Int) (xs : List Nat) (w : World), HCmp w g bx key → OI w g cap xs → va = a → vm = m → vb = b → L = xs.length → a < m → m < b → b ≤ xs.length → b - a ≤ f → xs.length ≤ 1000 →
  Calls Try.prog 104 #[.slice (some ⟨g, 0, none⟩) L cap, .int .i64 va, .int .i64 vm, .int .i64 vb, .func (.func 78) #[] #[.pointer (some ⟨bx, 0, none⟩)]] w fun e w' => e = .returned (.tuple #[]) ∧ SwInv w w' g cap (pSym key f a m b xs)

theorem rotate_int (g cap a m b L : Nat) (va vm vb : Int) (xs : List Nat) (C : Value) (w : World) (hO : OI w g cap xs) (ea : va = a) (em : vm = m) (eb : vb = b) (eL : L = xs.length) (ha : a < m) (hm : m < b) (hb : b ≤ xs.length) (hl : xs.length ≤ 1000) :
    Calls Try.prog 109 #[.slice (some ⟨g, 0, none⟩) L cap, .int .i64 va, .int .i64 vm, .int .i64 vb, C] w fun e w' =>
      e = .returned (.tuple #[]) ∧ SwInv w w' g cap (pRot m (m - a) (b - m) xs) := by
  subst ea em eb eL
  exact rotate_any g cap a m b xs C w hO ha hm hb hl

set_option maxRecDepth 100000 in
set_option maxHeartbeats 4000000 in
theorem sym3_any (f : Nat) (ih : SymC f) (g cap bx a m b : Nat) (key : Nat → Int) (xs : List Nat) (w : World) (hC : HCmp w g bx key) (hO : OI w g cap xs) (ham : a + 1 < m) (hmb : m + 1 < b) (hb : b ≤ xs.length) (hf : b - a ≤ f + 1) (hl : xs.length ≤ 1000)
    (mid s0 r0 st : Nat) (hmid : mid = (a + b) / 2) (hs0 : s0 = if mid < m then mid + m - b else a) (hr0 : r0 = if mid < m then mid else m) (hst : st = bsr (fun c => !ltk key xs (mid + m - 1 - c) c) s0 r0)
    (xs1 xs2 xs3 : List Nat) (h1 : xs1 = if st < m ∧ m < mid + m - st then pRot m (m - st) (mid + m - st - m) xs else xs) (h2 : xs2 = if a < st ∧ st < mid then pSym key f a st mid xs1 else xs1) (h3 : xs3 = if mid < mid + m - st ∧ mid + m - st < b then pSym key f mid (mid + m - st) b xs2 else xs2) :
    Calls Try.prog 104 #[.slice (some ⟨g, 0, none⟩) xs.length cap, .int .i64 a, .int .i64 m, .int .i64 b, .func (.func 78) #[] #[.pointer (some ⟨bx, 0, none⟩)]] w fun e w' =>
      e = .returned (.tuple #[]) ∧ SwInv w w' g cap xs3 := by
  have Ih := Lib.hid ih
  have HC := Lib.hid hC
  have t0 : ((m : Int) - (a : Int) == 1) = false := by rw [beq_eq_false_iff_ne]; omega
  have t00 : ((b : Int) - (m : Int) == 1) = false := by rw [beq_eq_false_iff_ne]; omega
  have m1 : a < mid := by omega
  have m2 : mid < b := by omega
  have hbm : mid < m → b ≤ mid + m := fun h => by omega
  have Hbm := Lib.hid hbm
  have hs1 : s0 ≤ r0 := by rw [hs0, hr0]; split <;> omega
  have hs2 : mid + m ≤ b + s0 := by rw [hs0]; split <;> omega
  have hr2 : r0 ≤ m := by rw [hr0]; split <;> omega
  have hr3 : r0 ≤ mid ∨ r0 ≤ m := .inr hr2
  have hsa : a ≤ s0 := by rw [hs0]; split <;> omega
  have Hst := Lib.hid hst
  have H1 := Lib.hid h1
  have H2 := Lib.hid h2
  have H3 := Lib.hid h3
  have Hmid : Hid (((a : Int) + (b : Int)) / 2 = (mid : Int)) := by show _ = _; omega
  have Hs0 := Lib.hid hs0
  have Hr0 := Lib.hid hr0
  clear hC ih hst h1 h2 h3 hmid hs0 hr0 hbm
  go_enter Try.func104, Try.ntmps104
  go_upto_if 140 with fail
  rw [Hmid.out]
  go_cut [20, 21] from 138 to 146 (fun s20 s21 wx => s20 = .int .i64 s0 ∧ s21 = .int .i64 r0 ∧ w = wx)
  case first =>
    by_cases hlt : mid < m
    · have t1 : ((mid : Int) < (m : Int)) := by omega
      have e0 := Hs0.out
      have e1 := Hr0.out
      rw [if_pos hlt] at e0 e1
      have E0 := Lib.hid e0
      have E1 := Lib.hid e1
      clear e0 e1
      go_wp2
      go_meet
      have e0 := E0.out
      have e1 := E1.out
      have e2 := Hbm.out hlt
      exact ⟨by rw [Value.int.injEq]; exact ⟨rfl, by omega⟩, by rw [Value.int.injEq]; exact ⟨rfl, by omega⟩, rfl⟩
    · have t1 : ¬ ((mid : Int) < (m : Int)) := by omega
      have e0 := Hs0.out
      have e1 := Hr0.out
      rw [if_neg hlt] at e0 e1
      have E0 := Lib.hid e0
      have E1 := Lib.hid e1
      clear e0 e1
      go_wp2
      go_meet
      exact ⟨by rw [E0.out], by rw [E1.out], rfl⟩
  case rest =>
    obtain ⟨rfl, rfl, rfl⟩ := hcut
    go_wp2
    go_loopw [20, 21] (fun vi vj wr => ∃ i j : Nat, vi = .int .i64 i ∧ vj = .int .i64 j ∧ s0 ≤ i ∧ i ≤ j ∧ j ≤ r0 ∧ SwInv w wr g cap xs ∧ Hid (bsr (fun c => !ltk key xs (mid + m - 1 - c) c) i j = bsr (fun c => !ltk key xs (mid + m - 1 - c) c) s0 r0)) (fun vi vj _ => (intOf vj).toNat - (intOf vi).toNat)
    case atStart => exact ⟨s0, r0, rfl, rfl, by omega, by omega, by omega, ⟨grown_refl _ _, hO⟩, rfl⟩
    case round =>
      obtain ⟨i, j, rfl, rfl, hmi, hij, hjb, hI, hP⟩ := hrel
      by_cases hlt : i < j
      · have t1 : ((i : Int) < (j : Int)) := by omega
        obtain ⟨h, hh⟩ : ∃ h, h = (i + j) / 2 := ⟨_, rfl⟩
        have t2 : Hid (((i : Int) + (j : Int)) / 2 = (h : Int)) := by show _ = _; omega
        have h3 : i ≤ h := by omega
        have h4 : h < j := by omega
        obtain ⟨q, hq⟩ : ∃ q, q = mid + m - 1 - h := ⟨_, rfl⟩
        have hq1 : q < xs.length := by omega
        have hq2 : h < xs.length := by omega
        have hwr : IntKind.i64.wrap ((mid : Int) + (m : Int) - 1 - (h : Int)) = (q : Int) := by rw [IntWalk.i64_in _ (by omega)]; omega
        have Hh := Lib.hid hh
        have Hq := Lib.hid hq
        clear hh hq
        have hS := Lib.hid (fun w' (k : Ext wr w') => (⟨k, (hI.2.ext k).cell hq1, (hI.2.ext k).cell hq2⟩ : Ext wr w' ∧ w'.cell? ⟨g, q, none⟩ = some (.int .i64 (xs[q] : Int)) ∧ w'.cell? ⟨g, h, none⟩ = some (.int .i64 (xs[h] : Int))))
        go_wp2
        rw [t2.out]
        refine wp_region_rel 14 (by kernel_rfl) (by kernel_rfl) (Ext.refl wr).drew ?_
        repeat (apply relW_fix
                · intro vs w' hw hf
                  have hc := hS.out w' hw
                  unfold okAt
                  go_simp
                  first | exact ⟨rfl, Ext.refl _⟩ | exact rfl
                · intro vs; go_simp; rfl)
        (apply relW_fix
         · intro vs w' hw hf
           have hc := hS.out w' hw
           skip
           unfold okAt
           go_simp
           refine ⟨Ext.refl _, ?_⟩
           go_at_call 78
           refine (HC.out w' (hI.1.trans (Ext.grownBy hw _)) xs[q] xs[h]).mono ?_; rintro e w2 ⟨rfl, hb⟩; exact ⟨_, rfl, rfl, hb⟩
         · intro vs; go_simp; rfl)
        repeat (apply relW_fix
                · intro vs w' hw hf
                  have hc := hS.out w' hw
                  unfold okAt
                  go_simp
                  first | exact ⟨rfl, Ext.refl _⟩ | exact rfl
                · intro vs; go_simp; rfl)
        refine relW_nil fun vs w' hw hf => ?_
        refine wpList_nil ?_
        have hI2 := Lib.hid (hI.ext hw)
        clear hw hf hS hI
        have cl := cmpI_lt (key xs[q]) (key xs[h])
        have lk : Hid (ltk key xs q h = decide (key xs[q] < key xs[h])) := by show _ = _; unfold ltk; simp [hq1, hq2]
        by_cases hc : key xs[q] < key xs[h]
        · have t4 : decide (cmpI (key xs[q]) (key xs[h]) < 0) = true := decide_eq_true (cl.2 hc)
          have hN : Hid (bsr (fun c => !ltk key xs (mid + m - 1 - c) c) i h = bsr (fun c => !ltk key xs (mid + m - 1 - c) c) s0 r0) := by
            have := hP.out
            rw [bsr_dn _ i j hlt (by rw [← Hh.out]; show (!ltk key xs (mid + m - 1 - h) h) = false; rw [← Hq.out, lk.out, decide_eq_true hc]; rfl), ← Hh.out] at this
            exact this
          clear cl
          rw [t4]
          clear t4
          go_wp2
          go_roundw
          case rel => exact ⟨i, h, rfl, rfl, by omega, by omega, by omega, hI2.out, hN⟩
          case measure => simp [intOf]; omega
        · have t4 : decide (cmpI (key xs[q]) (key xs[h]) < 0) = false := decide_eq_false (fun h => hc (cl.1 h))
          have hN : Hid (bsr (fun c => !ltk key xs (mid + m - 1 - c) c) (h + 1) j = bsr (fun c => !ltk key xs (mid + m - 1 - c) c) s0 r0) := by
            have := hP.out
            rw [bsr_up _ i j hlt (by rw [← Hh.out]; show (!ltk key xs (mid + m - 1 - h) h) = true; rw [← Hq.out, lk.out, decide_eq_false hc]; rfl), ← Hh.out] at this
            exact this
          clear cl
          rw [t4]
          clear t4
          go_wp2
          go_roundw
          case rel => exact ⟨h + 1, j, by go_num, rfl, by omega, by omega, hjb, hI2.out, hN⟩
          case measure => simp [intOf]; omega
      · have t1 : ¬ ((i : Int) < (j : Int)) := by omega
        have hi := hP.out
        rw [bsr_end _ i j hlt, ← Hst.out] at hi
        subst hi
        have HI := Lib.hid hI
        clear hI
        go_upto_region 39 with fail
        go_cut [185] from 178 to 184 (fun s185 wx => s185 = .bool (decide (i < m ∧ m < mid + m - i)) ∧ wr = wx)
        case first =>
          by_cases c1 : i < m
          · by_cases c2 : m < mid + m - i
            · have d1 : ((i : Int) < (m : Int)) := by omega
              have d2 : ((m : Int) < (mid : Int) + (m : Int) - (i : Int)) := by omega
              have d3 : Hid (decide (i < m ∧ m < mid + m - i) = true) := decide_eq_true ⟨c1, c2⟩
              clear c1 c2
              go_wp2
              go_meet
              exact ⟨by rw [d3.out], rfl⟩
            · have d1 : ((i : Int) < (m : Int)) := by omega
              have d2 : ¬ ((m : Int) < (mid : Int) + (m : Int) - (i : Int)) := by omega
              have d3 : Hid (decide (i < m ∧ m < mid + m - i) = false) := decide_eq_false fun h => c2 h.2
              clear c1 c2
              go_wp2
              go_meet
              exact ⟨by rw [d3.out], rfl⟩
          · have d1 : ¬ ((i : Int) < (m : Int)) := by omega
            have d3 : Hid (decide (i < m ∧ m < mid + m - i) = false) := decide_eq_false fun h => c1 h.1
            clear c1
            go_wp2
            go_meet
            exact ⟨by rw [d3.out], rfl⟩
        case rest =>
          obtain ⟨rfl, rfl⟩ := hcut
          go_upto_if 185 with fail
          go_cut [] from 185 to 191 (fun wx => SwInv w wx g cap xs1)
          case first =>
            have e1 := H1.out
            by_cases hc : i < m ∧ m < mid + m - i
            · rw [if_pos hc] at e1
              rw [decide_eq_true hc]
              have E1 := Lib.hid e1
              clear e1
              obtain ⟨hc1, hc2⟩ := hc
              go_wp2_with fail
              refine (rotate_int g cap i m (mid + m - i) _ _ _ _ xs _ wr HI.out.2 rfl rfl (by omega) rfl hc1 hc2 (by omega) hl).mono ?_
              rintro e w1 ⟨rfl, h1⟩
              have HS : Hid (SwInv w w1 g cap xs1) := by rw [E1.out]; exact HI.out.trans h1
              clear h1
              go_wp2
              go_meet
              exact HS.out
            · rw [if_neg hc] at e1
              rw [decide_eq_false hc]
              have E1 := Lib.hid e1
              clear e1 hc
              go_wp2
              go_meet
              rw [E1.out]
              exact HI.out
          case rest =>
            have L1 : Hid (xs1.length = xs.length) := by
              show _ = _
              rw [H1.out]
              split
              · exact pRot_length _ _ _ _ _ (Nat.le_refl _)
              · rfl
            have H1' := Lib.hid hcut
            clear hcut
            go_upto_region 41 with fail
            go_cut [199] from 192 to 198 (fun s199 wx => s199 = .bool (decide (a < i ∧ i < mid)) ∧ wc = wx)
            case first =>
              by_cases c1 : a < i
              · by_cases c2 : i < mid
                · have d1 : ((a : Int) < (i : Int)) := by omega
                  have d2 : ((i : Int) < (mid : Int)) := by omega
                  have d3 : Hid (decide (a < i ∧ i < mid) = true) := decide_eq_true ⟨c1, c2⟩
                  clear c1 c2
                  go_wp2
                  go_meet
                  exact ⟨by rw [d3.out], rfl⟩
                · have d1 : ((a : Int) < (i : Int)) := by omega
                  have d2 : ¬ ((i : Int) < (mid : Int)) := by omega
                  have d3 : Hid (decide (a < i ∧ i < mid) = false) := decide_eq_false fun h => c2 h.2
                  clear c1 c2
                  go_wp2
                  go_meet
                  exact ⟨by rw [d3.out], rfl⟩
              · have d1 : ¬ ((a : Int) < (i : Int)) := by omega
                have d3 : Hid (decide (a < i ∧ i < mid) = false) := decide_eq_false fun h => c1 h.1
                clear c1
                go_wp2
                go_meet
                exact ⟨by rw [d3.out], rfl⟩
            case rest =>
              obtain ⟨rfl, rfl⟩ := hcut
              go_upto_if 199 with fail
              go_cut [] from 199 to 205 (fun wx => SwInv w wx g cap xs2)
              case first =>
                have e1 := H2.out
                by_cases hc : a < i ∧ i < mid
                · rw [if_pos hc] at e1
                  rw [decide_eq_true hc]
                  have E1 := Lib.hid e1
                  clear e1
                  obtain ⟨hc1, hc2⟩ := hc
                  go_wp2_with fail
                  refine (Ih.out g cap bx a i mid _ _ _ _ key xs1 wc (HC.out.grown H1'.out.1) H1'.out.2 rfl rfl rfl L1.out.symm hc1 hc2 (by have := L1.out; omega) (by omega) (by have := L1.out; omega)).mono ?_
                  rintro e w1 ⟨rfl, h1⟩
                  have HS : Hid (SwInv w w1 g cap xs2) := by rw [E1.out]; exact H1'.out.trans h1
                  clear h1
                  go_wp2
                  go_meet
                  exact HS.out
                · rw [if_neg hc] at e1
                  rw [decide_eq_false hc]
                  have E1 := Lib.hid e1
                  clear e1 hc
                  go_wp2
                  go_meet
                  rw [E1.out]
                  exact H1'.out
              case rest =>
                have L2 : Hid (xs2.length = xs.length) := by
                  show _ = _
                  rw [H2.out, ← L1.out]
                  split
                  · exact pSym_length _ _ _ _ _ _
                  · rfl
                have H2' := Lib.hid hcut
                clear hcut
                have e1 := H3.out
                by_cases hc : mid < mid + m - i ∧ mid + m - i < b
                · rw [if_pos hc] at e1
                  have E1 := Lib.hid e1
                  clear e1
                  obtain ⟨hc1, hc2⟩ := hc
                  have d1 : ((mid : Int) < (mid : Int) + (m : Int) - (i : Int)) := by omega
                  have d2 : ((mid : Int) + (m : Int) - (i : Int) < (b : Int)) := by omega
                  go_wp2_with fail
                  refine (Ih.out g cap bx mid (mid + m - i) b _ _ _ _ key xs2 _ (HC.out.grown H2'.out.1) H2'.out.2 rfl (by omega) rfl L2.out.symm hc1 hc2 (by have := L2.out; omega) (by omega) (by have := L2.out; omega)).mono ?_
                  rintro e w1 ⟨rfl, h1⟩
                  have HS : Hid (SwInv w w1 g cap xs3) := by rw [E1.out]; exact H2'.out.trans h1
                  clear h1
                  go_wp2
                  go_end0
                  exact ⟨rfl, HS.out⟩
                · rw [if_neg hc] at e1
                  have E1 := Lib.hid e1
                  clear e1
                  have HS : Hid (SwInv w wc g cap xs3) := by rw [E1.out]; exact H2'.out
                  by_cases hc1 : mid < mid + m - i
                  · have d1 : ((mid : Int) < (mid : Int) + (m : Int) - (i : Int)) := by omega
                    have d2 : ¬ ((mid : Int) + (m : Int) - (i : Int) < (b : Int)) := by omega
                    clear hc hc1
                    go_wp2
                    go_end0
                    exact ⟨rfl, HS.out⟩
                  · have d1 : ¬ ((mid : Int) < (mid : Int) + (m : Int) - (i : Int)) := by omega
                    clear hc hc1
                    go_wp2
                    go_end0
                    exact ⟨rfl, HS.out⟩
end Go.Proofs.Ytdlalmbnkcadfaa
