/- slices: SortStableFunc. -/
import Derived.Test.YtdlalmbnkcadfaaM15
namespace Go.Proofs.Ytdlalmbnkcadfaa
open Go.RowKit

theorem sym_any : ∀ f, SymC f
  | 0 => fun g cap bx a m b L va vm vb key xs w hC hO ea em eb eL ham hmb hb hf hl => by omega
  | f + 1 => fun g cap bx a m b L va vm vb key xs w hC hO ea em eb eL ham hmb hb hf hl => by
    subst ea em eb eL
    by_cases h1 : m = a + 1
    · have e : pSym key (f + 1) a m b xs = pUp xs a (bsr (fun h => ltk key xs h a) m b - 1 - a) := by rw [pSym, if_pos h1]
      rw [e]
      exact sym1_any g cap bx a m b key xs w hC hO h1 hmb hb hl
    · by_cases h2 : b = m + 1
      · have e : pSym key (f + 1) a m b xs = pDn xs m (m - bsr (fun h => !ltk key xs m h) a m) := by rw [pSym, if_neg h1, if_pos h2]
        rw [e]
        exact sym2_any g cap bx a m b key xs w hC hO (by omega) h2 hb hl
      · rw [pSym, if_neg h1, if_neg h2]
        exact sym3_any f (sym_any f) g cap bx a m b key xs w hC hO (by omega) (by omega) hb hf hl _ _ _ _ rfl rfl rfl rfl _ _ _ rfl rfl rfl

/-- The blocks of 20, sorted; merged. -/
def stB (key : Nat → Int) (k : Nat) (xs : List Nat) : List Nat := (List.range k).foldl (fun xs i => insOut key (20 * i) 19 xs) xs
theorem stB_succ (key : Nat → Int) (k : Nat) (xs : List Nat) : stB key (k + 1) xs = insOut key (20 * k) 19 (stB key k xs) := by simp [stB, List.range_succ]
theorem stB_length (key : Nat → Int) (xs : List Nat) : ∀ k, (stB key k xs).length = xs.length
  | 0 => rfl
  | k + 1 => by rw [stB_succ, insOut_length, stB_length key xs k]
/-- One round of merges at the size z: the first k pairs. -/
def stM (key : Nat → Int) (z k : Nat) (xs : List Nat) : List Nat := (List.range k).foldl (fun xs i => pSym key 1000 (2 * z * i) (2 * z * i + z) (2 * z * i + 2 * z) xs) xs
theorem stM_succ (key : Nat → Int) (z k : Nat) (xs : List Nat) : stM key z (k + 1) xs = pSym key 1000 (2 * z * k) (2 * z * k + z) (2 * z * k + 2 * z) (stM key z k xs) := by simp [stM, List.range_succ]
theorem stM_length (key : Nat → Int) (z : Nat) (xs : List Nat) : ∀ k, (stM key z k xs).length = xs.length
  | 0 => rfl
  | k + 1 => by rw [stM_succ, pSym_length, stM_length key z xs k]
def stR (key : Nat → Int) (n z : Nat) (xs : List Nat) : List Nat :=
  let k := n / (2 * z)
  let ys := stM key z k xs
  if 2 * z * k + z < n then pSym key 1000 (2 * z * k) (2 * z * k + z) n ys else ys
theorem stR_length (key : Nat → Int) (n z : Nat) (xs : List Nat) : (stR key n z xs).length = xs.length := by
  unfold stR
  simp only
  split
  · rw [pSym_length, stM_length]
  · exact stM_length _ _ _ _
/-- All rounds. -/
def stF (key : Nat → Int) (n : Nat) : Nat → Nat → List Nat → List Nat
  | 0, _, xs => xs
  | f + 1, z, xs => if z < n then stF key n f (2 * z) (stR key n z xs) else xs
theorem stF_length (key : Nat → Int) (n : Nat) : ∀ (f z : Nat) (xs : List Nat), (stF key n f z xs).length = xs.length
  | 0, _, _ => rfl
  | f + 1, z, xs => by
    unfold stF
    split
    · rw [stF_length key n f, stR_length]
    · rfl
def pStable (key : Nat → Int) (xs : List Nat) : List Nat :=
  stF key xs.length 3 20 (insOut key (20 * (xs.length / 20)) (xs.length - (20 * (xs.length / 20) + 1)) (stB key (xs.length / 20) xs))
theorem pStable_length (key : Nat → Int) (xs : List Nat) : (pStable key xs).length = xs.length := by
  unfold pStable
  rw [stF_length, insOut_length, stB_length]

theorem insertion_int (g cap bx a b L : Nat) (va vb : Int) (key : Nat → Int) (xs : List Nat) (w : World) (hC : HCmp w g bx key) (hO : OI w g cap xs) (ea : va = a) (eb : vb = b) (eL : L = xs.length) (hab : a ≤ b) (hb : b ≤ xs.length) (hl : xs.length ≤ 1000) :
    Calls Try.prog 103 #[.slice (some ⟨g, 0, none⟩) L cap, .int .i64 va, .int .i64 vb, .func (.func 78) #[] #[.pointer (some ⟨bx, 0, none⟩)]] w fun e w' =>
      e = .returned (.tuple #[]) ∧ SwInv w w' g cap (insOut key a (b - (a + 1)) xs) := by
  subst ea eb eL
  exact insertion_any g cap bx a b key xs w hC hO hab hb hl

set_option maxRecDepth 100000 in
set_option maxHeartbeats 4000000 in
theorem stable_any (g cap bx : Nat) (key : Nat → Int) (xs : List Nat) (w : World) (hC : HCmp w g bx key) (hO : OI w g cap xs) (hl : xs.length ≤ 64) :
    Calls Try.prog 93 #[.slice (some ⟨g, 0, none⟩) xs.length cap, .int .i64 xs.length, .func (.func 78) #[] #[.pointer (some ⟨bx, 0, none⟩)]] w fun e w' =>
      e = .returned (.tuple #[]) ∧ SwInv w w' g cap (pStable key xs) := by
  have HC := Lib.hid hC
  clear hC
  go_enter Try.func93, Try.ntmps93
  go_wp2
  go_loopw [7, 8] (fun va vb wr => ∃ k : Nat, va = .int .i64 ((20 * k : Nat) : Int) ∧ vb = .int .i64 ((20 * k + 20 : Nat) : Int) ∧ 20 * k ≤ xs.length ∧ SwInv w wr g cap (stB key k xs)) (fun va _ _ => xs.length + 1 - (intOf va).toNat)
  case atStart => exact ⟨0, by go_num, by go_num, by omega, grown_refl _ _, hO⟩
  case round =>
    obtain ⟨k, rfl, rfl, hk, hI⟩ := hrel
    obtain ⟨a, ha⟩ : ∃ a, a = 20 * k := ⟨_, rfl⟩
    have HI := Lib.hid hI
    have hlen := stB_length key xs k
    clear hI
    by_cases hlt : 20 * k + 20 ≤ xs.length
    · have t1 : (((20 * k + 20 : Nat) : Int) ≤ (xs.length : Int)) := by omega
      go_wp2_with fail
      refine (insertion_int g cap bx (20 * k) (20 * k + 20) _ _ _ key _ wr (HC.out.grown HI.out.1) HI.out.2 (by omega) (by omega) hlen.symm (by omega) (by omega) (by omega)).mono ?_
      rintro e w1 ⟨rfl, h1⟩
      have HS := Lib.hid (HI.out.trans h1)
      clear h1
      go_wp2
      go_roundw
      case rel => exact ⟨k + 1, by go_num, by go_num, by omega, by rw [stB_succ]; have := HS.out; rwa [show 20 * k + 20 - (20 * k + 1) = 19 by omega] at this⟩
      case measure => simp [intOf]; omega
    · have t1 : ¬ (((20 * k + 20 : Nat) : Int) ≤ (xs.length : Int)) := by omega
      obtain rfl : k = xs.length / 20 := by omega
      go_wp2_with fail
      refine (insertion_int g cap bx (20 * (xs.length / 20)) xs.length _ _ _ key _ wr (HC.out.grown HI.out.1) HI.out.2 (by omega) rfl hlen.symm (by omega) (by omega) (by omega)).mono ?_
      rintro e w1 ⟨rfl, h1⟩
      have HS := Lib.hid (HI.out.trans h1)
      clear h1 HI
      have hlen2 : (insOut key (20 * (xs.length / 20)) (xs.length - (20 * (xs.length / 20) + 1)) (stB key (xs.length / 20) xs)).length = xs.length := by rw [insOut_length, stB_length]
      have H0 : Hid (stF key xs.length 3 20 (insOut key (20 * (xs.length / 20)) (xs.length - (20 * (xs.length / 20) + 1)) (stB key (xs.length / 20) xs)) = pStable key xs) := rfl
      generalize insOut key (20 * (xs.length / 20)) (xs.length - (20 * (xs.length / 20) + 1)) (stB key (xs.length / 20) xs) = ys0 at HS hlen2 H0
      go_wp2
      go_loopw [6] (fun vz wr => ∃ (f z : Nat) (ys : List Nat), vz = .int .i64 z ∧ 20 ≤ z ∧ z ≤ 200 ∧ xs.length ≤ z * 2 ^ f ∧ ys.length = xs.length ∧ SwInv w wr g cap ys ∧ Hid (stF key xs.length f z ys = pStable key xs)) (fun vz _ => xs.length - (intOf vz).toNat)
      case atStart => exact ⟨3, 20, ys0, rfl, by omega, by omega, by omega, hlen2, HS.out, H0⟩
      case round =>
        obtain ⟨f, z, ys, rfl, hz1, hz2, hzf, hlen3, hI, hP⟩ := hrel
        have HI := Lib.hid hI
        clear hI
        by_cases hzn : z < xs.length
        · have t1 : ((z : Int) < (xs.length : Int)) := by omega
          obtain ⟨f', rfl⟩ : ∃ f', f = f' + 1 := by
            cases f with
            | zero => simp at hzf; omega
            | succ f' => exact ⟨f', rfl⟩
          have hP2 : Hid (stF key xs.length f' (2 * z) (stR key xs.length z ys) = pStable key xs) := by
            have := hP.out
            rw [stF, if_pos hzn] at this
            exact this
          have hzf2 : Hid (xs.length ≤ 2 * z * 2 ^ f') := by
            show _ ≤ _
            rw [Nat.pow_succ] at hzf
            rw [Nat.mul_comm 2 z, Nat.mul_assoc, Nat.mul_comm 2]
            exact hzf
          clear hP hzf
          go_wp2
          go_loopw [7, 8] (fun va vb wr => ∃ k p : Nat, Hid (p = 2 * z * k) ∧ va = .int .i64 p ∧ vb = .int .i64 ((p + 2 * z : Nat) : Int) ∧ p ≤ xs.length ∧ SwInv w wr g cap (stM key z k ys)) (fun va _ _ => xs.length + 1 - (intOf va).toNat)
          case atStart => exact ⟨0, 0, rfl, by go_num, by go_num, by omega, HI.out⟩
          case round =>
            obtain ⟨k, p, hp, rfl, rfl, hpl, hI⟩ := hrel
            have HK := Lib.hid hI
            have hlen4 := stM_length key z ys k
            clear hI
            by_cases hlt2 : p + 2 * z ≤ xs.length
            · have t2 : (((p + 2 * z : Nat) : Int) ≤ (xs.length : Int)) := by omega
              go_wp2_with fail
              refine (sym_any 1000 g cap bx p (p + z) (p + 2 * z) _ _ _ _ key _ wr (HC.out.grown HK.out.1) HK.out.2 rfl (by omega) (by omega) (by omega) (by omega) (by omega) (by omega) (by omega) (by omega)).mono ?_
              rintro e w1 ⟨rfl, h1⟩
              have HS2 : Hid (SwInv w w1 g cap (stM key z (k + 1) ys)) := by
                show SwInv _ _ _ _ _
                rw [stM_succ, ← hp.out]
                exact HK.out.trans h1
              clear h1
              go_wp2
              go_roundw
              case rel => exact ⟨k + 1, p + 2 * z, by have := hp.out; show _ = _; rw [Nat.mul_succ, ← this], by go_num, by go_num, by omega, HS2.out⟩
              case measure => simp [intOf]; omega
            · have t2 : ¬ (((p + 2 * z : Nat) : Int) ≤ (xs.length : Int)) := by omega
              have hk : xs.length / (2 * z) = k := by
                have := hp.out
                apply Nat.div_eq_of_lt_le
                · rw [Nat.mul_comm]; omega
                · rw [Nat.mul_comm, Nat.mul_succ]; omega
              by_cases hlt3 : p + z < xs.length
              · have t3 : ((p : Int) + (z : Int) < (xs.length : Int)) := by omega
                have hR : Hid (stR key xs.length z ys = pSym key 1000 p (p + z) xs.length (stM key z k ys)) := by
                  show _ = _
                  unfold stR
                  simp only [hk, ← hp.out]
                  rw [if_pos hlt3]
                clear hk
                go_wp2_with fail
                refine (sym_any 1000 g cap bx p (p + z) xs.length _ _ _ _ key _ wr (HC.out.grown HK.out.1) HK.out.2 rfl (by omega) rfl (by omega) (by omega) (by omega) (by omega) (by omega) (by omega)).mono ?_
                rintro e w1 ⟨rfl, h1⟩
                have HS2 : Hid (SwInv w w1 g cap (stR key xs.length z ys)) := by
                  show SwInv _ _ _ _ _
                  rw [hR.out]
                  exact HK.out.trans h1
                clear h1
                go_wp2
                refine ⟨⟨f', 2 * z, _, by go_num, by omega, by omega, hzf2.out, by rw [stR_length]; exact hlen3, HS2.out, hP2⟩, by simp [intOf]; omega⟩
              · have t3 : ¬ ((p : Int) + (z : Int) < (xs.length : Int)) := by omega
                have hR : Hid (stR key xs.length z ys = stM key z k ys) := by
                  show _ = _
                  unfold stR
                  simp only [hk, ← hp.out]
                  rw [if_neg hlt3]
                clear hk
                have HS2 : Hid (SwInv w wr g cap (stR key xs.length z ys)) := by
                  show SwInv _ _ _ _ _
                  rw [hR.out]
                  exact HK.out
                go_wp2
                refine ⟨⟨f', 2 * z, _, by go_num, by omega, by omega, hzf2.out, by rw [stR_length]; exact hlen3, HS2.out, hP2⟩, by simp [intOf]; omega⟩
        · have t1 : ¬ ((z : Int) < (xs.length : Int)) := by omega
          have hP2 : Hid (ys = pStable key xs) := by
            have := hP.out
            cases f with
            | zero => exact this
            | succ f => rw [stF, if_neg hzn] at this; exact this
          go_wp2
          go_end0
          rw [← hP2.out]
          exact ⟨rfl, HI.out⟩
end Go.Proofs.Ytdlalmbnkcadfaa
/- device: at, fit, Fit. -/
namespace Go.Proofs.Ytdlalmbnkcadfaa
open Go.RowKit

def atI (xs : List Int) (i : Nat) (d : Int) : Int := xs[i]?.getD d
set_option maxRecDepth 100000 in
theorem at_any (A : Option Addr) (c i : Nat) (xs : List Int) (d : Int) (w : World) (hA : Is w A xs) :
    Calls Try.prog 76 #[.slice A xs.length c, .int .i64 i, .int .i64 d] w fun e w' => e = .returned (.int .i64 (atI xs i d)) ∧ w = w' := by
  by_cases hlt : i < xs.length
  · obtain ⟨b, o, rfl, hc⟩ := hA.at hlt
    have t1 : ((i : Int) < (xs.length : Int)) := by omega
    have he : Hid (atI xs i d = xs[i]) := by show _ = _; unfold atI; simp [hlt]
    go_enter Try.func76, Try.ntmps76
    go_wp2
    go_ret
    exact ⟨ret_int he.out.symm, rfl⟩
  · have t1 : ¬ ((i : Int) < (xs.length : Int)) := by omega
    have he : Hid (atI xs i d = d) := by show _ = _; unfold atI; rw [List.getElem?_eq_none (by omega)]; rfl
    go_enter Try.func76, Try.ntmps76
    go_wp2
    go_ret
    exact ⟨ret_int he.out.symm, rfl⟩

theorem cmpI_eq (x y : Int) : Lib.compareInt x y = cmpI x y := by
  unfold Lib.compareInt cmpI
  repeat (first | rfl | omega | split)
set_option maxRecDepth 100000 in
theorem fit1_any (A P : Option Addr) (c n d bx x y : Nat) (xs : List Int) (w : World) (k0 : Bk w bx #[.slice A xs.length c, .slice P n d] 34) (hA : Is w A xs) :
    Calls Try.prog 78 #[.int .i64 x, .int .i64 y, .pointer (some ⟨bx, 0, none⟩)] w fun e w' => e = .returned (.int .i64 (cmpI (atI xs x 0) (atI xs y 0))) ∧ Ext w w' := by
  have hS := Lib.hid (fun w' (h : Ext w w') => (⟨h, (k0.ext h).cell 0, hA.ext h⟩ : Ext w w' ∧ w'.cell? ⟨bx, 0, none⟩ = some (.slice A xs.length c) ∧ Is w' A xs))
  go_enter Try.func78, Try.ntmps78
  go_wp2
  refine wp_region_rel 10 (by kernel_rfl) (by kernel_rfl) (Ext.refl w).drew ?_
  repeat (apply relW_fix
          · intro vs w' hw hf
            have hc := hS.out w' hw
            unfold okAt
            go_simp
            first | exact ⟨rfl, Ext.refl _⟩ | exact rfl
          · intro vs; go_simp; rfl)
  (apply relW_fix
   · intro vs w' hw hf
     have hc := hS.out w' hw
     skip
     unfold okAt
     go_simp
     refine ⟨Ext.refl _, ?_⟩
     go_at_call 76
     refine (at_any A c x xs 0 _ hc.2.2).mono ?_; rintro e w2 ⟨rfl, rfl⟩; exact ⟨_, rfl, rfl, Ext.refl _⟩
   · intro vs; go_simp; rfl)
  repeat (apply relW_fix
          · intro vs w' hw hf
            have hc := hS.out w' hw
            unfold okAt
            go_simp
            first | exact ⟨rfl, Ext.refl _⟩ | exact rfl
          · intro vs; go_simp; rfl)
  (apply relW_fix
   · intro vs w' hw hf
     have hc := hS.out w' hw
     skip
     unfold okAt
     go_simp
     refine ⟨Ext.refl _, ?_⟩
     go_at_call 76
     refine (at_any A c y xs 0 _ hc.2.2).mono ?_; rintro e w2 ⟨rfl, rfl⟩; exact ⟨_, rfl, rfl, Ext.refl _⟩
   · intro vs; go_simp; rfl)
  repeat (apply relW_fix
          · intro vs w' hw hf
            have hc := hS.out w' hw
            unfold okAt
            go_simp
            first | exact ⟨rfl, Ext.refl _⟩ | exact rfl
          · intro vs; go_simp; rfl)
  (apply relW_fix
   · intro vs w' hw hf
     have hc := hS.out w' hw
     skip
     unfold okAt
     go_simp
     refine ⟨Ext.refl _, ?_⟩
     go_at_call 79
     refine (Try.cmp_Compare_int _ _ _).mono ?_; rintro e w2 ⟨rfl, rfl⟩; rw [cmpI_eq]; exact ⟨_, rfl, rfl, Ext.refl _⟩
   · intro vs; go_simp; rfl)
  repeat (apply relW_fix
          · intro vs w' hw hf
            have hc := hS.out w' hw
            unfold okAt
            go_simp
            first | exact ⟨rfl, Ext.refl _⟩ | exact rfl
          · intro vs; go_simp; rfl)
  refine relW_nil fun vs w' hw hf => ?_
  refine wpList_nil ?_
  go_wp2
  go_ret
  exact ⟨rfl, hw⟩
end Go.Proofs.Ytdlalmbnkcadfaa
