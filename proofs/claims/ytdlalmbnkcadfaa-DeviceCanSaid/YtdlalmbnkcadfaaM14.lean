/- slices: the insertion sort. -/
import Derived.Test.YtdlalmbnkcadfaaM11
namespace Go.Proofs.Ytdlalmbnkcadfaa
open Go.RowKit

def cmpI (x y : Int) : Int := if x < y then -1 else if y < x then 1 else 0
theorem cmpI_lt (x y : Int) : (cmpI x y < 0) ↔ x < y := by unfold cmpI; split <;> (try split) <;> omega
/-- What is asked of the comparison: it reads, beside block g. -/
def HCmp (w0 : World) (g bx : Nat) (key : Nat → Int) : Prop := ∀ w', w0.grownBy w' (some g) → ∀ x y : Nat,
  Calls Try.prog 78 #[.int .i64 x, .int .i64 y, .pointer (some ⟨bx, 0, none⟩)] w' fun e w'' => e = .returned (.int .i64 (cmpI (key x) (key y))) ∧ Ext w' w''
theorem HCmp.grown {w0 w1 : World} {g bx : Nat} {key : Nat → Int} (h : HCmp w0 g bx key) (k : w0.grownBy w1 (some g)) : HCmp w1 g bx key := fun w' h' => h w' (k.trans h')
theorem SwInv.ext {w w1 w2 : World} {g cap : Nat} {xs : List Nat} (h : SwInv w w1 g cap xs) (e : Ext w1 w2) : SwInv w w2 g cap xs := ⟨h.1.trans (Ext.grownBy e _), h.2.ext e⟩

def ltk (key : Nat → Int) (xs : List Nat) (i j : Nat) : Bool := decide (key (xs[i]?.getD 0) < key (xs[j]?.getD 0))
def insIn (key : Nat → Int) (a : Nat) : Nat → List Nat → List Nat
  | 0, xs => xs
  | j + 1, xs => if a < j + 1 ∧ ltk key xs (j + 1) j = true then insIn key a j (swp xs (j + 1) j) else xs
def insOut (key : Nat → Int) (a n : Nat) (xs : List Nat) : List Nat := (List.range n).foldl (fun xs k => insIn key a (a + 1 + k) xs) xs
theorem insOut_succ (key : Nat → Int) (a n : Nat) (xs : List Nat) : insOut key a (n + 1) xs = insIn key a (a + 1 + n) (insOut key a n xs) := by simp [insOut, List.range_succ]
theorem insIn_length (key : Nat → Int) (a : Nat) : ∀ (j : Nat) (xs : List Nat), (insIn key a j xs).length = xs.length
  | 0, _ => rfl
  | j + 1, xs => by
    unfold insIn
    split
    · rw [insIn_length key a j, swp_length]
    · rfl
theorem insOut_length (key : Nat → Int) (a : Nat) (xs : List Nat) : ∀ n, (insOut key a n xs).length = xs.length
  | 0 => rfl
  | n + 1 => by rw [insOut_succ, insIn_length, insOut_length key a xs n]

theorem insIn_pos (key : Nat → Int) (a j : Nat) (xs : List Nat) (h : a < j) (hl : ltk key xs j (j - 1) = true) : insIn key a j xs = insIn key a (j - 1) (swp xs j (j - 1)) := by
  obtain ⟨m, rfl⟩ : ∃ m, j = m + 1 := ⟨j - 1, by omega⟩
  rw [Nat.add_sub_cancel] at hl ⊢
  rw [insIn, if_pos ⟨h, hl⟩]
theorem insIn_neg (key : Nat → Int) (a j : Nat) (xs : List Nat) (h : ¬ (a < j ∧ ltk key xs j (j - 1) = true)) : insIn key a j xs = xs := by
  cases j with
  | zero => rfl
  | succ m => rw [Nat.add_sub_cancel] at h; rw [insIn, if_neg h]

set_option maxRecDepth 100000 in
set_option maxHeartbeats 4000000 in
theorem insertion_any (g cap bx a b : Nat) (key : Nat → Int) (xs : List Nat) (w : World) (hC : HCmp w g bx key) (hO : OI w g cap xs) (hab : a ≤ b) (hb : b ≤ xs.length) (hl : xs.length ≤ 1000) :
    Calls Try.prog 103 #[.slice (some ⟨g, 0, none⟩) xs.length cap, .int .i64 a, .int .i64 b, .func (.func 78) #[] #[.pointer (some ⟨bx, 0, none⟩)]] w fun e w' =>
      e = .returned (.tuple #[]) ∧ SwInv w w' g cap (insOut key a (b - (a + 1)) xs) := by
  have HC := Lib.hid hC
  clear hC
  go_enter Try.func103, Try.ntmps103
  go_wp2
  go_loopw [8] (fun vi wr => ∃ i : Nat, vi = .int .i64 i ∧ a < i ∧ (i ≤ b ∨ i = a + 1) ∧ SwInv w wr g cap (insOut key a (i - (a + 1)) xs)) (fun vi _ => b + 1 - (intOf vi).toNat)
  case atStart => exact ⟨a + 1, by go_num, by omega, .inr rfl, by rw [Nat.sub_self]; exact ⟨grown_refl _ _, hO⟩⟩
  case round =>
    obtain ⟨i, rfl, hai, hib, hI⟩ := hrel
    by_cases hlt : i < b
    · have t1 : ((i : Int) < (b : Int)) := by omega
      have H0 := Lib.hid hI
      clear hI
      go_wp2
      go_loopw [9] (fun vj wr2 => ∃ (j : Nat) (ys : List Nat), vj = .int .i64 j ∧ a ≤ j ∧ j ≤ i ∧ ys.length = xs.length ∧ SwInv w wr2 g cap ys ∧ Hid (insIn key a j ys = insIn key a i (insOut key a (i - (a + 1)) xs))) (fun vj _ => (intOf vj).toNat)
      case atStart => exact ⟨i, _, rfl, by omega, Nat.le_refl _, insOut_length _ _ _ _, H0.out, rfl⟩
      case round =>
        obtain ⟨j, ys, rfl, haj, hji, hlen, hI, hP⟩ := hrel
        have stop : (¬ (a < j ∧ ltk key ys j (j - 1) = true)) → Hid (SwInv w wr g cap (insOut key a (i + 1 - (a + 1)) xs)) := fun h => by
          have e : i + 1 - (a + 1) = (i - (a + 1)) + 1 := by omega
          have e2 : a + 1 + (i - (a + 1)) = i := by omega
          show SwInv _ _ _ _ _
          rw [e, insOut_succ, e2, ← hP.out]
          rw [insIn_neg key a j ys h]
          exact hI
        by_cases hja : a < j
        · have Stop : Aside _ := stop
          clear stop
          have j1 : j < ys.length := by omega
          have j2 : j - 1 < ys.length := by omega
          have t2 : ((a : Int) < (j : Int)) := by omega
          have j3 : j < xs.length := by omega
          have j4 : j - 1 < xs.length := by omega
          have hwr : IntKind.i64.wrap ((j : Int) - 1) = ((j - 1 : Nat) : Int) := by rw [IntWalk.i64_in _ (by omega)]; omega
          have hS := Lib.hid (fun w' (h : Ext wr w') => (⟨h, (hI.2.ext h).cell j1, (hI.2.ext h).cell j2⟩ : Ext wr w' ∧ w'.cell? ⟨g, j, none⟩ = some (.int .i64 (ys[j] : Int)) ∧ w'.cell? ⟨g, j - 1, none⟩ = some (.int .i64 (ys[j - 1] : Int))))
          go_wp2_with fail
          refine wp_region_rel 17 (by kernel_rfl) (by kernel_rfl) (Ext.refl wr).drew ?_
          repeat (apply relW_fix
                  · intro vs w' hw hf
                    have hc := hS.out w' hw
                    unfold okAt
                    go_simp
                    first | exact ⟨rfl, Ext.refl _⟩ | exact rfl
                  · intro vs; go_simp; rfl)
          (apply relW_fix
           · intro vs w' hw hf
             have hc := hS.out w' hw
             skip
             unfold okAt
             go_simp
             refine ⟨Ext.refl _, ?_⟩
             go_at_call 78
             refine (HC.out w' (hI.1.trans (Ext.grownBy hw _)) ys[j] ys[j - 1]).mono ?_; rintro e w2 ⟨rfl, hb⟩; exact ⟨_, rfl, rfl, hb⟩
           · intro vs; go_simp; rfl)
          repeat (apply relW_fix
                  · intro vs w' hw hf
                    have hc := hS.out w' hw
                    unfold okAt
                    go_simp
                    first | exact ⟨rfl, Ext.refl _⟩ | exact rfl
                  · intro vs; go_simp; rfl)
          refine relW_nil fun vs w' hw hf => ?_
          refine wpList_nil ?_
          have hI2 : SwInv w w' g cap ys := hI.ext hw
          clear hw hf hS hI
          have cl := cmpI_lt (key ys[j]) (key ys[j - 1])
          have lk : ltk key ys j (j - 1) = decide (key ys[j] < key ys[j - 1]) := by unfold ltk; simp [j1, j2]
          by_cases hc : key ys[j] < key ys[j - 1]
          · have t4 : cmpI (key ys[j]) (key ys[j - 1]) < 0 := cl.2 hc
            have hN := Lib.hid (hI2.swap j1 j2)
            have hQ : Hid (insIn key a (j - 1) (swp ys j (j - 1)) = insIn key a i (insOut key a (i - (a + 1)) xs)) := by
              have := hP.out
              rw [insIn_pos key a j ys hja (by rw [lk]; exact decide_eq_true hc)] at this
              exact this
            have x1 := hI2.2.cell j1
            have x2 := hI2.2.cell j2
            have f1 := hI2.2.frozen j
            have f2 := hI2.2.frozen (j - 1)
            clear hI2 cl lk
            go_wp2
            go_region
            clear x1 x2 f1 f2
            go_wp2
            go_roundw
            case rel => exact ⟨j - 1, _, by go_num, by omega, by omega, by rw [swp_length]; exact hlen, hN.out, hQ⟩
            case measure => simp [intOf]; omega
          · have t4 : ¬ (cmpI (key ys[j]) (key ys[j - 1]) < 0) := fun h => hc (cl.1 h)
            have hN : Hid (SwInv w w' g cap (insOut key a (i + 1 - (a + 1)) xs)) := by
              have e : i + 1 - (a + 1) = (i - (a + 1)) + 1 := by omega
              have e2 : a + 1 + (i - (a + 1)) = i := by omega
              show SwInv _ _ _ _ _
              rw [e, insOut_succ, e2, ← hP.out]
              rw [insIn_neg key a j ys (by rw [lk]; simp [hc])]
              exact hI2
            clear hI2 cl lk
            go_wp2
            exact ⟨⟨i + 1, by go_num, by omega, by omega, hN.out⟩, by simp [intOf]; omega⟩
        · have hN := stop fun h => hja h.1
          clear stop
          have t2 : ¬ ((a : Int) < (j : Int)) := by omega
          go_wp2
          go_region
          go_wp2
          exact ⟨⟨i + 1, by go_num, by omega, by omega, hN.out.ext (Ext.refl wr).drew⟩, by simp [intOf]; omega⟩
    · have t1 : ¬ ((i : Int) < (b : Int)) := by omega
      obtain ⟨k, hk⟩ : ∃ k, k = i - (a + 1) := ⟨_, rfl⟩
      have e : i - (a + 1) = b - (a + 1) := by omega
      rw [e] at hI
      go_wp2
      go_end0
      exact ⟨rfl, hI⟩
end Go.Proofs.Ytdlalmbnkcadfaa
/- slices: the merge in place. -/
namespace Go.Proofs.Ytdlalmbnkcadfaa
open Go.RowKit

def bsr (p : Nat → Bool) (i j : Nat) : Nat := if _h : i < j then (if p ((i + j) / 2) then bsr p ((i + j) / 2 + 1) j else bsr p i ((i + j) / 2)) else i
termination_by j - i
theorem bsr_end (p : Nat → Bool) (i j : Nat) (h : ¬ i < j) : bsr p i j = i := by rw [bsr, dif_neg h]
theorem bsr_up (p : Nat → Bool) (i j : Nat) (h : i < j) (hp : p ((i + j) / 2) = true) : bsr p i j = bsr p ((i + j) / 2 + 1) j := by rw [bsr, dif_pos h, if_pos hp]
theorem bsr_dn (p : Nat → Bool) (i j : Nat) (h : i < j) (hp : p ((i + j) / 2) = false) : bsr p i j = bsr p i ((i + j) / 2) := by rw [bsr, dif_pos h, if_neg (by simp [hp])]
theorem bsr_range (p : Nat → Bool) : ∀ (n i j : Nat), j - i ≤ n → i ≤ j → i ≤ bsr p i j ∧ bsr p i j ≤ j
  | 0, i, j, h, hij => by rw [bsr_end _ _ _ (by omega)]; omega
  | n + 1, i, j, h, hij => by
    by_cases hlt : i < j
    · cases hp : p ((i + j) / 2) with
      | true => rw [bsr_up _ _ _ hlt hp]; have := bsr_range p n ((i + j) / 2 + 1) j (by omega) (by omega); omega
      | false => rw [bsr_dn _ _ _ hlt hp]; have := bsr_range p n i ((i + j) / 2) (by omega) (by omega); omega
    · rw [bsr_end _ _ _ hlt]; omega

/-- An element moved up, down. -/
def pUp (xs : List Nat) (a n : Nat) : List Nat := (List.range n).foldl (fun xs k => swp xs (a + k) (a + k + 1)) xs
theorem pUp_succ (xs : List Nat) (a n : Nat) : pUp xs a (n + 1) = swp (pUp xs a n) (a + n) (a + n + 1) := by simp [pUp, List.range_succ]
theorem pUp_length (xs : List Nat) (a : Nat) : ∀ n, (pUp xs a n).length = xs.length
  | 0 => rfl
  | n + 1 => by rw [pUp_succ, swp_length, pUp_length xs a n]
def pDn (xs : List Nat) (m n : Nat) : List Nat := (List.range n).foldl (fun xs k => swp xs (m - k) (m - k - 1)) xs
theorem pDn_succ (xs : List Nat) (m n : Nat) : pDn xs m (n + 1) = swp (pDn xs m n) (m - n) (m - n - 1) := by simp [pDn, List.range_succ]
theorem pDn_length (xs : List Nat) (m : Nat) : ∀ n, (pDn xs m n).length = xs.length
  | 0 => rfl
  | n + 1 => by rw [pDn_succ, swp_length, pDn_length xs m n]

set_option maxRecDepth 100000 in
set_option maxHeartbeats 4000000 in
theorem sym1_any (g cap bx a m b : Nat) (key : Nat → Int) (xs : List Nat) (w : World) (hC : HCmp w g bx key) (hO : OI w g cap xs) (ham : m = a + 1) (hmb : m < b) (hb : b ≤ xs.length) (hl : xs.length ≤ 1000) :
    Calls Try.prog 104 #[.slice (some ⟨g, 0, none⟩) xs.length cap, .int .i64 a, .int .i64 m, .int .i64 b, .func (.func 78) #[] #[.pointer (some ⟨bx, 0, none⟩)]] w fun e w' =>
      e = .returned (.tuple #[]) ∧ SwInv w w' g cap (pUp xs a (bsr (fun h => ltk key xs h a) m b - 1 - a)) := by
  have HC := Lib.hid hC
  have t0 : ((m : Int) - (a : Int) == 1) = true := by rw [beq_iff_eq]; omega
  have Ham := Lib.hid ham
  have ham2 : a < m := by omega
  clear hC ham
  go_enter Try.func104, Try.ntmps104
  go_wp2
  go_loopw [10, 11] (fun vi vj wr => ∃ i j : Nat, vi = .int .i64 i ∧ vj = .int .i64 j ∧ m ≤ i ∧ i ≤ j ∧ j ≤ b ∧ SwInv w wr g cap xs ∧ Hid (bsr (fun h => ltk key xs h a) i j = bsr (fun h => ltk key xs h a) m b)) (fun vi vj _ => (intOf vj).toNat - (intOf vi).toNat)
  case atStart => exact ⟨m, b, rfl, rfl, by omega, by omega, by omega, ⟨grown_refl _ _, hO⟩, rfl⟩
  case round =>
    obtain ⟨i, j, rfl, rfl, hmi, hij, hjb, hI, hP⟩ := hrel
    by_cases hlt : i < j
    · have t1 : ((i : Int) < (j : Int)) := by omega
      obtain ⟨h, hh⟩ : ∃ h, h = (i + j) / 2 := ⟨_, rfl⟩
      have t2 : Hid (((i : Int) + (j : Int)) / 2 = (h : Int)) := by show _ = _; omega
      have h1 : h < xs.length := by omega
      have h2 : a < xs.length := by omega
      have h3 : i ≤ h := by omega
      have h4 : h < j := by omega
      have Hh := Lib.hid hh
      clear hh
      have hS := Lib.hid (fun w' (k : Ext wr w') => (⟨k, (hI.2.ext k).cell h1, (hI.2.ext k).cell h2⟩ : Ext wr w' ∧ w'.cell? ⟨g, h, none⟩ = some (.int .i64 (xs[h] : Int)) ∧ w'.cell? ⟨g, a, none⟩ = some (.int .i64 (xs[a] : Int))))
      go_wp2
      rw [t2.out]
      refine wp_region_rel 11 (by kernel_rfl) (by kernel_rfl) (Ext.refl wr).drew ?_
      repeat (apply relW_fix
              · intro vs w' hw hf
                have hc := hS.out w' hw
                unfold okAt
                go_simp
                first | exact ⟨rfl, Ext.refl _⟩ | exact rfl
              · intro vs; go_simp; rfl)
      (apply relW_fix
       · intro vs w' hw hf
         have hc := hS.out w' hw
         skip
         unfold okAt
         go_simp
         refine ⟨Ext.refl _, ?_⟩
         go_at_call 78
         refine (HC.out w' (hI.1.trans (Ext.grownBy hw _)) xs[h] xs[a]).mono ?_; rintro e w2 ⟨rfl, hb⟩; exact ⟨_, rfl, rfl, hb⟩
       · intro vs; go_simp; rfl)
      repeat (apply relW_fix
              · intro vs w' hw hf
                have hc := hS.out w' hw
                unfold okAt
                go_simp
                first | exact ⟨rfl, Ext.refl _⟩ | exact rfl
              · intro vs; go_simp; rfl)
      refine relW_nil fun vs w' hw hf => ?_
      refine wpList_nil ?_
      have hI2 := Lib.hid (hI.ext hw)
      clear hw hf hS hI
      have cl := cmpI_lt (key xs[h]) (key xs[a])
      have lk : Hid (ltk key xs h a = decide (key xs[h] < key xs[a])) := by show _ = _; unfold ltk; simp [h1, h2]
      by_cases hc : key xs[h] < key xs[a]
      · have t4 : cmpI (key xs[h]) (key xs[a]) < 0 := cl.2 hc
        have hN : Hid (bsr (fun h => ltk key xs h a) (h + 1) j = bsr (fun h => ltk key xs h a) m b) := by
          have := hP.out
          rw [bsr_up _ i j hlt (by rw [← Hh.out]; show ltk key xs h a = true; rw [lk.out]; exact decide_eq_true hc), ← Hh.out] at this
          exact this
        clear cl
        go_wp2
        go_roundw
        case rel => exact ⟨h + 1, j, by go_num, rfl, by omega, by omega, hjb, hI2.out, hN⟩
        case measure => simp [intOf]; omega
      · have t4 : ¬ (cmpI (key xs[h]) (key xs[a]) < 0) := fun h => hc (cl.1 h)
        have hN : Hid (bsr (fun h => ltk key xs h a) i h = bsr (fun h => ltk key xs h a) m b) := by
          have := hP.out
          rw [bsr_dn _ i j hlt (by rw [← Hh.out]; show ltk key xs h a = false; rw [lk.out]; exact decide_eq_false hc), ← Hh.out] at this
          exact this
        clear cl
        go_wp2
        go_roundw
        case rel => exact ⟨i, h, rfl, rfl, by omega, by omega, by omega, hI2.out, hN⟩
        case measure => simp [intOf]; omega
    · have t1 : ¬ ((i : Int) < (j : Int)) := by omega
      have hi := hP.out
      rw [bsr_end _ i j hlt] at hi
      have hN := Lib.hid hi
      have HI := Lib.hid hI
      clear hi hI
      go_wp2
      go_loopw [13] (fun vk wr => ∃ k : Nat, vk = .int .i64 ((a + k : Nat) : Int) ∧ k ≤ i - 1 - a ∧ SwInv w wr g cap (pUp xs a k)) (fun vk _ => i - (intOf vk).toNat)
      case atStart => exact ⟨0, by go_num, by omega, HI.out⟩
      case round =>
        obtain ⟨k, rfl, hk, hI⟩ := hrel
        by_cases hlt2 : k < i - 1 - a
        · have t2 : (((a + k : Nat) : Int) < (i : Int) - 1) := by omega
          have hlen := pUp_length xs a k
          have i1 : a + k < (pUp xs a k).length := by omega
          have i2 : a + k + 1 < (pUp xs a k).length := by omega
          have x1 := hI.2.cell i1
          have x2 := hI.2.cell i2
          have f1 := hI.2.frozen (a + k)
          have f2 := hI.2.frozen (a + k + 1)
          go_wp2
          go_region
          have hN := Lib.hid (hI.swap i1 i2)
          clear hI x1 x2 f1 f2
          go_wp2
          go_roundw
          case rel => exact ⟨k + 1, by go_num, by omega, by rw [pUp_succ]; exact hN.out⟩
          case measure => simp [intOf]; omega
        · have t2 : ¬ (((a + k : Nat) : Int) < (i : Int) - 1) := by omega
          obtain rfl : k = i - 1 - a := by omega
          go_wp2
          refine bodyPost_ret (v := .tuple #[]) (by simp [results, Try.results104, go_sem]) rfl ⟨rfl, ?_⟩
          rw [← hN.out]
          exact hI
end Go.Proofs.Ytdlalmbnkcadfaa
/- slices: the merge in place, case 2. -/
namespace Go.Proofs.Ytdlalmbnkcadfaa
open Go.RowKit

set_option maxRecDepth 100000 in
set_option maxHeartbeats 4000000 in
theorem sym2_any (g cap bx a m b : Nat) (key : Nat → Int) (xs : List Nat) (w : World) (hC : HCmp w g bx key) (hO : OI w g cap xs) (ham : a + 1 < m) (hmb : b = m + 1) (hb : b ≤ xs.length) (hl : xs.length ≤ 1000) :
    Calls Try.prog 104 #[.slice (some ⟨g, 0, none⟩) xs.length cap, .int .i64 a, .int .i64 m, .int .i64 b, .func (.func 78) #[] #[.pointer (some ⟨bx, 0, none⟩)]] w fun e w' =>
      e = .returned (.tuple #[]) ∧ SwInv w w' g cap (pDn xs m (m - bsr (fun h => !ltk key xs m h) a m)) := by
  have HC := Lib.hid hC
  have t0 : ((m : Int) - (a : Int) == 1) = false := by rw [beq_eq_false_iff_ne]; omega
  have t00 : ((b : Int) - (m : Int) == 1) = true := by rw [beq_iff_eq]; omega
  have Hmb := Lib.hid hmb
  have hmb2 : m < b := by omega
  clear hC hmb
  go_enter Try.func104, Try.ntmps104
  go_wp2
  go_loopw [14, 15] (fun vi vj wr => ∃ i j : Nat, vi = .int .i64 i ∧ vj = .int .i64 j ∧ a ≤ i ∧ i ≤ j ∧ j ≤ m ∧ SwInv w wr g cap xs ∧ Hid (bsr (fun h => !ltk key xs m h) i j = bsr (fun h => !ltk key xs m h) a m)) (fun vi vj _ => (intOf vj).toNat - (intOf vi).toNat)
  case atStart => exact ⟨a, m, rfl, rfl, by omega, by omega, by omega, ⟨grown_refl _ _, hO⟩, rfl⟩
  case round =>
    obtain ⟨i, j, rfl, rfl, hmi, hij, hjb, hI, hP⟩ := hrel
    by_cases hlt : i < j
    · have t1 : ((i : Int) < (j : Int)) := by omega
      obtain ⟨h, hh⟩ : ∃ h, h = (i + j) / 2 := ⟨_, rfl⟩
      have t2 : Hid (((i : Int) + (j : Int)) / 2 = (h : Int)) := by show _ = _; omega
      have h1 : h < xs.length := by omega
      have h2 : m < xs.length := by omega
      have h3 : i ≤ h := by omega
      have h4 : h < j := by omega
      have Hh := Lib.hid hh
      clear hh
      have hS := Lib.hid (fun w' (k : Ext wr w') => (⟨k, (hI.2.ext k).cell h1, (hI.2.ext k).cell h2⟩ : Ext wr w' ∧ w'.cell? ⟨g, h, none⟩ = some (.int .i64 (xs[h] : Int)) ∧ w'.cell? ⟨g, m, none⟩ = some (.int .i64 (xs[m] : Int))))
      go_wp2
      rw [t2.out]
      refine wp_region_rel 12 (by kernel_rfl) (by kernel_rfl) (Ext.refl wr).drew ?_
      repeat (apply relW_fix
              · intro vs w' hw hf
                have hc := hS.out w' hw
                unfold okAt
                go_simp
                first | exact ⟨rfl, Ext.refl _⟩ | exact rfl
              · intro vs; go_simp; rfl)
      (apply relW_fix
       · intro vs w' hw hf
         have hc := hS.out w' hw
         skip
         unfold okAt
         go_simp
         refine ⟨Ext.refl _, ?_⟩
         go_at_call 78
         refine (HC.out w' (hI.1.trans (Ext.grownBy hw _)) xs[m] xs[h]).mono ?_; rintro e w2 ⟨rfl, hb⟩; exact ⟨_, rfl, rfl, hb⟩
       · intro vs; go_simp; rfl)
      repeat (apply relW_fix
              · intro vs w' hw hf
                have hc := hS.out w' hw
                unfold okAt
                go_simp
                first | exact ⟨rfl, Ext.refl _⟩ | exact rfl
              · intro vs; go_simp; rfl)
      refine relW_nil fun vs w' hw hf => ?_
      refine wpList_nil ?_
      have hI2 := Lib.hid (hI.ext hw)
      clear hw hf hS hI
      have cl := cmpI_lt (key xs[m]) (key xs[h])
      have lk : Hid (ltk key xs m h = decide (key xs[m] < key xs[h])) := by show _ = _; unfold ltk; simp [h1, h2]
      by_cases hc : key xs[m] < key xs[h]
      · have t4 : decide (cmpI (key xs[m]) (key xs[h]) < 0) = true := decide_eq_true (cl.2 hc)
        have hN : Hid (bsr (fun h => !ltk key xs m h) i h = bsr (fun h => !ltk key xs m h) a m) := by
          have := hP.out
          rw [bsr_dn _ i j hlt (by rw [← Hh.out]; show (!ltk key xs m h) = false; rw [lk.out, decide_eq_true hc]; rfl), ← Hh.out] at this
          exact this
        clear cl
        rw [t4]
        clear t4
        go_wp2
        go_roundw
        case rel => exact ⟨i, h, rfl, rfl, by omega, by omega, by omega, hI2.out, hN⟩
        case measure => simp [intOf]; omega
      · have t4 : decide (cmpI (key xs[m]) (key xs[h]) < 0) = false := decide_eq_false (fun h => hc (cl.1 h))
        have hN : Hid (bsr (fun h => !ltk key xs m h) (h + 1) j = bsr (fun h => !ltk key xs m h) a m) := by
          have := hP.out
          rw [bsr_up _ i j hlt (by rw [← Hh.out]; show (!ltk key xs m h) = true; rw [lk.out, decide_eq_false hc]; rfl), ← Hh.out] at this
          exact this
        clear cl
        rw [t4]
        clear t4
        go_wp2
        go_roundw
        case rel => exact ⟨h + 1, j, by go_num, rfl, by omega, by omega, hjb, hI2.out, hN⟩
        case measure => simp [intOf]; omega
    · have t1 : ¬ ((i : Int) < (j : Int)) := by omega
      have hi := hP.out
      rw [bsr_end _ i j hlt] at hi
      have hN := Lib.hid hi
      have HI := Lib.hid hI
      clear hi hI
      go_wp2
      go_loopw [17] (fun vk wr => ∃ k : Nat, vk = .int .i64 ((m - k : Nat) : Int) ∧ k ≤ m - i ∧ SwInv w wr g cap (pDn xs m k)) (fun vk _ => (intOf vk).toNat)
      case atStart => exact ⟨0, by go_num, by omega, HI.out⟩
      case round =>
        obtain ⟨k, rfl, hk, hI⟩ := hrel
        by_cases hlt2 : k < m - i
        · obtain ⟨q, hq⟩ : ∃ q, q + 1 = m - k := ⟨m - k - 1, by omega⟩
          have Hq := Lib.hid hq
          have hqi : i ≤ q := by omega
          have hqm : q + 1 ≤ m := by omega
          have t2 : ((i : Int) < ((q + 1 : Nat) : Int)) := by omega
          have hlen := pDn_length xs m k
          have i1 : q + 1 < (pDn xs m k).length := by omega
          have i2 : q < (pDn xs m k).length := by omega
          have x1 := hI.2.cell i1
          have x2 := hI.2.cell i2
          have f1 := hI.2.frozen (q + 1)
          have f2 := hI.2.frozen q
          rw [← hq]
          clear hq
          go_wp2
          go_region
          have hN := Lib.hid (hI.swap i1 i2)
          clear hI x1 x2 f1 f2
          go_wp2
          go_roundw
          case rel =>
            have hq := Hq.out
            have e : m - (k + 1) = q := by omega
            refine ⟨k + 1, ?_, by omega, ?_⟩
            · rw [e]
            · rw [pDn_succ, ← hq, Nat.add_sub_cancel]; exact hN.out
          case measure => simp [intOf]
        · obtain rfl : k = m - i := by omega
          have t2 : ¬ ((i : Int) < ((m - (m - i) : Nat) : Int)) := by omega
          go_wp2
          refine bodyPost_ret (v := .tuple #[]) (by simp [results, Try.results104, go_sem]) rfl ⟨rfl, ?_⟩
          rw [← hN.out]
          exact hI
end Go.Proofs.Ytdlalmbnkcadfaa
