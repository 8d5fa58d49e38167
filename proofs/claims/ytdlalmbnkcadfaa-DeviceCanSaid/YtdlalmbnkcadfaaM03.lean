/- plain: whether writes can get to a block so that it has the bytes: two ways to ask, one answer. -/
import Derived.Test.YtdlalmbnkcadfaaM01
import Derived.Test.YtdlalmbnkcadfaaRows
import Derived.Lib.Hide
import Derived.Deep.RegionHeld3
import Derived.Deep.DrawnRows
import Derived.Test.YtdlalmbnkcadfaaM02
import Derived.RangeFuncWrites
import Derived.RangeFuncCalls
import Derived.RangeFuncLeaves
import Derived.RangeFuncBound
import Derived.Shelf.Abstract
import Derived.OwnWalkIn
import Derived.TacticsInMore
import Derived.LoopNIn
import Derived.LoopIn
import Derived.Outline
import Derived.Deep.DeepCutAuto
namespace Go.Proofs.Ytdlalmbnkcadfaa

/-- How long two lists are alike. -/
def cpl : BL → BL → Nat
  | a :: r, b :: s => if a = b then cpl r s + 1 else 0
  | _, _ => 0
/-- Up to where a write explains the bytes. -/
def pEnd (w now : BL) (k : Nat) : Nat := k + cpl (w.drop k) (now.drop k)
theorem pEnd_ge (w now : BL) (k : Nat) : k ≤ pEnd w now k := Nat.le_add_right _ _
theorem cpl_le : ∀ (a b : BL), cpl a b ≤ a.length
  | [], _ => by simp [cpl]
  | _ :: _, [] => by simp [cpl]
  | x :: r, y :: s => by
    unfold cpl
    split
    · have := cpl_le r s; simp; omega
    · simp
theorem pEnd_le {w now : BL} {k : Nat} (h : k ≤ w.length) : pEnd w now k ≤ w.length := by
  unfold pEnd
  have := cpl_le (w.drop k) (now.drop k)
  simp at this; omega
theorem pEnd_step {w now : BL} {k : Nat} (hk : k < w.length) (hn : k < now.length) (h : w[k] = now[k]) : pEnd w now k = pEnd w now (k + 1) := by
  unfold pEnd
  rw [List.drop_eq_getElem_cons hk, List.drop_eq_getElem_cons hn, cpl, if_pos h]
  omega
theorem pEnd_stop {w now : BL} {k : Nat} (hk : k < w.length) (hn : k < now.length) (h : w[k] ≠ now[k]) : pEnd w now k = k := by
  unfold pEnd
  rw [List.drop_eq_getElem_cons hk, List.drop_eq_getElem_cons hn, cpl, if_neg h]
  rfl
theorem pEnd_end {w now : BL} {k : Nat} (hk : w.length ≤ k) : pEnd w now k = k := by
  unfold pEnd
  rw [List.drop_eq_nil_of_le hk]
  simp [cpl]
/-- Inside what a write explains it explains up to the same end. -/
theorem pEnd_in {w now : BL} (hl : w.length = now.length) : ∀ (d k : Nat), k + d ≤ pEnd w now k → pEnd w now (k + d) = pEnd w now k
  | 0, k, _ => rfl
  | d + 1, k, h => by
    have hk : k < w.length := by
      rcases Nat.lt_or_ge k w.length with h' | h'
      · exact h'
      · rw [pEnd_end h'] at h; omega
    by_cases he : w[k] = now[k]'(by omega)
    · have e := pEnd_step hk (by omega) he
      rw [e] at h ⊢
      rw [show k + (d + 1) = k + 1 + d by omega]
      exact pEnd_in hl d (k + 1) (by omega)
    · rw [pEnd_stop hk (by omega) he] at h; omega

/-- The reference's way. -/
def rReach (old now : BL) : Nat → Nat → List BL → Bool
  | 0, k, _ => old.drop k == now.drop k
  | f + 1, k, left => old.drop k == now.drop k || (List.range left.length).any fun i => decide (k < pEnd (left[i]?.getD []) now k) && rReach old now f (pEnd (left[i]?.getD []) now k) (left.eraseIdx i)
/-- The program's way. -/
def pFrom (old now : BL) (ws : List BL) : Nat → Nat → List Bool → Bool
  | 0, k, _ => old.drop k == now.drop k
  | f + 1, k, used => old.drop k == now.drop k || (List.range ws.length).any fun i => !(used[i]?.getD false) && (List.range (pEnd (ws[i]?.getD []) now k - k)).any fun j => pFrom old now ws f (k + j + 1) (used.set i true)

/-- What both ask. -/
inductive Can (old now : BL) : Nat → List BL → Prop
  | done {k : Nat} {left : List BL} (h : old.drop k = now.drop k) : Can old now k left
  | step {k e : Nat} {left rest : List BL} {x : BL} (hp : left.Perm (x :: rest)) (h1 : k < e) (h2 : e ≤ pEnd x now k) (h : Can old now e rest) : Can old now k left

theorem drop_more {old now : BL} {k j : Nat} (h : old.drop k = now.drop k) (hj : k ≤ j) : old.drop j = now.drop j := by
  have e : ∀ l : BL, l.drop j = (l.drop k).drop (j - k) := fun l => by rw [List.drop_drop]; congr 1; omega
  rw [e old, e now, h]
theorem Can.mono {old now : BL} {n : Nat} (hn : now.length = n) {k : Nat} {left : List BL} (h : Can old now k left) : (∀ x ∈ left, x.length = n) → ∀ (j : Nat) (left' extra : List BL), k ≤ j → left'.Perm (left ++ extra) → Can old now j left' := by
  induction h with
  | done h => exact fun _ j left' extra hj _ => .done (drop_more h hj)
  | @step k e left rest x hp h1 h2 hc ih =>
    intro hl j left' extra hj hp'
    have hlr : ∀ y ∈ rest, y.length = n := fun y hy => hl y (hp.mem_iff.2 (List.mem_cons_of_mem _ hy))
    have hx : x.length = n := hl x (hp.mem_iff.2 (List.mem_cons_self ..))
    have hq : left'.Perm (x :: (rest ++ extra)) := hp'.trans (List.Perm.append_right extra hp)
    rcases Nat.lt_or_ge j e with hje | hje
    · refine .step hq hje ?_ (ih hlr e (rest ++ extra) extra (Nat.le_refl _) (List.Perm.refl _))
      have := pEnd_in (w := x) (now := now) (by omega) (j - k) k (by omega)
      rw [show k + (j - k) = j by omega] at this
      omega
    · refine ih hlr j left' (x :: extra) hje (hq.trans ?_)
      exact (List.perm_middle (a := x) (l₁ := rest) (l₂ := extra)).symm
theorem erase_perm {α : Type} : ∀ (l : List α) (i : Nat) (h : i < l.length), l.Perm (l[i] :: l.eraseIdx i)
  | [], _, h => by simp at h
  | a :: r, 0, _ => by simp
  | a :: r, i + 1, h => by
    have := erase_perm r i (by simpa using h)
    simp only [List.getElem_cons_succ, List.eraseIdx_cons_succ]
    exact (List.Perm.cons a this).trans (List.Perm.swap ..)
theorem rReach_iff {old now : BL} {n : Nat} (hn : now.length = n) : ∀ (f k : Nat) (left : List BL), (∀ x ∈ left, x.length = n) → left.length ≤ f → (rReach old now f k left = true ↔ Can old now k left)
  | 0, k, left, _, h0 => by
    obtain rfl : left = [] := List.eq_nil_of_length_eq_zero (by omega)
    unfold rReach
    rw [beq_iff_eq]
    refine ⟨.done, fun h => ?_⟩
    cases h with
    | done h => exact h
    | step hp => exact absurd hp.length_eq (by simp)
  | f + 1, k, left, hl, hf => by
    unfold rReach
    simp only [Bool.or_eq_true, beq_iff_eq, List.any_eq_true, List.mem_range, Bool.and_eq_true, decide_eq_true_eq]
    constructor
    · rintro (h | ⟨i, hi, h1, h2⟩)
      · exact .done h
      · rw [List.getElem?_eq_getElem hi, Option.getD_some] at h1 h2
        have hp := erase_perm left i hi
        have hl' : ∀ x ∈ left.eraseIdx i, x.length = n := fun x hx => hl x (List.mem_of_mem_eraseIdx hx)
        exact .step hp h1 (Nat.le_refl _) ((rReach_iff hn f _ _ hl' (by rw [List.length_eraseIdx_of_lt hi]; omega)).1 h2)
    · intro h
      cases h with
      | done h => exact .inl h
      | @step _ e _ rest x hp h1 h2 hc =>
        refine .inr ?_
        have hx : x ∈ left := hp.mem_iff.2 (List.mem_cons_self ..)
        obtain ⟨i, hi, rfl⟩ := List.getElem_of_mem hx
        refine ⟨i, hi, ?_⟩
        rw [List.getElem?_eq_getElem hi, Option.getD_some]
        have hl' : ∀ y ∈ left.eraseIdx i, y.length = n := fun y hy => hl y (List.mem_of_mem_eraseIdx hy)
        have hpr : rest.Perm (left.eraseIdx i) := (List.perm_cons left[i]).1 (hp.symm.trans (erase_perm left i hi))
        refine ⟨by omega, (rReach_iff hn f _ _ hl' (by rw [List.length_eraseIdx_of_lt hi]; omega)).2 ?_⟩
        exact hc.mono hn (fun y hy => hl' y (hpr.mem_iff.1 hy)) _ _ [] h2 (by simpa using hpr.symm)

/-- The writes that are not used. -/
def unused : List BL → List Bool → List BL
  | [], _ => []
  | x :: r, u :: us => if u then unused r us else x :: unused r us
  | x :: r, [] => x :: unused r []
theorem unused_sub : ∀ (ws : List BL) (us : List Bool), ∀ x ∈ unused ws us, x ∈ ws
  | [], _, x, h => by simp [unused] at h
  | y :: r, u :: us, x, h => by
    unfold unused at h
    split at h
    · exact List.mem_cons_of_mem _ (unused_sub r us x h)
    · rcases List.mem_cons.1 h with h | h
      · rw [h]; exact List.mem_cons_self ..
      · exact List.mem_cons_of_mem _ (unused_sub r us x h)
  | y :: r, [], x, h => by
    unfold unused at h
    rcases List.mem_cons.1 h with h | h
    · rw [h]; exact List.mem_cons_self ..
    · exact List.mem_cons_of_mem _ (unused_sub r [] x h)
/-- One more is used. -/
theorem unused_set : ∀ (ws : List BL) (us : List Bool) (i : Nat) (h : i < ws.length), i < us.length → us[i]?.getD false = false → (unused ws us).Perm (ws[i] :: unused ws (us.set i true))
  | [], _, _, h, _, _ => by simp at h
  | y :: r, [], _, _, h, _ => by simp at h
  | y :: r, u :: us, 0, _, _, hu => by
    simp at hu
    subst hu
    simp [unused]
  | y :: r, u :: us, i + 1, h, hi, hu => by
    have ih := unused_set r us i (by simpa using h) (by simpa using hi) (by simpa using hu)
    simp only [List.getElem_cons_succ, List.set_cons_succ]
    unfold unused
    split
    · exact ih
    · exact (List.Perm.cons y ih).trans (List.Perm.swap ..)
theorem mem_unused : ∀ (ws : List BL) (us : List Bool) (x : BL), ws.length ≤ us.length → x ∈ unused ws us → ∃ i, ∃ h : i < ws.length, ws[i] = x ∧ us[i]?.getD false = false
  | [], _, x, _, h => by simp [unused] at h
  | y :: r, [], x, hl, _ => by simp at hl
  | y :: r, u :: us, x, hl, h => by
    unfold unused at h
    have go : x ∈ unused r us → ∃ i, ∃ h : i < (y :: r).length, (y :: r)[i] = x ∧ (u :: us)[i]?.getD false = false := fun h => by
      obtain ⟨i, hi, e1, e2⟩ := mem_unused r us x (by simpa using hl) h
      exact ⟨i + 1, by simp; omega, by simpa using e1, by simpa using e2⟩
    split at h
    · exact go h
    · rename_i hu
      rcases List.mem_cons.1 h with h | h
      · exact ⟨0, by simp, by simp [h], by simpa using hu⟩
      · exact go h
theorem pFrom_iff {old now : BL} {n : Nat} (hn : now.length = n) (ws : List BL) (hw : ∀ x ∈ ws, x.length = n) : ∀ (f k : Nat) (us : List Bool), ws.length ≤ us.length → (unused ws us).length ≤ f → (pFrom old now ws f k us = true ↔ Can old now k (unused ws us))
  | 0, k, us, _, h0 => by
    rw [List.eq_nil_of_length_eq_zero (Nat.le_zero.1 h0)]
    unfold pFrom
    rw [beq_iff_eq]
    refine ⟨.done, fun h => ?_⟩
    cases h with
    | done h => exact h
    | step hp => exact absurd hp.length_eq (by simp)
  | f + 1, k, us, hl, hf => by
    have hu : ∀ x ∈ unused ws us, x.length = n := fun x hx => hw x (unused_sub ws us x hx)
    unfold pFrom
    simp only [Bool.or_eq_true, beq_iff_eq, List.any_eq_true, List.mem_range, Bool.and_eq_true, Bool.not_eq_true']
    have key : ∀ (i : Nat) (hi : i < ws.length), us[i]?.getD false = false → (unused ws us).Perm (ws[i] :: unused ws (us.set i true)) ∧ (unused ws (us.set i true)).length ≤ f := fun i hi h => by
      have hp := unused_set ws us i hi (by omega) h
      have := hp.length_eq
      simp at this
      exact ⟨hp, by omega⟩
    constructor
    · rintro (h | ⟨i, hi, h1, j, hj, h2⟩)
      · exact .done h
      · rw [List.getElem?_eq_getElem hi, Option.getD_some] at hj
        obtain ⟨hp, hlen⟩ := key i hi h1
        exact .step (e := k + j + 1) hp (by omega) (by omega) ((pFrom_iff hn ws hw f _ _ (by simpa using hl) hlen).1 h2)
    · intro h
      cases h with
      | done h => exact .inl h
      | @step _ e _ rest x hp h1 h2 hc =>
        refine .inr ?_
        obtain ⟨i, hi, rfl, hui⟩ := mem_unused ws us x hl (hp.mem_iff.2 (List.mem_cons_self ..))
        obtain ⟨hp', hlen⟩ := key i hi hui
        have hpr : rest.Perm (unused ws (us.set i true)) := (List.perm_cons ws[i]).1 (hp.symm.trans hp')
        refine ⟨i, hi, hui, e - k - 1, ?_, ?_⟩
        · rw [List.getElem?_eq_getElem hi, Option.getD_some]; omega
        · rw [show k + (e - k - 1) + 1 = e by omega]
          refine (pFrom_iff hn ws hw f _ _ (by simpa using hl) hlen).2 (hc.mono hn (fun y hy => hw y (unused_sub ws _ y (hpr.mem_iff.1 hy))) _ _ [] (Nat.le_refl _) (by simpa using hpr.symm))
theorem unused_none (ws : List BL) : ∀ n, unused ws (List.replicate n false) = ws := by
  induction ws with
  | nil => intro n; simp [unused]
  | cons x r ih => intro n; cases n with
    | zero => simpa [unused] using ih 0
    | succ n => simpa [unused, List.replicate_succ] using ih n
/-- The two ways agree. -/
theorem from_reach {old now : BL} {n : Nat} (hn : now.length = n) (ws : List BL) (hw : ∀ x ∈ ws, x.length = n) (m f : Nat) (hm : ws.length ≤ m) (hf : ws.length ≤ f) :
    pFrom old now ws f 0 (List.replicate m false) = rReach old now ws.length 0 ws := by
  have h1 := pFrom_iff (old := old) hn ws hw f 0 (List.replicate m false) (by simpa using hm) (by rw [unused_none]; exact hf)
  rw [unused_none] at h1
  have h2 := rReach_iff (old := old) hn ws.length 0 ws hw (Nat.le_refl _)
  rw [Bool.eq_iff_iff]
  exact h1.trans h2.symm
end Go.Proofs.Ytdlalmbnkcadfaa
/- device: within, and what it calls. -/
namespace Go.Proofs.Ytdlalmbnkcadfaa
open Go.RowKit

def outB (lo hi x : Int) : Bool := decide (x < lo) || decide (hi < x)
/-- Where the first element is for which p holds; -1. -/
def idxOf {α : Type} (p : α → Bool) : List α → Nat → Int
  | [], _ => -1
  | x :: r, i => if p x then i else idxOf p r (i + 1)
theorem idxOf_ge {α : Type} (p : α → Bool) : ∀ (l : List α) (i : Nat), (decide (0 ≤ idxOf p l i)) = l.any p
  | [], _ => rfl
  | x :: r, i => by
    unfold idxOf
    by_cases h : p x = true
    · simp [h]
    · simp [h, idxOf_ge p r (i + 1)]
theorem idxOf_step {α : Type} (p : α → Bool) (xs : List α) (k : Nat) (h : k < xs.length) : idxOf p (xs.drop k) k = if p xs[k] then (k : Int) else idxOf p (xs.drop (k + 1)) (k + 1) := by
  rw [List.drop_eq_getElem_cons h, idxOf]
theorem idxOf_end {α : Type} (p : α → Bool) (xs : List α) (k : Nat) (h : ¬ k < xs.length) : idxOf p (xs.drop k) k = -1 := by
  rw [List.drop_eq_nil_of_le (by omega), idxOf]

set_option maxHeartbeats 400000 in
theorem within1 (b1 b2 : Nat) (x lo hi : Int) (w : World) (h1 : w.cell? ⟨b1, 0, none⟩ = some (.int .i64 lo)) (h2 : w.cell? ⟨b2, 0, none⟩ = some (.int .i64 hi)) :
    Calls Try.prog 75 #[.int .i64 x, .pointer (some ⟨b1, 0, none⟩), .pointer (some ⟨b2, 0, none⟩)] w fun e w' =>
      e = .returned (.bool (outB lo hi x)) ∧ w = w' := by
  go_enter Try.func75, Try.ntmps75
  unfold outB
  go_wp2
  all_goals (go_ret; exact ⟨rfl, rfl⟩)

set_option maxHeartbeats 400000 in
theorem indexFunc1 (A : Option Addr) (c b1 b2 : Nat) (xs : List Int) (lo hi : Int) (w : World) (hl : xs.length ≤ 1000000000) (hA : Is w A xs)
    (h1 : w.cell? ⟨b1, 0, none⟩ = some (.int .i64 lo)) (h2 : w.cell? ⟨b2, 0, none⟩ = some (.int .i64 hi)) :
    Calls Try.prog 92 #[.slice A xs.length c, .func (.func 75) #[] #[.pointer (some ⟨b1, 0, none⟩), .pointer (some ⟨b2, 0, none⟩)]] w fun e w' =>
      e = .returned (.int .i64 (idxOf (outB lo hi) xs 0)) ∧ w = w' := by
  go_enter Try.func92, Try.ntmps92
  go_wp2
  go_loop [8] (fun i => ∃ k : Nat, k ≤ xs.length ∧ i = .int .i64 k ∧ Hid (idxOf (outB lo hi) (xs.drop k) k = idxOf (outB lo hi) xs 0)) (fun i => xs.length - (intOf i).toNat)
  case atStart => exact ⟨0, Nat.zero_le _, rfl, rfl⟩
  case round =>
    obtain ⟨k, hk, rfl, hidx⟩ := hrel
    by_cases hlt : k < xs.length
    · obtain ⟨b, o, rfl, hc⟩ := hA.at hlt
      have Hs := Lib.hid (idxOf_step (outB lo hi) xs k hlt)
      go_wp2_with (go_at_call 75; refine (within1 b1 b2 _ lo hi _ h1 h2).mono ?_; rintro e w' ⟨rfl, rfl⟩)
      · go_ret
        rename_i hp
        have e1 := hidx.out
        rw [Hs.out, if_pos hp] at e1
        exact ⟨ret_int e1, rfl⟩
      · go_round
        case rel =>
          rename_i hp
          have e1 := hidx.out
          rw [Hs.out, if_neg (by simp [hp])] at e1
          exact ⟨k + 1, by omega, by go_num, e1⟩
        case measure => simp [intOf]; omega
    · have Hs := Lib.hid (idxOf_end (outB lo hi) xs k hlt)
      go_wp2
      go_ret
      have e1 := hidx.out
      rw [Hs.out] at e1
      exact ⟨ret_int e1, rfl⟩

set_option maxHeartbeats 400000 in
theorem containsFunc1 (A : Option Addr) (c b1 b2 : Nat) (xs : List Int) (lo hi : Int) (w : World) (hl : xs.length ≤ 1000000000) (hA : Is w A xs)
    (h1 : w.cell? ⟨b1, 0, none⟩ = some (.int .i64 lo)) (h2 : w.cell? ⟨b2, 0, none⟩ = some (.int .i64 hi)) :
    Calls Try.prog 74 #[.slice A xs.length c, .func (.func 75) #[] #[.pointer (some ⟨b1, 0, none⟩), .pointer (some ⟨b2, 0, none⟩)]] w fun e w' =>
      e = .returned (.bool (xs.any (outB lo hi))) ∧ w = w' := by
  have Hg := Lib.hid (idxOf_ge (outB lo hi) xs 0)
  go_enter Try.func74, Try.ntmps74
  go_wp2_with (go_at_call 92; refine (indexFunc1 A c b1 b2 xs lo hi _ hl hA h1 h2).mono ?_; rintro e w' ⟨rfl, rfl⟩)
  go_ret
  exact ⟨ret_bool Hg.out, rfl⟩

set_option maxHeartbeats 400000 in
/-- within: all numbers lie between two others. -/
theorem within_any (A : Option Addr) (c : Nat) (xs : List Int) (lo hi : Int) (w : World) (hl : xs.length ≤ 1000000000) (hA : Is w A xs) :
    Calls Try.prog 52 #[.int .i64 lo, .int .i64 hi, .slice A xs.length c] w fun e w' =>
      e = .returned (.bool (!xs.any (outB lo hi))) ∧ Ext w w' := by
  have hA2 := (hA.ext ((Ext.refl w).alloc (.cells #[.int .i64 lo] 3))).ext ((Ext.refl _).alloc (.cells #[.int .i64 hi] 3))
  go_enter Try.func52, Try.ntmps52
  go_wp2_with fail
  refine (containsFunc1 A c _ _ xs lo hi _ hl hA2 (by go_simp) (by go_simp)).mono ?_
  rintro e w' ⟨rfl, rfl⟩
  go_wp2
  go_ret
  exact ⟨rfl, ((Ext.refl w).alloc _).alloc _⟩
theorem within_b (r : Bool) (A : Option Addr) (c : Nat) (xs : List Int) (lo hi : Int) (w : World) (hl : xs.length ≤ 1000000000) (hA : Is w A xs) (hr : (!xs.any (outB lo hi)) = r) :
    Calls Try.prog 52 #[.int .i64 lo, .int .i64 hi, .slice A xs.length c] w fun e w' => e = .returned (.bool r) ∧ Ext w w' := hr ▸ within_any A c xs lo hi w hl hA
end Go.Proofs.Ytdlalmbnkcadfaa
/- device: explains: an iterator that yields up to where a write explains the bytes. -/
namespace Go.Proofs.Ytdlalmbnkcadfaa
open Go.RowKit

/-- Up to where: one of the yielded numbers. -/
abbrev UpTo (k e : Nat) := { x : Nat // k < x ∧ x ≤ e }
def upTo (k e : Nat) (j : Nat) : List (UpTo k e) := (List.range j).filterMap fun i => if h : k + i + 1 ≤ e then some ⟨k + i + 1, by omega, h⟩ else none
theorem upTo_succ (k e j : Nat) (h : k + j + 1 ≤ e) : upTo k e (j + 1) = upTo k e j ++ [⟨k + j + 1, by omega, h⟩] := by
  unfold upTo
  rw [List.range_succ, List.filterMap_append]
  simp [h]
theorem upTo_length (k e : Nat) : ∀ j, k + j ≤ e → (upTo k e j).length = j
  | 0, _ => rfl
  | j + 1, h => by rw [upTo_succ k e j (by omega), List.length_append, upTo_length k e j (by omega)]; rfl
theorem mem_upTo (k e x : Nat) (h1 : k < x) (h2 : x ≤ e) (j : Nat) (hj : x ≤ k + j) : (⟨x, h1, h2⟩ : UpTo k e) ∈ upTo k e j := by
  unfold upTo
  refine List.mem_filterMap.2 ⟨x - k - 1, List.mem_range.2 (by omega), ?_⟩
  have : k + (x - k - 1) + 1 = x := by omega
  simp only [this]
  rw [dif_pos h2]

theorem explains_any (v0 v1 : Value) (A : Option Addr) (n c : Nat) (k : Int) (w : World) :
    Calls Try.prog 90 #[.agg #[v0, v1], .slice A n c, .int .i64 k] w fun e w' =>
      e = .returned (.func (.func 100) #[] #[.pointer (some ⟨w.heap.size + 1 + 1, 0, none⟩), .pointer (some ⟨w.heap.size + 1, 0, none⟩), .pointer (some ⟨w.heap.size, 0, none⟩)]) ∧
      w' = ((w.alloc (.cells #[v0, v1] 95)).alloc (.cells #[.slice A n c] 22)).alloc (.cells #[.int .i64 k] 3) := by
  go_enter Try.func90, Try.ntmps90
  go_wp2
  go_ret
  exact ⟨rfl, rfl⟩

set_option maxRecDepth 100000 in
set_option maxHeartbeats 1000000 in
/-- What the iterator does: it yields up to where w explains the bytes from k on. -/
theorem explains_in (l bk bw bt k e : Nat) (A B : Option Addr) (c d : Nat) (ws want : BL) (hws : ws.length = 32) (hwant : want.length = 32) (hk : k ≤ 32) (he : pEnd ws want k = e) (Kp : World → World → Prop)
    (J Jx : List (UpTo k (e)) → World → Prop)
    (hKp : ∀ (X Y : World), Kp X Y → (X.cell? ⟨bw, 0, none⟩ = some (.slice A 32 c) ∧ X.cell? ⟨bt, 1, none⟩ = some (.slice B 32 d) ∧ By X A ws ∧ By X B want) → Y.cell? ⟨bw, 0, none⟩ = some (.slice A 32 c) ∧ Y.cell? ⟨bt, 1, none⟩ = some (.slice B 32 d) ∧ By Y A ws ∧ By Y B want)
    (hJd : ∀ {pre : List (UpTo k (e))} {X Y : World}, J pre X → Ext X Y → J pre Y)
    (hY : ∀ pre (x : UpTo k (e)) W, J pre W → pre.length < e - k → YieldAt Fence.wide 9 Try.prog l #[.int .i64 x.1] W fun r W' =>
      (r = .returned (.bool true) ∧ J (pre ++ [x]) W' ∧ Kp W W') ∨ (r = .returned (.bool false) ∧ Jx (pre ++ [x]) W'))
    (W : World) (h1 : W.cell? ⟨bk, 0, none⟩ = some (.int .i64 k)) (h2 : W.cell? ⟨bw, 0, none⟩ = some (.slice A 32 c)) (h3 : W.cell? ⟨bt, 1, none⟩ = some (.slice B 32 d)) (hA : By W A ws) (hB : By W B want) (h0 : J [] W) :
    CallsIn Fence.wide 10 Try.prog 100 #[.func (.yield l) #[] #[], .pointer (some ⟨bk, 0, none⟩), .pointer (some ⟨bw, 0, none⟩), .pointer (some ⟨bt, 0, none⟩)] W fun r W' => (∃ v, r = .returned v) ∧
      ((∃ ys, ys = upTo k (e) (e - k) ∧ J ys W') ∨ (∃ pre, True ∧ Jx pre W')) := by
  have hke : k ≤ e := he ▸ pEnd_ge ws want k
  have he32 : e ≤ 32 := by rw [← he, ← hws]; exact pEnd_le (by omega)
  have He := Lib.hid he
  clear he
  refine callsIn_of_wp Try.func100 rfl trivial ?_ rfl
  simp only [Try.ntmps100, List.size_toArray, List.length_cons, List.length_nil, Nat.reduceAdd, Nat.reduceSub, Array.replicate_succ, Array.replicate_zero, List.push_toArray, List.append_toArray, List.nil_append, List.cons_append]
  gi_wp2
  gi_loopw [5] (fun vi wr => ∃ m : Nat, k ≤ m ∧ m ≤ e ∧ Hid (pEnd ws want m = e) ∧ vi = .int .i64 (m : Int) ∧ (wr.cell? ⟨bw, 0, none⟩ = some (.slice A 32 c) ∧ wr.cell? ⟨bt, 1, none⟩ = some (.slice B 32 d) ∧ By wr A ws ∧ By wr B want) ∧ J (upTo k (e) (m - k)) wr) (fun vi _ => 33 - (intOf vi).toNat)
  case atStart => exact ⟨k, Nat.le_refl _, hke, He.out, rfl, ⟨h2, h3, hA, hB⟩, by rw [Nat.sub_self]; exact h0⟩
  case round =>
    clear h1 h2 h3 hA hB h0
    obtain ⟨m, hkm, hme, hmh, rfl, ⟨hc2, hc3, hcA, hcB⟩, hJ⟩ := hrel
    have HC := Lib.hid (⟨hc2, hc3, hcA, hcB⟩ : wr.cell? ⟨bw, 0, none⟩ = some (.slice A 32 c) ∧ wr.cell? ⟨bt, 1, none⟩ = some (.slice B 32 d) ∧ By wr A ws ∧ By wr B want)
    have hend : m = e → (∃ ys, ys = upTo k (e) (e - k) ∧ J ys wr) := fun h => ⟨_, rfl, by subst h; exact hJ⟩
    by_cases hlt : m < 32
    · have hm1 : m < ws.length := by omega
      have hm2 : m < want.length := by omega
      obtain ⟨ab, ao, rfl, ha⟩ := hcA.at hm1
      obtain ⟨eb, eo, rfl, hb⟩ := hcB.at hm2
      have hS := Lib.hid (fun w' (h : Ext wr w') => (⟨h, cellExt h hc2, cellExt h hc3, cellExt h ha, cellExt h hb⟩ : Ext wr w' ∧ w'.cell? ⟨bw, 0, none⟩ = some (.slice (some ⟨ab, ao, none⟩) 32 c) ∧ w'.cell? ⟨bt, 1, none⟩ = some (.slice (some ⟨eb, eo, none⟩) 32 d) ∧ w'.cell? ⟨ab, ao + m, none⟩ = some (.int .u8 (ws[m].toNat : Int)) ∧ w'.cell? ⟨eb, eo + m, none⟩ = some (.int .u8 (want[m].toNat : Int))))
      have g1 : ((m : Int) < 32) := by omega
      by_cases heq : ws[m] = want[m]
      · have t1 : (((ws[m].toNat : Int)) == (want[m].toNat : Int)) = true := by rw [heq]; simp
        have hm3 : m + 1 ≤ e := by
          have h1 := pEnd_step hm1 hm2 heq
          have h2 := pEnd_ge ws want (m + 1)
          have := hmh.out; omega
        have hmh1 : Hid (pEnd ws want (m + 1) = e) := by show _ = _; rw [← pEnd_step hm1 hm2 heq]; exact hmh.out
        have hsucc := Lib.hid (upTo_succ k e (m - k) (by omega))
        clear hmh heq hc2 hc3 ha hb hend
        gi_wp2_with fail
        refine (wpIn_wide (n := 10)).2 ?_
        refine wp_region_rel 14 (by kernel_rfl) (by kernel_rfl) (Ext.refl wr).drew ?_
        repeat (apply relW_fix
                · intro vs w' hw hf
                  have hc := hS.out w' hw
                  unfold okAt
                  go_simp
                  first | exact ⟨rfl, Ext.refl _⟩ | exact rfl
                · intro vs; go_simp; rfl)
        refine relW_nil fun vs w6 hw hf => ?_
        refine wpList_nil ?_
        have hJ6 := hJd hJ hw
        obtain ⟨fn, tmps, assign, body, hy, hR⟩ := hY (upTo k e (m - k)) ⟨m + 1, by omega, hm3⟩ w6 hJ6 (by rw [upTo_length k e _ (by omega)]; omega)
        have hy' : (Instr.yield l #[.int .i64 ((m : Int) + 1)]).run Try.prog w6 = .ok (.round l fn tmps assign body) w6 := hy
        clear hy
        have hC6 := Lib.hid (⟨cellExt hw HC.out.1, cellExt hw HC.out.2.1, HC.out.2.2.1.ext hw, HC.out.2.2.2.ext hw⟩ : w6.cell? ⟨bw, 0, none⟩ = some (.slice (some ⟨ab, ao, none⟩) 32 c) ∧ w6.cell? ⟨bt, 1, none⟩ = some (.slice (some ⟨eb, eo, none⟩) 32 d) ∧ By w6 (some ⟨ab, ao, none⟩) ws ∧ By w6 (some ⟨eb, eo, none⟩) want)
        clear hS hcA hcB hf
        gi_wp2
        refine hR.mono ?_
        rintro r W3 (⟨rfl, hJ3, hk3⟩ | ⟨rfl, hJx3⟩)
        · have hC3 := Lib.hid (hKp _ _ hk3 hC6.out)
          gi_wp2
          go_roundw
          case rel => exact ⟨m + 1, by omega, hm3, hmh1, by go_num, hC3.out, by rw [show m + 1 - k = m - k + 1 by omega, hsucc.out]; simpa [show k + (m - k) = m by omega] using hJ3⟩
          case measure => simp [intOf]; omega
        · gi_wp2
          refine bodyPost_ret (results_none rfl _ _ _) rfl ?_
          exact ⟨⟨_, rfl⟩, .inr ⟨_, trivial, hJx3⟩⟩
      · have t1 : (((ws[m].toNat : Int)) == (want[m].toNat : Int)) = false := by
          rw [beq_eq_false_iff_ne]; intro h
          exact heq (UInt8.toNat_inj.1 (by omega))
        have hm : m = e := by rw [← hmh.out, pEnd_stop hm1 hm2 heq]
        have HE := Lib.hid (hend hm); clear hm
        clear hmh heq hc2 hc3 ha hb hend
        gi_wp2_with fail
        refine (wpIn_wide (n := 10)).2 ?_
        refine wp_region_rel 14 (by kernel_rfl) (by kernel_rfl) (Ext.refl wr).drew ?_
        repeat (apply relW_fix
                · intro vs w' hw hf
                  have hc := hS.out w' hw
                  unfold okAt
                  go_simp
                  first | exact ⟨rfl, Ext.refl _⟩ | exact rfl
                · intro vs; go_simp; rfl)
        refine relW_nil fun vs w6 hw hf => ?_
        refine wpList_nil ?_
        gi_wp2
        go_end0
        obtain ⟨ys, e1, e2⟩ := HE.out
        exact ⟨⟨_, rfl⟩, .inl ⟨ys, e1, hJd e2 hw⟩⟩
    · have hm : m = e := by omega
      have HE := Lib.hid (hend hm); clear hm
      have g1 : decide ((m : Int) < 32) = false := by rw [decide_eq_false_iff_not]; omega
      clear hmh hc2 hc3 hend
      have hS := Lib.hid (fun w' (h : Ext wr w') => h)
      gi_wp2_with fail
      refine (wpIn_wide (n := 10)).2 ?_
      refine wp_region_rel 14 (by kernel_rfl) (by kernel_rfl) (Ext.refl wr).drew ?_
      repeat (apply relW_fix
              · intro vs w' hw hf
                have hc := hS.out w' hw
                unfold okAt
                go_simp
                first | exact ⟨rfl, Ext.refl _⟩ | exact rfl
              · intro vs; go_simp; rfl)
      refine relW_nil fun vs w6 hw hf => ?_
      refine wpList_nil ?_
      gi_wp2
      go_end0
      obtain ⟨ys, e1, e2⟩ := HE.out
      exact ⟨⟨_, rfl⟩, .inl ⟨ys, e1, hJd e2 hw⟩⟩

/-- **explains(..) hands back an iterator that yields up to where the write explains the bytes.** -/
theorem explains_stops (bk bw bt k e : Nat) (A B : Option Addr) (c d : Nat) (ws want : BL) (hws : ws.length = 32) (hwant : want.length = 32) (hk : k ≤ 32) (he : pEnd ws want k = e) (Kp : World → World → Prop) (w : World)
    (hKp : ∀ (X Y : World), Kp X Y → (X.cell? ⟨bw, 0, none⟩ = some (.slice A 32 c) ∧ X.cell? ⟨bt, 1, none⟩ = some (.slice B 32 d) ∧ By X A ws ∧ By X B want) → Y.cell? ⟨bw, 0, none⟩ = some (.slice A 32 c) ∧ Y.cell? ⟨bt, 1, none⟩ = some (.slice B 32 d) ∧ By Y A ws ∧ By Y B want)
    (h1 : w.cell? ⟨bk, 0, none⟩ = some (.int .i64 k)) (h2 : w.cell? ⟨bw, 0, none⟩ = some (.slice A 32 c)) (h3 : w.cell? ⟨bt, 1, none⟩ = some (.slice B 32 d)) (hA : By w A ws) (hB : By w B want) :
    SeqStopsK Fence.wide 10 Try.prog 100 #[.pointer (some ⟨bk, 0, none⟩), .pointer (some ⟨bw, 0, none⟩), .pointer (some ⟨bt, 0, none⟩)] (fun x : UpTo k e => #[Value.int .i64 (x.1 : Int)]) Kp
      (fun ys => ys = upTo k e (e - k)) (fun _ => True) (e - k) w := fun l J Jx W hW hJ _ hY h0 =>
  explains_in l bk bw bt k e A B c d ws want hws hwant hk he Kp J Jx hKp (fun {pre X Y} h hE => hJ pre X Y none h (hE.grownBy none) (fun r e => by cases e)) hY W (cellExt hW h1) (cellExt hW h2) (cellExt hW h3) (hA.ext hW) (hB.ext hW) h0
end Go.Proofs.Ytdlalmbnkcadfaa
