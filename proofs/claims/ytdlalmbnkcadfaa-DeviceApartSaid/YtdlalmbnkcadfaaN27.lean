/- plain: a run in two parts; cuts of operations. -/
import Derived.Test.YtdlalmbnkcadfaaN26
namespace Go.Proofs.Ytdlalmbnkcadfaa
open Go.RowKit

theorem goR_add (F : Ft) (ys : List Op) : ∀ (xs : List Op) (i : Nat) (D : Dk), goR F (-1) (xs ++ ys) i D = if (goR F (-1) xs i D).2.2 = 0 then goR F (-1) ys (goR F (-1) xs i D).2.1 (goR F (-1) xs i D).1 else goR F (-1) xs i D
  | [], i, D => by rw [List.nil_append, goR_nil, if_pos rfl]
  | x :: r, i, D => by
    have hf : ¬ (i : Int) = -1 := by omega
    rw [List.cons_append]
    by_cases h : pDoE D x.1 x.2 = 0
    · rw [goR_go hf h, goR_go hf h]; exact goR_add F ys r (i + 1) _
    · rw [goR_bad hf h, goR_bad hf h, if_neg h]
theorem goR_many (F : Ft) : ∀ (xs : List Op) (i : Nat) (D : Dk), (goR F (-1) xs i D).2.2 = 0 → (goR F (-1) xs i D).2.1 = i + xs.length
  | [], i, D, _ => rfl
  | x :: r, i, D, h0 => by
    have hf : ¬ (i : Int) = -1 := by omega
    by_cases h : pDoE D x.1 x.2 = 0
    · rw [goR_go hf h] at h0 ⊢
      rw [goR_many F r (i + 1) _ h0, List.length_cons]; omega
    · rw [goR_bad hf h] at h0; exact absurd h0 h
theorem goR_shift (F : Ft) (k : Nat) : ∀ (xs : List Op) (i : Nat) (D : Dk), goR F (-1) xs (k + i) D = ((goR F (-1) xs i D).1, k + (goR F (-1) xs i D).2.1, (goR F (-1) xs i D).2.2)
  | [], i, D => rfl
  | x :: r, i, D => by
    have hf : ¬ (i : Int) = -1 := by omega
    have hf2 : ¬ ((k + i : Nat) : Int) = -1 := by omega
    by_cases h : pDoE D x.1 x.2 = 0
    · rw [goR_go hf h, goR_go hf2 h, Nat.add_assoc]; exact goR_shift F k r (i + 1) _
    · rw [goR_bad hf h, goR_bad hf2 h]
theorem goR_check (F : Ft) (fuse : Int) (hf : fuse = -1) : ∀ (xs : List Op) (i : Nat) (D : Dk), pCheck D = 0 → pCheck (goR F fuse xs i D).1 = 0
  | [], i, D, h => h
  | x :: r, i, D, h => by
    have hf1 : ¬ (i : Int) = fuse := by omega
    by_cases h0 : pDoE D x.1 x.2 = 0
    · rw [goR_go hf1 h0]; exact goR_check F fuse hf r (i + 1) _ (do_check h _ _)
    · rw [goR_bad hf1 h0]; exact h
/-- Operations run in two parts. -/
theorem run_cut {D : Dk} (hc : pCheck D = 0) (os : List Op) (F : Ft) (n : Nat) (hn : n ≤ os.length) :
    (¬ (pRun D (os.take n) (-1) F).2.2 = 0 → pRun D os (-1) F = pRun D (os.take n) (-1) F) ∧
    ((pRun D (os.take n) (-1) F).2.2 = 0 → (pRun D (os.take n) (-1) F).2.1 = n ∧ pCheck (pRun D (os.take n) (-1) F).1 = 0 ∧
      pRun D os (-1) F = ((pRun (pRun D (os.take n) (-1) F).1 (os.drop n) (-1) F).1, n + (pRun (pRun D (os.take n) (-1) F).1 (os.drop n) (-1) F).2.1, (pRun (pRun D (os.take n) (-1) F).1 (os.drop n) (-1) F).2.2)) := by
  have e : ∀ xs, pRun D xs (-1) F = goR F (-1) xs 0 D := fun xs => if_pos hc
  have ea := goR_add F (os.drop n) (os.take n) 0 D
  rw [List.take_append_drop] at ea
  rw [e, e]
  refine ⟨fun h => by rw [ea, if_neg h], fun h => ?_⟩
  have hm := goR_many F (os.take n) 0 D h
  rw [List.length_take, Nat.min_eq_left hn, Nat.zero_add] at hm
  have hk := goR_check F (-1) rfl (os.take n) 0 D hc
  have e2 : pRun (goR F (-1) (os.take n) 0 D).1 (os.drop n) (-1) F = goR F (-1) (os.drop n) 0 (goR F (-1) (os.take n) 0 D).1 := if_pos hk
  refine ⟨hm, hk, ?_⟩
  rw [e2, ea, if_pos h, hm]
  exact goR_shift F n (os.drop n) 0 _
theorem size_op (w : World) : (sizeOf (Try.prog.elem 62)).run Try.prog w = .ok 3 w := by kernel_rfl
theorem und_op : Try.prog.underlying 62 = some (.slice (Try.prog.elem 62)) := by kernel_rfl
theorem ops_to {w : World} {L : Option Addr} {os : List Op} {lc : Nat} (h : Os w L os) (hl : os.length ≤ lc) (n : Nat) (hn : n ≤ os.length) :
    ∃ A, (∀ w', (Instr.slice 62 (.slice L os.length lc) none (some (.int .i64 (n : Int))) none).run Try.prog w' = .ok (.slice A (os.take n).length lc) w') ∧ Os w A (os.take n) := by
  have hln : (os.take n).length = n := by rw [List.length_take]; omega
  refine ⟨if lc = 0 then L else L.map (·.add (0 * 3)), fun w' => ?_, fun j x hj => ?_⟩
  · rw [run_slice_h (P := Try.prog) _ _ _ _ _ und_op .i64 _ (by omega) (by omega), size_op, hln]
    simp [Result.andThen, sliced]
  · have hj2 := (List.getElem?_eq_some_iff.1 hj).1
    rw [List.getElem?_take, if_pos (by omega)] at hj
    obtain ⟨b, o, B, c, rfl, h1, h2, h3, h4, h5⟩ := h j x hj
    exact ⟨b, o, B, c, by split <;> rfl, h1, h2, h3, h4, h5⟩
theorem ops_from {w : World} {L : Option Addr} {os : List Op} {lc : Nat} (h : Os w L os) (hl : os.length ≤ lc) (n : Nat) (hn : n ≤ os.length) :
    ∃ A, (∀ w', (Instr.slice 62 (.slice L os.length lc) (some (.int .i64 (n : Int))) none none).run Try.prog w' = .ok (.slice A (os.drop n).length (lc - n)) w') ∧ Os w A (os.drop n) := by
  refine ⟨if lc = n then L else L.map (·.add (n * 3)), fun w' => ?_, fun j x hj => ?_⟩
  · rw [run_slice_l (P := Try.prog) _ _ _ _ _ und_op .i64 _ (by omega) (by omega), size_op]
    simp [Result.andThen, sliced]
  · have hj2 := (List.getElem?_eq_some_iff.1 hj).1
    rw [List.length_drop] at hj2
    rw [List.getElem?_drop] at hj
    obtain ⟨b, o, B, c, rfl, h1, h2, h3, h4, h5⟩ := h (n + j) x hj
    rw [if_neg (by omega)]
    have e : o + n * 3 + j * 3 = o + (n + j) * 3 := by omega
    have ea : Option.map (fun x => x.add (n * 3)) (some (⟨b, o, none⟩ : Addr)) = some ⟨b, o + n * 3, none⟩ := by
      simp only [Option.map_some, Option.some.injEq]
      unfold Addr.add; split <;> simp_all
    exact ⟨b, o + n * 3, B, c, ea, by rw [e]; exact h1, by rw [e]; exact h2, by rw [e]; exact h3, h4, h5⟩
end Go.Proofs.Ytdlalmbnkcadfaa
