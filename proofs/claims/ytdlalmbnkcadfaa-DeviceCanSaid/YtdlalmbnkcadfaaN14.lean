/- plain: the stable sort of 0 .. n-1 by a key is the reference's way. -/
import Derived.Test.YtdlalmbnkcadfaaM16
import Derived.Test.YtdlalmbnkcadfaaM17
namespace Go.Proofs.Ytdlalmbnkcadfaa
open Go.RowKit

theorem get_mid (A B : List Nat) (x : Nat) (i : Nat) (hi : i = A.length) : (A ++ x :: B)[i]?.getD 0 = x := by subst hi; simp
theorem swp_blk (A B C : List Nat) (x y i j : Nat) (hi : i = A.length) (hj : j = A.length + 1 + B.length) : swp (A ++ x :: (B ++ y :: C)) i j = A ++ y :: (B ++ x :: C) := by
  have e1 := get_mid A (B ++ y :: C) x i hi
  have e2 := get_mid (A ++ x :: B) C y j (by simp; omega)
  rw [List.append_assoc, List.cons_append] at e2
  unfold swp
  rw [e1, e2]
  subst hi hj
  rw [List.set_append_right _ _ (by omega), Nat.sub_self, List.set_cons_zero, List.set_append_right _ _ (by omega)]
  rw [show A.length + 1 + B.length - A.length = B.length + 1 from by omega, List.set_cons_succ, List.set_append_right _ _ (by omega), Nat.sub_self, List.set_cons_zero]
theorem swp_comm (xs : List Nat) (i j : Nat) (_hi : i < xs.length) (hj : j < xs.length) : swp xs i j = swp xs j i := by
  by_cases h : i = j
  · subst h; rfl
  · unfold swp
    rw [List.set_comm _ _ (by omega)]
theorem snoc_of {xs : List Nat} {n : Nat} (h : xs.length = n + 1) : ∃ ys y, xs = ys ++ [y] ∧ ys.length = n := by
  have hne : xs ≠ [] := by intro e; simp [e] at h
  exact ⟨xs.dropLast, xs.getLast hne, (List.dropLast_concat_getLast hne).symm, by simp [h]⟩
theorem pSwapR_blk : ∀ (n : Nat) (pre X M Y post : List Nat) (a b : Nat), X.length = n → Y.length = n → a = pre.length → b = pre.length + n + M.length →
    pSwapR (pre ++ (X ++ (M ++ (Y ++ post)))) a b n = pre ++ (Y ++ (M ++ (X ++ post)))
  | 0, pre, X, M, Y, post, a, b, hX, hY, ha, hb => by
    obtain rfl := List.eq_nil_of_length_eq_zero hX
    obtain rfl := List.eq_nil_of_length_eq_zero hY
    rfl
  | n + 1, pre, X, M, Y, post, a, b, hX, hY, ha, hb => by
    obtain ⟨X, x, rfl, hX1⟩ := snoc_of hX
    obtain ⟨Y, y, rfl, hY1⟩ := snoc_of hY
    rw [pSwapR_succ]
    have ih := pSwapR_blk n pre X (x :: M) Y (y :: post) a b hX1 hY1 ha (by simp; omega)
    simp only [List.append_assoc, List.cons_append, List.nil_append] at ih ⊢
    rw [ih]
    have := swp_blk (pre ++ Y) (M ++ X) post x y (a + n) (b + n) (by simp; omega) (by simp; omega)
    simpa only [List.append_assoc, List.nil_append] using this
theorem pRot_blk : ∀ (n : Nat) (pre X Y post : List Nat) (m i j : Nat), i + j ≤ n → X.length = i → Y.length = j → m = pre.length + i →
    pRot m i j (pre ++ (X ++ (Y ++ post))) = pre ++ (Y ++ (X ++ post)) := by
  intro n
  induction n with
  | zero =>
    intro pre X Y post m i j hn hX hY hm
    rw [pRot, dif_pos (by omega)]
    obtain rfl := List.eq_nil_of_length_eq_zero (l := X) (by omega)
    obtain rfl := List.eq_nil_of_length_eq_zero (l := Y) (by omega)
    rfl
  | succ n ih =>
    intro pre X Y post m i j hn hX hY hm
    by_cases h0 : i = 0 ∨ j = 0
    · rw [pRot, dif_pos h0]
      rcases h0 with h | h
      · obtain rfl := List.eq_nil_of_length_eq_zero (l := X) (by omega); rfl
      · obtain rfl := List.eq_nil_of_length_eq_zero (l := Y) (by omega); rfl
    · rcases Nat.lt_trichotomy i j with hij | hij | hij
      · rw [pRot_lt m i j _ (by omega) hij]
        obtain ⟨Y1, Y2, rfl, h1, h2⟩ : ∃ Y1 Y2, Y = Y1 ++ Y2 ∧ Y1.length = j - i ∧ Y2.length = i := ⟨Y.take (j - i), Y.drop (j - i), (List.take_append_drop _ _).symm, by simp; omega, by simp; omega⟩
        have e := pSwapR_blk i pre X Y1 Y2 post (m - i) (m + j - i) hX h2 (by omega) (by omega)
        simp only [List.append_assoc] at e ⊢
        rw [e]
        have := ih pre Y2 Y1 (X ++ post) m i (j - i) (by omega) h2 h1 hm
        exact this
      · subst hij
        rw [pRot_eq m i _ (by omega)]
        exact pSwapR_blk i pre X [] Y post (m - i) m hX hY (by omega) (by simp; omega)
      · rw [pRot_gt m i j _ (by omega) hij]
        obtain ⟨X1, X2, rfl, h1, h2⟩ : ∃ X1 X2, X = X1 ++ X2 ∧ X1.length = j ∧ X2.length = i - j := ⟨X.take j, X.drop j, (List.take_append_drop _ _).symm, by simp; omega, by simp; omega⟩
        have e := pSwapR_blk j pre X1 X2 Y post (m - i) m h1 hY (by omega) (by omega)
        simp only [List.append_assoc] at e ⊢
        rw [e]
        have := ih (pre ++ Y) X2 X1 post m (i - j) j (by omega) h2 h1 (by simp; omega)
        simpa only [List.append_assoc, List.nil_append] using this
theorem pUp_blk : ∀ (n : Nat) (pre B post : List Nat) (x a : Nat), B.length = n → a = pre.length → pUp (pre ++ x :: (B ++ post)) a n = pre ++ (B ++ x :: post)
  | 0, pre, B, post, x, a, hB, ha => by
    obtain rfl := List.eq_nil_of_length_eq_zero hB
    rfl
  | n + 1, pre, B, post, x, a, hB, ha => by
    obtain ⟨B, y, rfl, hB1⟩ := snoc_of hB
    rw [pUp_succ]
    have ih := pUp_blk n pre B (y :: post) x a hB1 ha
    simp only [List.append_assoc, List.cons_append, List.nil_append] at ih ⊢
    rw [ih]
    have := swp_blk (pre ++ B) [] post x y (a + n) (a + n + 1) (by simp; omega) (by simp; omega)
    simpa only [List.append_assoc, List.nil_append] using this
theorem pDn_blk : ∀ (n : Nat) (pre B post : List Nat) (x m : Nat), B.length = n → m = pre.length + n → pDn (pre ++ (B ++ x :: post)) m n = pre ++ x :: (B ++ post)
  | 0, pre, B, post, x, a, hB, ha => by
    obtain rfl := List.eq_nil_of_length_eq_zero hB
    rfl
  | n + 1, pre, B, post, x, m, hB, hm => by
    match B, hB with
    | y :: B, hB =>
      rw [pDn_succ]
      have hB' : B.length = n := by simpa using hB
      have ih := pDn_blk n (pre ++ [y]) B post x m hB' (by simp; omega)
      simp only [List.append_assoc, List.cons_append, List.nil_append] at ih ⊢
      rw [ih]
      rw [swp_comm _ _ _ (by simp; omega) (by simp; omega)]
      exact swp_blk pre [] (B ++ post) y x _ _ (by omega) (by simp; omega)
theorem bsr_spec (p : Nat → Bool) : ∀ (n i j : Nat), j - i ≤ n → i ≤ j → (∀ c d, i ≤ c → c < d → d < j → p d = true → p c = true) →
    i ≤ bsr p i j ∧ bsr p i j ≤ j ∧ (∀ c, i ≤ c → c < bsr p i j → p c = true) ∧ (∀ c, bsr p i j ≤ c → c < j → p c = false)
  | 0, i, j, h, hij, hm => by
    rw [bsr_end _ _ _ (by omega)]
    exact ⟨by omega, by omega, fun c h1 h2 => by omega, fun c h1 h2 => by omega⟩
  | n + 1, i, j, h, hij, hm => by
    by_cases hlt : i < j
    · cases hp : p ((i + j) / 2) with
      | true =>
        rw [bsr_up _ _ _ hlt hp]
        obtain ⟨h1, h2, h3, h4⟩ := bsr_spec p n ((i + j) / 2 + 1) j (by omega) (by omega) (fun c d hc hd hj => hm c d (by omega) hd hj)
        refine ⟨by omega, h2, fun c hc hlt' => ?_, h4⟩
        by_cases hcm : c ≤ (i + j) / 2
        · rcases Nat.lt_or_ge c ((i + j) / 2) with h' | h'
          · exact hm c ((i + j) / 2) hc h' (by omega) hp
          · rw [show c = (i + j) / 2 from by omega]; exact hp
        · exact h3 c (by omega) hlt'
      | false =>
        rw [bsr_dn _ _ _ hlt hp]
        obtain ⟨h1, h2, h3, h4⟩ := bsr_spec p n i ((i + j) / 2) (by omega) (by omega) (fun c d hc hd hj => hm c d hc hd (by omega))
        refine ⟨h1, by omega, h3, fun c hc hlt' => ?_⟩
        by_cases hcm : c < (i + j) / 2
        · exact h4 c hc hcm
        · rcases Nat.lt_or_ge ((i + j) / 2) c with h' | h'
          · cases hpc : p c with
            | false => rfl
            | true => rw [hm ((i + j) / 2) c (by omega) h' hlt' hpc] at hp; cases hp
          · rw [show c = (i + j) / 2 from by omega]; exact hp
    · rw [bsr_end _ _ _ hlt]
      exact ⟨by omega, by omega, fun c h1 h2 => by omega, fun c h1 h2 => by omega⟩
/-- By key, then by number. -/
def lexk (key : Nat → Int) (x y : Nat) : Prop := key x < key y ∨ (key x = key y ∧ x < y)
theorem lexk_trans {key : Nat → Int} {x y z : Nat} (h : lexk key x y) (k : lexk key y z) : lexk key x z := by
  unfold lexk at *
  omega
theorem lexk_asymm {key : Nat → Int} {x y : Nat} (h : lexk key x y) (k : lexk key y x) : x = y := by
  unfold lexk at *
  omega
/-- A right element before a left one. -/
theorem lexk_right {key : Nat → Int} {x y : Nat} (h : x < y) : key y < key x ↔ ¬ lexk key x y := by
  unfold lexk
  omega
abbrev Srt (key : Nat → Int) (l : List Nat) : Prop := l.Pairwise (lexk key)
theorem srt_uniq {key : Nat → Int} {a b : List Nat} (ha : Srt key a) (hb : Srt key b) (h : a.Perm b) : a = b :=
  h.eq_of_pairwise (fun _ _ _ _ h h' => lexk_asymm h h') ha hb

theorem get_at (A B : List Nat) (i : Nat) (hi : A.length ≤ i) (_hl : i < A.length + B.length) : (A ++ B)[i]?.getD 0 = B[i - A.length]?.getD 0 := by
  rw [List.getElem?_append_right hi]
theorem get_lo (A B : List Nat) (i : Nat) (hi : i < A.length) : (A ++ B)[i]?.getD 0 = A[i]?.getD 0 := by
  rw [List.getElem?_append_left hi]
theorem get_mem {A : List Nat} {i : Nat} (hi : i < A.length) : A[i]?.getD 0 ∈ A := by
  rw [List.getElem?_eq_getElem hi]; exact List.getElem_mem hi
theorem srt_get {key : Nat → Int} {A : List Nat} (h : Srt key A) {i j : Nat} (hij : i < j) (hj : j < A.length) : lexk key (A[i]?.getD 0) (A[j]?.getD 0) := by
  rw [List.getElem?_eq_getElem (by omega), List.getElem?_eq_getElem hj]
  exact (List.pairwise_iff_getElem.1 h) i j (by omega) hj hij

theorem insIn_blk (key : Nat → Int) : ∀ (n : Nat) (pre B post : List Nat) (x a j : Nat), B.length = n → a = pre.length → j = a + n →
    ∃ B1 B2, B = B1 ++ B2 ∧ insIn key a j (pre ++ (B ++ x :: post)) = pre ++ (B1 ++ x :: (B2 ++ post)) ∧ (∀ y ∈ B2, key x < key y) ∧ (B1 = [] ∨ ∃ C y, B1 = C ++ [y] ∧ ¬ key x < key y) := by
  intro n
  induction n with
  | zero =>
    intro pre B post x a j hB ha hj
    obtain rfl := List.eq_nil_of_length_eq_zero hB
    exact ⟨[], [], rfl, insIn_neg key a j _ (by omega), by simp, .inl rfl⟩
  | succ n ih =>
    intro pre B post x a j hB ha hj
    obtain ⟨B, y, rfl, hB1⟩ := snoc_of hB
    have e1 : (pre ++ ((B ++ [y]) ++ x :: post))[j]?.getD 0 = x := by
      rw [← List.append_assoc]; exact get_mid _ _ _ _ (by simp; omega)
    have e2 : (pre ++ ((B ++ [y]) ++ x :: post))[j - 1]?.getD 0 = y := by
      have := get_mid (pre ++ B) (x :: post) y (j - 1) (by simp; omega)
      simpa only [List.append_assoc, List.cons_append, List.nil_append] using this
    by_cases h : key x < key y
    · rw [insIn_pos key a j _ (by omega) (by unfold ltk; rw [e1, e2]; exact decide_eq_true h)]
      have hs : swp (pre ++ ((B ++ [y]) ++ x :: post)) j (j - 1) = pre ++ (B ++ x :: (y :: post)) := by
        rw [swp_comm _ _ _ (by simp; omega) (by simp; omega)]
        have := swp_blk (pre ++ B) [] post y x (j - 1) j (by simp; omega) (by simp; omega)
        simpa only [List.append_assoc, List.cons_append, List.nil_append] using this
      rw [hs]
      obtain ⟨B1, B2, rfl, e3, e4, e5⟩ := ih pre B (y :: post) x a (j - 1) hB1 ha (by omega)
      refine ⟨B1, B2 ++ [y], by simp, by rw [e3]; simp, fun z hz => ?_, e5⟩
      rcases List.mem_append.1 hz with hz | hz
      · exact e4 z hz
      · simp only [List.mem_singleton] at hz; rw [hz]; exact h
    · refine ⟨B ++ [y], [], by simp, ?_, by simp, .inr ⟨B, y, rfl, h⟩⟩
      rw [insIn_neg key a j _ (fun hx => by unfold ltk at hx; rw [e1, e2] at hx; exact h (of_decide_eq_true hx.2))]
      rfl
theorem insIn_srt (key : Nat → Int) (pre B post : List Nat) (x a j : Nat) (ha : a = pre.length) (hj : j = a + B.length) (hs : Srt key B) (hx : ∀ y ∈ B, y < x) :
    ∃ B', insIn key a j (pre ++ (B ++ x :: post)) = pre ++ (B' ++ post) ∧ B'.Perm (B ++ [x]) ∧ Srt key B' := by
  obtain ⟨B1, B2, rfl, e, h1, h2⟩ := insIn_blk key B.length pre B post x a j rfl ha hj
  refine ⟨B1 ++ x :: B2, by rw [e]; simp, ?_, ?_⟩
  · rw [List.append_assoc]
    exact List.Perm.append_left B1 (List.perm_append_singleton x B2).symm
  · have hp := List.pairwise_append.1 hs
    have hlo : ∀ y ∈ B1, lexk key y x := by
      intro y hy
      rcases h2 with h | ⟨C, z, rfl, hz⟩
      · rw [h] at hy; cases hy
      · have hzx : lexk key z x := by
          have := hx z (by simp)
          unfold lexk; omega
        rcases List.mem_append.1 hy with h | h
        · exact lexk_trans ((List.pairwise_append.1 hp.1).2.2 y h z (by simp)) hzx
        · simp only [List.mem_singleton] at h; rw [h]; exact hzx
    refine List.pairwise_append.2 ⟨hp.1, List.pairwise_cons.2 ⟨fun y hy => .inl (h1 y hy), hp.2.1⟩, fun y hy z hz => ?_⟩
    rcases List.mem_cons.1 hz with h | h
    · rw [h]; exact hlo y hy
    · exact hp.2.2 y hy z h
theorem insOut_srt (key : Nat → Int) : ∀ (n : Nat) (pre : List Nat) (x0 : Nat) (R post : List Nat) (a : Nat), R.length = n → a = pre.length → (x0 :: R).Pairwise (· < ·) →
    ∃ B', insOut key a n (pre ++ (x0 :: R ++ post)) = pre ++ (B' ++ post) ∧ B'.Perm (x0 :: R) ∧ Srt key B'
  | 0, pre, x0, R, post, a, hR, ha, hp => by
    obtain rfl := List.eq_nil_of_length_eq_zero hR
    exact ⟨[x0], rfl, .refl _, by simp⟩
  | n + 1, pre, x0, R, post, a, hR, ha, hp => by
    obtain ⟨R, y, rfl, hR1⟩ := snoc_of hR
    have hp' : ((x0 :: R) ++ [y]).Pairwise (· < ·) := by simpa using hp
    have hq := List.pairwise_append.1 hp'
    obtain ⟨B', e1, e2, e3⟩ := insOut_srt key n pre x0 R (y :: post) a hR1 ha hq.1
    have hlen : B'.length = n + 1 := by rw [e2.length_eq]; simp [hR1]
    obtain ⟨B2, f1, f2, f3⟩ := insIn_srt key pre B' post y a (a + 1 + n) ha (by omega) e3 (fun z hz => hq.2.2 z (e2.mem_iff.1 hz) y (by simp))
    refine ⟨B2, ?_, ?_, f3⟩
    · rw [insOut_succ, ← f1, ← e1]
      simp
    · refine f2.trans ?_
      have := e2.append_right [y]
      simpa using this
theorem perm_mid {α : Type} (A B C D : List α) : ((A ++ B) ++ (C ++ D)).Perm ((A ++ C) ++ (B ++ D)) := by
  simp only [List.append_assoc]
  refine List.Perm.append_left A ?_
  rw [← List.append_assoc, ← List.append_assoc]
  exact List.perm_append_comm.append_right D
theorem split_at {L : List Nat} (k : Nat) (hk : k ≤ L.length) : ∃ A B, L = A ++ B ∧ A.length = k ∧ B.length = L.length - k :=
  ⟨L.take k, L.drop k, (List.take_append_drop _ _).symm, by simp; omega, by simp⟩
theorem ltk_val (key : Nat → Int) (xs : List Nat) (i j x y : Nat) (hx : xs[i]?.getD 0 = x) (hy : xs[j]?.getD 0 = y) : ltk key xs i j = decide (key x < key y) := by
  unfold ltk; rw [hx, hy]
theorem get_L (pre L R post : List Nat) (i : Nat) (h1 : pre.length ≤ i) (h2 : i < pre.length + L.length) : (pre ++ (L ++ (R ++ post)))[i]?.getD 0 = L[i - pre.length]?.getD 0 := by
  rw [List.getElem?_append_right h1, List.getElem?_append_left (by omega)]
theorem get_R (pre L R post : List Nat) (i : Nat) (h1 : pre.length + L.length ≤ i) (h2 : i < pre.length + L.length + R.length) : (pre ++ (L ++ (R ++ post)))[i]?.getD 0 = R[i - pre.length - L.length]?.getD 0 := by
  rw [List.getElem?_append_right (by omega), List.getElem?_append_right (by omega), List.getElem?_append_left (by omega)]

theorem pSym_one (key : Nat → Int) (pre R post : List Nat) (x a m b : Nat) (ha : a = pre.length) (hm : m = a + 1) (hb : b = m + R.length) (hR : Srt key R) (hx : ∀ y ∈ R, x < y) :
    ∃ M, pUp (pre ++ ([x] ++ (R ++ post))) a (bsr (fun h => ltk key (pre ++ ([x] ++ (R ++ post))) h a) m b - 1 - a) = pre ++ (M ++ post) ∧ M.Perm ([x] ++ R) ∧ Srt key M := by
  have e0 : (pre ++ ([x] ++ (R ++ post)))[a]?.getD 0 = x := get_mid pre (R ++ post) x a ha
  have eR : ∀ c, m ≤ c → c < b → (pre ++ ([x] ++ (R ++ post)))[c]?.getD 0 = R[c - m]?.getD 0 := fun c h1 h2 => by
    rw [get_R pre [x] R post c (by simp; omega) (by simp; omega)]
    congr 2; simp; omega
  have hp : ∀ c, m ≤ c → c < b → ltk key (pre ++ ([x] ++ (R ++ post))) c a = decide (key (R[c - m]?.getD 0) < key x) := fun c h1 h2 => ltk_val key _ c a _ _ (eR c h1 h2) e0
  obtain ⟨h1, h2, h3, h4⟩ := bsr_spec (fun h => ltk key (pre ++ ([x] ++ (R ++ post))) h a) (b - m) m b (Nat.le_refl _) (by omega) (fun c d hc hd hj h => by
    rw [hp d (by omega) hj] at h
    rw [hp c hc (by omega)]
    have h := of_decide_eq_true h
    have := srt_get hR (i := c - m) (j := d - m) (by omega) (by omega)
    refine decide_eq_true ?_
    unfold lexk at this
    omega)
  generalize bsr (fun h => ltk key (pre ++ ([x] ++ (R ++ post))) h a) m b = st at h1 h2 h3 h4 ⊢
  obtain ⟨R1, R2, rfl, l1, l2⟩ := split_at (L := R) (st - m) (by omega)
  have hs := List.pairwise_append.1 hR
  have g1 : ∀ y ∈ R1, lexk key y x := fun y hy => by
    obtain ⟨i, hi, rfl⟩ := List.mem_iff_getElem.1 hy
    have h := h3 (m + i) (by omega) (by omega)
    rw [hp _ (by omega) (by simp at hb; omega), show m + i - m = i from by omega, get_lo _ _ _ hi, List.getElem?_eq_getElem hi] at h
    exact .inl (of_decide_eq_true h)
  have g2 : ∀ y ∈ R2, lexk key x y := fun y hy => by
    obtain ⟨i, hi, rfl⟩ := List.mem_iff_getElem.1 hy
    have hbl : b = m + (R1.length + R2.length) := by rw [hb]; simp
    have h := h4 (st + i) (by omega) (by omega)
    rw [hp _ (by omega) (by omega), get_at _ _ _ (by omega) (by omega), show st + i - m - R1.length = i from by omega, List.getElem?_eq_getElem hi] at h
    have h := of_decide_eq_false h
    have hxy := hx R2[i] (by simp)
    simp only [Option.getD_some] at h
    unfold lexk; omega
  refine ⟨R1 ++ x :: R2, ?_, ?_, ?_⟩
  · have := pUp_blk (st - 1 - a) pre R1 (R2 ++ post) x a (by omega) ha
    simpa only [List.append_assoc, List.cons_append, List.nil_append] using this
  · exact List.perm_middle
  · refine List.pairwise_append.2 ⟨hs.1, List.pairwise_cons.2 ⟨g2, hs.2.1⟩, fun y hy z hz => ?_⟩
    rcases List.mem_cons.1 hz with h | h
    · rw [h]; exact g1 y hy
    · exact hs.2.2 y hy z h
theorem pSym_two (key : Nat → Int) (pre L post : List Nat) (x a m : Nat) (ha : a = pre.length) (hm : m = a + L.length) (hL : Srt key L) (hx : ∀ y ∈ L, y < x) :
    ∃ M, pDn (pre ++ (L ++ ([x] ++ post))) m (m - bsr (fun h => !ltk key (pre ++ (L ++ ([x] ++ post))) m h) a m) = pre ++ (M ++ post) ∧ M.Perm (L ++ [x]) ∧ Srt key M := by
  have e0 : (pre ++ (L ++ ([x] ++ post)))[m]?.getD 0 = x := by
    have := get_mid (pre ++ L) post x m (by simp; omega)
    simpa only [List.append_assoc, List.cons_append, List.nil_append] using this
  have eL : ∀ c, a ≤ c → c < m → (pre ++ (L ++ ([x] ++ post)))[c]?.getD 0 = L[c - a]?.getD 0 := fun c h1 h2 => by
    rw [get_L pre L [x] post c (by omega) (by omega), ha]
  have hp : ∀ c, a ≤ c → c < m → (!ltk key (pre ++ (L ++ ([x] ++ post))) m c) = !decide (key x < key (L[c - a]?.getD 0)) := fun c h1 h2 => by
    rw [ltk_val key _ m c _ _ e0 (eL c h1 h2)]
  obtain ⟨h1, h2, h3, h4⟩ := bsr_spec (fun h => !ltk key (pre ++ (L ++ ([x] ++ post))) m h) (m - a) a m (Nat.le_refl _) (by omega) (fun c d hc hd hj h => by
    rw [hp d (by omega) hj] at h
    rw [hp c hc (by omega)]
    simp only [Bool.not_eq_true', decide_eq_false_iff_not] at h ⊢
    have := srt_get hL (i := c - a) (j := d - a) (by omega) (by omega)
    unfold lexk at this
    omega)
  generalize bsr (fun h => !ltk key (pre ++ (L ++ ([x] ++ post))) m h) a m = st at h1 h2 h3 h4 ⊢
  obtain ⟨L1, L2, rfl, l1, l2⟩ := split_at (L := L) (st - a) (by omega)
  have hml : m = a + (L1.length + L2.length) := by rw [hm]; simp
  have hs := List.pairwise_append.1 hL
  have g1 : ∀ y ∈ L1, lexk key y x := fun y hy => by
    obtain ⟨i, hi, rfl⟩ := List.mem_iff_getElem.1 hy
    have h := h3 (a + i) (by omega) (by omega)
    rw [hp _ (by omega) (by omega), show a + i - a = i from by omega, get_lo _ _ _ hi, List.getElem?_eq_getElem hi] at h
    simp only [Bool.not_eq_true', decide_eq_false_iff_not, Option.getD_some] at h
    have hxy := hx L1[i] (by simp)
    unfold lexk; omega
  have g2 : ∀ y ∈ L2, lexk key x y := fun y hy => by
    obtain ⟨i, hi, rfl⟩ := List.mem_iff_getElem.1 hy
    have h := h4 (st + i) (by omega) (by omega)
    rw [hp _ (by omega) (by omega), get_at _ _ _ (by omega) (by omega), show st + i - a - L1.length = i from by omega, List.getElem?_eq_getElem hi] at h
    simp only [Bool.not_eq_false', decide_eq_true_eq, Option.getD_some] at h
    exact .inl h
  refine ⟨L1 ++ x :: L2, ?_, ?_, ?_⟩
  · have := pDn_blk (m - st) (pre ++ L1) L2 post x m (by omega) (by simp; omega)
    simpa only [List.append_assoc, List.cons_append, List.nil_append] using this
  · rw [List.append_assoc]
    exact List.Perm.append_left L1 (List.perm_append_singleton x L2).symm
  · refine List.pairwise_append.2 ⟨hs.1, List.pairwise_cons.2 ⟨g2, hs.2.1⟩, fun y hy z hz => ?_⟩
    rcases List.mem_cons.1 hz with h | h
    · rw [h]; exact g1 y hy
    · exact hs.2.2 y hy z h
theorem pSym_ok (key : Nat → Int) : ∀ (f : Nat) (pre L R post : List Nat) (a m b : Nat), a = pre.length → m = a + L.length → b = m + R.length → L ≠ [] → R ≠ [] → L.length + R.length ≤ f → Srt key L → Srt key R → (∀ x ∈ L, ∀ y ∈ R, x < y) →
    ∃ M, pSym key f a m b (pre ++ (L ++ (R ++ post))) = pre ++ (M ++ post) ∧ M.Perm (L ++ R) ∧ Srt key M := by
  intro f
  induction f with
  | zero =>
    intro pre L R post a m b _ _ _ hL _ hf _ _ _
    exact absurd (List.eq_nil_of_length_eq_zero (l := L) (by omega)) hL
  | succ f ih =>
    intro pre L R post a m b ha hm hb hLn hRn hf hL hR hlr
    by_cases c1 : m = a + 1
    · rw [pSym, if_pos c1]
      match L, (show L.length = 1 by omega) with
      | [x], _ => exact pSym_one key pre R post x a m b ha c1 hb hR (fun y hy => hlr x (by simp) y hy)
    · by_cases c2 : b = m + 1
      · rw [pSym, if_neg c1, if_pos c2]
        match R, (show R.length = 1 by omega) with
        | [x], _ => exact pSym_two key pre L post x a m ha hm hL (fun y hy => hlr y hy x (by simp))
      · rw [pSym, if_neg c1, if_neg c2]
        have hL1 : 1 ≤ L.length := List.length_pos_iff.2 hLn
        have hR1 : 1 ≤ R.length := List.length_pos_iff.2 hRn
        obtain ⟨xs, hxs⟩ : ∃ xs, pre ++ (L ++ (R ++ post)) = xs := ⟨_, rfl⟩
        obtain ⟨mid, hmid⟩ : ∃ mid, (a + b) / 2 = mid := ⟨_, rfl⟩
        have hm1 : 2 * mid ≤ a + b ∧ a + b ≤ 2 * mid + 1 := by omega
        obtain ⟨lo, hlo⟩ : ∃ lo, (if mid < m then mid + m - b else a) = lo := ⟨_, rfl⟩
        obtain ⟨hi, hhi⟩ : ∃ hi, (if mid < m then mid else m) = hi := ⟨_, rfl⟩
        have hrange : a ≤ lo ∧ lo ≤ hi ∧ hi ≤ m ∧ hi ≤ mid ∧ mid + m - b ≤ lo ∧ b ≤ mid + m ∨ a ≤ lo ∧ lo ≤ hi ∧ hi ≤ m ∧ hi ≤ mid ∧ lo = a := by
          by_cases h : mid < m
          · rw [if_pos h] at hlo hhi
            by_cases h' : b ≤ mid + m
            · left; omega
            · right; omega
          · rw [if_neg h] at hlo hhi
            right; omega
        have hlob : mid + m - lo ≤ b := by
          by_cases h : mid < m
          · rw [if_pos h] at hlo; omega
          · rw [if_neg h] at hlo; omega
        have hlo2 : lo = a ∨ mid + m - lo = b := by
          by_cases h : mid < m
          · rw [if_pos h] at hlo; omega
          · rw [if_neg h] at hlo; omega
        have hhi2 : hi = m ∨ hi = mid := by
          by_cases h : mid < m
          · rw [if_pos h] at hhi; omega
          · rw [if_neg h] at hhi; omega
        have hle : a ≤ lo ∧ lo ≤ hi ∧ hi ≤ m ∧ hi ≤ mid := by omega
        clear hrange
        have eL : ∀ c, a ≤ c → c < m → xs[c]?.getD 0 = L[c - a]?.getD 0 := fun c h1 h2 => by
          rw [← hxs, get_L pre L R post c (by omega) (by omega), ha]
        have eR : ∀ c, m ≤ c → c < b → xs[c]?.getD 0 = R[c - m]?.getD 0 := fun c h1 h2 => by
          rw [← hxs, get_R pre L R post c (by omega) (by omega)]
          congr 2; omega
        have hp : ∀ c, lo ≤ c → c < hi → ((!ltk key xs (mid + m - 1 - c) c) = true ↔ lexk key (L[c - a]?.getD 0) (R[mid - 1 - c]?.getD 0)) := fun c h1 h2 => by
          rw [ltk_val key xs _ _ _ _ (eR (mid + m - 1 - c) (by omega) (by omega)) (eL c (by omega) (by omega))]
          rw [show mid + m - 1 - c - m = mid - 1 - c from by omega]
          have h := hlr _ (get_mem (A := L) (i := c - a) (by omega)) _ (get_mem (A := R) (i := mid - 1 - c) (by omega))
          have h' := lexk_right (key := key) h
          simp only [Bool.not_eq_true', decide_eq_false_iff_not]
          rw [h']
          exact Classical.not_not
        obtain ⟨s1, s2, s3, s4⟩ := bsr_spec (fun c => !ltk key xs (mid + m - 1 - c) c) (hi - lo) lo hi (Nat.le_refl _) hle.2.1 (fun c d hc hd hj h => by
          have h := (hp d (by omega) hj).1 h
          refine (hp c hc (by omega)).2 ?_
          have q1 := srt_get hL (i := c - a) (j := d - a) (by omega) (by omega)
          have q2 := srt_get hR (i := mid - 1 - d) (j := mid - 1 - c) (by omega) (by omega)
          exact lexk_trans q1 (lexk_trans h q2))
        have s3' : ∀ c, lo ≤ c → c < bsr (fun c => !ltk key xs (mid + m - 1 - c) c) lo hi → lexk key (L[c - a]?.getD 0) (R[mid - 1 - c]?.getD 0) := fun c h1 h2 => (hp c h1 (by omega)).1 (s3 c h1 h2)
        have s4' : ∀ c, bsr (fun c => !ltk key xs (mid + m - 1 - c) c) lo hi ≤ c → c < hi → lexk key (R[mid - 1 - c]?.getD 0) (L[c - a]?.getD 0) := fun c h1 h2 => by
          have h := s4 c h1 h2
          have hn : ¬ lexk key (L[c - a]?.getD 0) (R[mid - 1 - c]?.getD 0) := fun h' => by
            rw [(hp c (by omega) h2).2 h'] at h; cases h
          have h' := hlr _ (get_mem (A := L) (i := c - a) (by omega)) _ (get_mem (A := R) (i := mid - 1 - c) (by omega))
          exact .inl ((lexk_right h').2 hn)
        simp only [hmid, hlo, hhi]
        rw [hxs]
        clear s3 s4 hp eL eR
        generalize bsr (fun c => !ltk key xs (mid + m - 1 - c) c) lo hi = st at s1 s2 s3' s4' ⊢
        subst hxs
        obtain ⟨L1, L2, rfl, l1, l2⟩ := split_at (L := L) (st - a) (by omega)
        obtain ⟨R1, R2, rfl, l3, l4⟩ := split_at (L := R) (mid - st) (by omega)
        simp only [List.length_append] at hm hb hf l2 l4 hL1 hR1
        have hsL := List.pairwise_append.1 hL
        have hsR := List.pairwise_append.1 hR
        have e1 : (if st < m ∧ m < mid + m - st then pRot m (m - st) (mid + m - st - m) (pre ++ ((L1 ++ L2) ++ ((R1 ++ R2) ++ post))) else pre ++ ((L1 ++ L2) ++ ((R1 ++ R2) ++ post))) = pre ++ (L1 ++ (R1 ++ (L2 ++ (R2 ++ post)))) := by
          split
          · have := pRot_blk (m - st + (mid + m - st - m)) (pre ++ L1) L2 R1 (R2 ++ post) m (m - st) (mid + m - st - m) (Nat.le_refl _) (by omega) (by omega) (by simp; omega)
            simpa only [List.append_assoc] using this
          · rename_i h
            by_cases h1 : st < m
            · obtain rfl := List.eq_nil_of_length_eq_zero (l := R1) (by omega)
              simp
            · obtain rfl := List.eq_nil_of_length_eq_zero (l := L2) (by omega)
              simp
        rw [e1]
        have x1 : ∀ x ∈ L1, ∀ y ∈ R2, lexk key x y := fun x hx y hy => by
          obtain ⟨i, hi1, rfl⟩ := List.mem_iff_getElem.1 hx
          obtain ⟨j, hj1, rfl⟩ := List.mem_iff_getElem.1 hy
          have h := s3' (st - 1) (by omega) (by omega)
          rw [get_lo _ _ _ (by omega), get_at _ _ _ (by omega) (by omega), show mid - 1 - (st - 1) - R1.length = 0 from by omega, List.getElem?_eq_getElem (by omega), List.getElem?_eq_getElem (by omega)] at h
          simp only [Option.getD_some] at h
          have q1 : L1[i] = L1[st - 1 - a] ∨ lexk key L1[i] L1[st - 1 - a] := by
            by_cases hh : i = st - 1 - a
            · left; simp only [hh]
            · right; exact List.pairwise_iff_getElem.1 hsL.1 i (st - 1 - a) hi1 (by omega) (by omega)
          have q2 : R2[0] = R2[j] ∨ lexk key R2[0] R2[j] := by
            by_cases hh : 0 = j
            · left; simp only [hh]
            · right; exact List.pairwise_iff_getElem.1 hsR.2.1 0 j (by omega) hj1 (by omega)
          have h' : lexk key L1[i] R2[0] := by
            rcases q1 with q | q
            · rw [q]; exact h
            · exact lexk_trans q h
          rcases q2 with q | q
          · rw [← q]; exact h'
          · exact lexk_trans h' q
        have x2 : ∀ y ∈ R1, ∀ x ∈ L2, lexk key y x := fun y hy x hx => by
          obtain ⟨i, hi1, rfl⟩ := List.mem_iff_getElem.1 hx
          obtain ⟨j, hj1, rfl⟩ := List.mem_iff_getElem.1 hy
          have h := s4' st (by omega) (by omega)
          rw [get_lo _ _ _ (by omega), get_at _ _ _ (by omega) (by omega), show st - a - L1.length = 0 from by omega, List.getElem?_eq_getElem (by omega), List.getElem?_eq_getElem (by omega)] at h
          simp only [Option.getD_some] at h
          have q1 : R1[j] = R1[mid - 1 - st] ∨ lexk key R1[j] R1[mid - 1 - st] := by
            by_cases hh : j = mid - 1 - st
            · left; simp only [hh]
            · right; exact List.pairwise_iff_getElem.1 hsR.1 j (mid - 1 - st) hj1 (by omega) (by omega)
          have q2 : L2[0] = L2[i] ∨ lexk key L2[0] L2[i] := by
            by_cases hh : 0 = i
            · left; simp only [hh]
            · right; exact List.pairwise_iff_getElem.1 hsL.2.1 0 i (by omega) hi1 (by omega)
          have h' : lexk key R1[j] L2[0] := by
            rcases q1 with q | q
            · rw [q]; exact h
            · exact lexk_trans q h
          rcases q2 with q | q
          · rw [← q]; exact h'
          · exact lexk_trans h' q
        have y1 : ∀ x ∈ L1, ∀ y ∈ R1, x < y := fun x hx y hy => hlr x (by simp [hx]) y (by simp [hy])
        have y2 : ∀ x ∈ L2, ∀ y ∈ R2, x < y := fun x hx y hy => hlr x (by simp [hx]) y (by simp [hy])
        have k1 : ∃ M1, (if a < st ∧ st < mid then pSym key f a st mid (pre ++ (L1 ++ (R1 ++ (L2 ++ (R2 ++ post))))) else pre ++ (L1 ++ (R1 ++ (L2 ++ (R2 ++ post))))) = pre ++ (M1 ++ (L2 ++ (R2 ++ post))) ∧ M1.Perm (L1 ++ R1) ∧ Srt key M1 := by
          split
          · exact ih pre L1 R1 (L2 ++ (R2 ++ post)) a st mid ha (by omega) (by omega) (fun h => absurd (congrArg List.length h) (by show L1.length ≠ 0; omega)) (fun h => absurd (congrArg List.length h) (by show R1.length ≠ 0; omega)) (by omega) hsL.1 hsR.1 y1
          · rename_i h
            refine ⟨L1 ++ R1, by simp, .refl _, ?_⟩
            by_cases h1 : a < st
            · obtain rfl := List.eq_nil_of_length_eq_zero (l := R1) (by omega)
              simpa using hsL.1
            · obtain rfl := List.eq_nil_of_length_eq_zero (l := L1) (by omega)
              simpa using hsR.1
        obtain ⟨M1, f1, f2, f3⟩ := k1
        rw [f1]
        have hM1 : M1.length = L1.length + R1.length := by rw [f2.length_eq]; simp
        have k2 : ∃ M2, (if mid < mid + m - st ∧ mid + m - st < b then pSym key f mid (mid + m - st) b (pre ++ (M1 ++ (L2 ++ (R2 ++ post)))) else pre ++ (M1 ++ (L2 ++ (R2 ++ post)))) = pre ++ (M1 ++ (M2 ++ post)) ∧ M2.Perm (L2 ++ R2) ∧ Srt key M2 := by
          split
          · have := ih (pre ++ M1) L2 R2 post mid (mid + m - st) b (by simp; omega) (by omega) (by omega) (fun h => absurd (congrArg List.length h) (by show L2.length ≠ 0; omega)) (fun h => absurd (congrArg List.length h) (by show R2.length ≠ 0; omega)) (by omega) hsL.2.1 hsR.2.1 y2
            simpa only [List.append_assoc] using this
          · rename_i h
            refine ⟨L2 ++ R2, by simp, .refl _, ?_⟩
            by_cases h1 : mid < mid + m - st
            · obtain rfl := List.eq_nil_of_length_eq_zero (l := R2) (by omega)
              simpa using hsL.2.1
            · obtain rfl := List.eq_nil_of_length_eq_zero (l := L2) (by omega)
              simpa using hsR.2.1
        obtain ⟨M2, g1, g2, g3⟩ := k2
        rw [g1]
        refine ⟨M1 ++ M2, by simp, (f2.append g2).trans (perm_mid _ _ _ _), List.pairwise_append.2 ⟨f3, g3, fun x hx y hy => ?_⟩⟩
        rcases List.mem_append.1 (f2.mem_iff.1 hx) with hx | hx <;> rcases List.mem_append.1 (g2.mem_iff.1 hy) with hy | hy
        · exact hsL.2.2 x hx y hy
        · exact x1 x hx y hy
        · exact x2 x hx y hy
        · exact hsR.2.2 x hx y hy
def IsS (key : Nat → Int) (lo len : Nat) (l : List Nat) : Prop := l.Perm (List.range' lo len) ∧ Srt key l
theorem IsS.len {key : Nat → Int} {lo len : Nat} {l : List Nat} (h : IsS key lo len l) : l.length = len := by rw [h.1.length_eq]; simp
theorem IsS.mem {key : Nat → Int} {lo len x : Nat} {l : List Nat} (h : IsS key lo len l) (hx : x ∈ l) : lo ≤ x ∧ x < lo + len := by
  have := h.1.mem_iff.1 hx
  simpa [List.mem_range'_1] using this
theorem ins_S (key : Nat → Int) (pre post : List Nat) (a lo len k : Nat) (ha : a = pre.length) (hk : k = len - 1) :
    ∃ B, insOut key a k (pre ++ (List.range' lo len ++ post)) = pre ++ (B ++ post) ∧ IsS key lo len B := by
  subst hk
  cases len with
  | zero => exact ⟨[], rfl, .refl _, List.Pairwise.nil⟩
  | succ len =>
    obtain ⟨B, h1, h2, h3⟩ := insOut_srt key len pre lo (List.range' (lo + 1) len) post a (by simp) ha (by
      have := List.pairwise_lt_range' (s := lo) (n := len + 1)
      rwa [List.range'_succ] at this)
    refine ⟨B, ?_, ?_, h3⟩
    · rw [← h1, List.range'_succ]; rfl
    · rw [List.range'_succ]; exact h2
theorem sym_S (key : Nat → Int) (pre L R post : List Nat) (a m b lo l1 l2 : Nat) (ha : a = pre.length) (hm : m = a + l1) (hb : b = m + l2) (hL : IsS key lo l1 L) (hR : IsS key (lo + l1) l2 R) (h1 : 0 < l1) (h2 : 0 < l2) (hl : l1 + l2 ≤ 1000) :
    ∃ M, pSym key 1000 a m b (pre ++ (L ++ (R ++ post))) = pre ++ (M ++ post) ∧ IsS key lo (l1 + l2) M := by
  have e1 := hL.len
  have e2 := hR.len
  obtain ⟨M, g1, g2, g3⟩ := pSym_ok key 1000 pre L R post a m b ha (by omega) (by omega) (fun h => absurd (congrArg List.length h) (by show L.length ≠ 0; omega)) (fun h => absurd (congrArg List.length h) (by show R.length ≠ 0; omega)) (by omega) hL.2 hR.2 (fun x hx y hy => by have := hL.mem hx; have := hR.mem hy; omega)
  refine ⟨M, g1, ?_, g3⟩
  rw [← List.range'_append_1]
  exact g2.trans (hL.1.append hR.1)
theorem range_split (lo a b c : Nat) (h : c = a + b) : List.range' lo c = List.range' lo a ++ List.range' (lo + a) b := by
  subst h; exact (List.range'_append_1).symm
theorem stF_stop (key : Nat → Int) (n f z : Nat) (xs : List Nat) (h : ¬ z < n) : stF key n f z xs = xs := by
  cases f with
  | zero => rfl
  | succ f => rw [stF, if_neg h]
theorem stF_go (key : Nat → Int) (n f z : Nat) (xs : List Nat) (h : z < n) : stF key n (f + 1) z xs = stF key n f (2 * z) (stR key n z xs) := by rw [stF, if_pos h]
theorem stR_0 (key : Nat → Int) (n z : Nat) (xs : List Nat) (h : z < n) (h' : n < 2 * z) : stR key n z xs = pSym key 1000 0 z n xs := by
  unfold stR
  simp only [Nat.div_eq_of_lt h']
  rw [if_pos (by omega)]
  simp [stM]
theorem stB1 (key : Nat → Int) (xs : List Nat) : stB key 1 xs = insOut key 0 19 xs := by simp [stB]
theorem stB2 (key : Nat → Int) (xs : List Nat) : stB key 2 xs = insOut key 20 19 (insOut key 0 19 xs) := by rw [stB_succ, stB1]
theorem stB3 (key : Nat → Int) (xs : List Nat) : stB key 3 xs = insOut key 40 19 (insOut key 20 19 (insOut key 0 19 xs)) := by rw [stB_succ, stB2]
theorem stM1 (key : Nat → Int) (xs : List Nat) : stM key 20 1 xs = pSym key 1000 0 20 40 xs := by rw [stM_succ]; simp [stM]
theorem pStable_ok (key : Nat → Int) (n : Nat) (hn : n ≤ 64) : IsS key 0 n (pStable key (List.range n)) := by
  have hl : (List.range n).length = n := List.length_range
  unfold pStable
  rw [hl, List.range_eq_range']
  rcases Nat.lt_or_ge n 20 with h1 | h1
  · rw [Nat.div_eq_of_lt h1, stF_stop _ _ _ _ _ (by omega)]
    obtain ⟨B, e1, e2⟩ := ins_S key [] [] 0 0 n (n - (20 * 0 + 1)) rfl (by omega)
    simp only [List.nil_append, List.append_nil] at e1
    show IsS key 0 n (insOut key (20 * 0) (n - (20 * 0 + 1)) (List.range' 0 n))
    rw [Nat.mul_zero] at e1 ⊢
    rw [e1]; exact e2
  · have b0 : ∀ post, ∃ B, insOut key 0 19 (List.range' 0 20 ++ post) = B ++ post ∧ IsS key 0 20 B := fun post => ins_S key [] post 0 0 20 19 rfl rfl
    rcases Nat.lt_or_ge n 40 with h2 | h2
    · obtain ⟨r, rfl⟩ : ∃ r, n = 20 + r := ⟨n - 20, by omega⟩
      rw [show (20 + r) / 20 = 1 from by omega]
      obtain ⟨B0, f1, f2⟩ := b0 (List.range' 20 r)
      have e0 : stB key 1 (List.range' 0 (20 + r)) = B0 ++ List.range' 20 r := by
        rw [stB1, range_split 0 20 r _ rfl]; exact f1
      rw [e0]
      obtain ⟨B1, g1, g2⟩ := ins_S key B0 [] 20 20 r (20 + r - (20 * 1 + 1)) f2.len.symm (by omega)
      simp only [List.append_nil] at g1
      rw [show 20 * 1 = 20 from rfl] at g1 ⊢
      rw [g1]
      by_cases hr : r = 0
      · subst hr
        rw [stF_stop _ _ _ _ _ (by omega)]
        obtain rfl := List.eq_nil_of_length_eq_zero (l := B1) g2.len
        simpa using f2
      · rw [stF_go _ _ _ _ _ (by omega), stR_0 _ _ _ _ (by omega) (by omega), stF_stop _ _ _ _ _ (by omega)]
        obtain ⟨M, k1, k2⟩ := sym_S key [] B0 B1 [] 0 20 (20 + r) 0 20 r rfl rfl rfl f2 g2 (by omega) (by omega) (by omega)
        simp only [List.nil_append, List.append_nil] at k1
        rw [k1]; exact k2
    · have s1 : ∀ (B0 post : List Nat), IsS key 0 20 B0 → ∃ B, insOut key 20 19 (B0 ++ (List.range' 20 20 ++ post)) = B0 ++ (B ++ post) ∧ IsS key 20 20 B := fun B0 post h => ins_S key B0 post 20 20 20 19 h.len.symm rfl
      rcases Nat.lt_or_ge n 60 with h3 | h3
      · obtain ⟨r, rfl⟩ : ∃ r, n = 40 + r := ⟨n - 40, by omega⟩
        rw [show (40 + r) / 20 = 2 from by omega]
        obtain ⟨B0, f1, f2⟩ := b0 (List.range' 20 20 ++ List.range' 40 r)
        obtain ⟨B1, g1, g2⟩ := s1 B0 (List.range' 40 r) f2
        have e0 : stB key 2 (List.range' 0 (40 + r)) = B0 ++ (B1 ++ List.range' 40 r) := by
          rw [stB2, range_split 0 20 (20 + r) _ (by omega), range_split (0 + 20) 20 r _ rfl, ← g1]; exact congrArg (insOut key 20 19) f1
        rw [e0]
        obtain ⟨B2, k1, k2⟩ := ins_S key (B0 ++ B1) [] 40 40 r (40 + r - (20 * 2 + 1)) (by simp [f2.len, g2.len]) (by omega)
        simp only [List.append_nil, List.append_assoc] at k1
        rw [show 20 * 2 = 40 from rfl] at k1 ⊢
        rw [k1, stF_go _ _ _ _ _ (by omega)]
        obtain ⟨M, m1, m2⟩ := sym_S key [] B0 B1 B2 0 20 40 0 20 20 rfl rfl rfl f2 g2 (by omega) (by omega) (by omega)
        simp only [List.nil_append] at m1
        have e2 : stR key (40 + r) 20 (B0 ++ (B1 ++ B2)) = M ++ B2 := by
          unfold stR
          simp only [show (40 + r) / (2 * 20) = 1 from by omega]
          rw [if_neg (by omega), ← m1]
          exact stM1 key _
        rw [e2]
        by_cases hr : r = 0
        · subst hr
          rw [stF_stop _ _ _ _ _ (by omega)]
          obtain rfl := List.eq_nil_of_length_eq_zero (l := B2) k2.len
          simpa using m2
        · rw [stF_go _ _ _ _ _ (by omega), stR_0 _ _ _ _ (by omega) (by omega), stF_stop _ _ _ _ _ (by omega)]
          obtain ⟨M', n1, n2⟩ := sym_S key [] M B2 [] 0 40 (40 + r) 0 40 r rfl rfl rfl m2 k2 (by omega) (by omega) (by omega)
          simp only [List.nil_append, List.append_nil] at n1
          show IsS key 0 (40 + r) (pSym key 1000 0 (2 * 20) (40 + r) (M ++ B2))
          rw [n1]; exact n2
      · obtain ⟨r, rfl⟩ : ∃ r, n = 60 + r := ⟨n - 60, by omega⟩
        rw [show (60 + r) / 20 = 3 from by omega]
        obtain ⟨B0, f1, f2⟩ := b0 (List.range' 20 20 ++ (List.range' 40 20 ++ List.range' 60 r))
        obtain ⟨B1, g1, g2⟩ := s1 B0 (List.range' 40 20 ++ List.range' 60 r) f2
        obtain ⟨B2, h1', h2'⟩ := ins_S key (B0 ++ B1) (List.range' 60 r) 40 40 20 19 (by simp [f2.len, g2.len]) rfl
        simp only [List.append_assoc] at h1'
        have e0 : stB key 3 (List.range' 0 (60 + r)) = B0 ++ (B1 ++ (B2 ++ List.range' 60 r)) := by
          rw [stB3, range_split 0 20 (40 + r) _ (by omega), range_split (0 + 20) 20 (20 + r) _ (by omega), range_split (0 + 20 + 20) 20 r _ rfl, ← h1', ← g1]; exact congrArg (fun x => insOut key 40 19 (insOut key 20 19 x)) f1
        rw [e0]
        obtain ⟨B3, k1, k2⟩ := ins_S key (B0 ++ (B1 ++ B2)) [] 60 60 r (60 + r - (20 * 3 + 1)) (by simp [f2.len, g2.len, h2'.len]) (by omega)
        simp only [List.append_nil, List.append_assoc] at k1
        rw [show 20 * 3 = 60 from rfl] at k1 ⊢
        rw [k1, stF_go _ _ _ _ _ (by omega)]
        obtain ⟨M, m1, m2⟩ := sym_S key [] B0 B1 (B2 ++ B3) 0 20 40 0 20 20 rfl rfl rfl f2 g2 (by omega) (by omega) (by omega)
        simp only [List.nil_append] at m1
        have e2 : ∃ M3, stR key (60 + r) 20 (B0 ++ (B1 ++ (B2 ++ B3))) = M ++ M3 ∧ IsS key 40 (20 + r) M3 := by
          unfold stR
          simp only [show (60 + r) / (2 * 20) = 1 from by omega]
          have e3 : stM key 20 1 (B0 ++ (B1 ++ (B2 ++ B3))) = M ++ (B2 ++ B3) := by rw [← m1]; exact stM1 key _
          rw [e3]
          by_cases hr : r = 0
          · subst hr
            obtain rfl := List.eq_nil_of_length_eq_zero (l := B3) k2.len
            rw [if_neg (by omega)]
            exact ⟨B2, by simp, h2'⟩
          · rw [if_pos (by omega)]
            obtain ⟨M3, o1, o2⟩ := sym_S key M B2 B3 [] 40 60 (60 + r) 40 20 r m2.len.symm rfl rfl h2' k2 (by omega) (by omega) (by omega)
            simp only [List.append_nil] at o1
            exact ⟨M3, o1, o2⟩
        obtain ⟨M3, p1, p2⟩ := e2
        rw [p1, stF_go _ _ _ _ _ (by omega), stR_0 _ _ _ _ (by omega) (by omega), stF_stop _ _ _ _ _ (by omega)]
        obtain ⟨M', n1, n2⟩ := sym_S key [] M M3 [] 0 40 (60 + r) 0 40 (20 + r) rfl rfl (by omega) m2 p2 (by omega) (by omega) (by omega)
        simp only [List.nil_append, List.append_nil] at n1
        show IsS key 0 (60 + r) (pSym key 1000 0 (2 * 20) (60 + r) (M ++ M3))
        rw [n1, show 60 + r = 40 + (20 + r) from by omega]; exact n2
/-- The reference's way: each number behind all whose key is not more. -/
def rIns (key : Nat → Int) (xs : List Nat) (i : Nat) : List Nat := xs.takeWhile (fun y => decide (key y ≤ key i)) ++ i :: xs.dropWhile (fun y => decide (key y ≤ key i))
def rOrd (key : Nat → Int) (n : Nat) : List Nat := (List.range n).foldl (rIns key) []
theorem rOrd_succ (key : Nat → Int) (n : Nat) : rOrd key (n + 1) = rIns key (rOrd key n) n := by simp [rOrd, List.range_succ]
theorem drop_head (key : Nat → Int) (i : Nat) : ∀ xs : List Nat, Srt key xs → ∀ y ∈ xs.dropWhile (fun y => decide (key y ≤ key i)), key i < key y
  | [], _, y, hy => by cases hy
  | x :: xs, hs, y, hy => by
    have hs' := List.pairwise_cons.1 hs
    by_cases h : key x ≤ key i
    · rw [List.dropWhile_cons_of_pos (by simpa using h)] at hy
      exact drop_head key i xs hs'.2 y hy
    · rw [List.dropWhile_cons_of_neg (by simpa using h)] at hy
      rcases List.mem_cons.1 hy with rfl | hy
      · omega
      · have := hs'.1 y hy
        unfold lexk at this; omega
theorem take_all (key : Nat → Int) (i : Nat) : ∀ xs : List Nat, ∀ y ∈ xs.takeWhile (fun y => decide (key y ≤ key i)), key y ≤ key i
  | [], y, hy => by cases hy
  | x :: xs, y, hy => by
    by_cases h : key x ≤ key i
    · rw [List.takeWhile_cons_of_pos (by simpa using h)] at hy
      rcases List.mem_cons.1 hy with rfl | hy
      · exact h
      · exact take_all key i xs y hy
    · rw [List.takeWhile_cons_of_neg (by simpa using h)] at hy
      cases hy
theorem rOrd_ok (key : Nat → Int) : ∀ n, IsS key 0 n (rOrd key n)
  | 0 => ⟨.refl _, List.Pairwise.nil⟩
  | n + 1 => by
    have ih := rOrd_ok key n
    rw [rOrd_succ]
    have hcut := List.takeWhile_append_dropWhile (p := fun y => decide (key y ≤ key n)) (l := rOrd key n)
    have h1 := take_all key n (rOrd key n)
    have h2 := drop_head key n (rOrd key n) ih.2
    have hp := ih.1
    have hs := ih.2
    have hm : ∀ y ∈ rOrd key n, y < n := fun y hy => by have := ih.mem hy; omega
    unfold rIns
    have hm1 : ∀ y ∈ (rOrd key n).takeWhile (fun y => decide (key y ≤ key n)), y < n := fun y hy => hm y (List.takeWhile_subset _ hy)
    rw [← hcut] at hp hs
    have hs' := List.pairwise_append.1 hs
    refine ⟨?_, List.pairwise_append.2 ⟨hs'.1, List.pairwise_cons.2 ⟨fun y hy => .inl (h2 y hy), hs'.2.1⟩, fun y hy z hz => ?_⟩⟩
    · rw [List.range'_1_concat, Nat.zero_add]
      exact List.perm_middle.trans ((List.perm_append_singleton _ _).symm.trans (hp.append_right [n]))
    · rcases List.mem_cons.1 hz with h | h
      · have a1 := h1 y hy
        have a2 := hm1 y hy
        rw [h]; unfold lexk; omega
      · exact hs'.2.2 y hy z h
theorem stable_is (key : Nat → Int) (n : Nat) (hn : n ≤ 64) : pStable key (List.range n) = rOrd key n := by
  have a := pStable_ok key n hn
  have b := rOrd_ok key n
  exact srt_uniq a.2 b.2 (a.1.trans b.1.symm)
end Go.Proofs.Ytdlalmbnkcadfaa
/- reference: Number. -/
namespace Go.Proofs.Ytdlalmbnkcadfaa
open Go.RowKit

set_option maxRecDepth 100000 in
theorem rNumber_any (A : Option Addr) (c k : Nat) (xs : List Int) (w : World) (hA : Is w A xs) :
    Calls Try.prog 56 #[.slice A xs.length c, .int .i64 (k : Int)] w fun e w' => e = .returned (.int .i64 (atI xs k 0)) ∧ w' = w := by
  by_cases h : k < xs.length
  · obtain ⟨b, o, rfl, e1⟩ := hA.at h
    have hr : Hid (atI xs k 0 = xs[k]) := by show _ = _; unfold atI; rw [List.getElem?_eq_getElem h]; rfl
    have t1 : (k : Int) < (xs.length : Int) := by omega
    go_enter Try.func56, Try.ntmps56
    go_wp2
    go_ret
    exact ⟨ret_int hr.out.symm, rfl⟩
  · have hr : Hid (atI xs k 0 = 0) := by show _ = _; unfold atI; rw [List.getElem?_eq_none (by omega)]; rfl
    have t1 : ¬ (k : Int) < (xs.length : Int) := by omega
    go_enter Try.func56, Try.ntmps56
    go_wp2
    go_ret
    exact ⟨ret_int hr.out.symm, rfl⟩
end Go.Proofs.Ytdlalmbnkcadfaa
