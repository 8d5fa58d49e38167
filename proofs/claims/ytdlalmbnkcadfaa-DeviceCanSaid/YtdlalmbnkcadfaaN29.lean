/- plain: what a crash leaves is possible; bytes of which one is of no write are not. -/
import Derived.Test.YtdlalmbnkcadfaaN19
import Derived.Test.YtdlalmbnkcadfaaM22
import Derived.Test.YtdlalmbnkcadfaaN18
namespace Go.Proofs.Ytdlalmbnkcadfaa
open Go.RowKit

theorem cpl_ge : ∀ (a b : BL) (m : Nat), m ≤ a.length → a.take m = b.take m → m ≤ cpl a b
  | _, _, 0, _, _ => Nat.zero_le _
  | [], _, m + 1, h, _ => by simp at h
  | x :: r, [], m + 1, _, h => by simp at h
  | x :: r, y :: s, m + 1, h, e => by
    simp only [List.take_succ_cons, List.cons.injEq] at e
    have := cpl_ge r s m (by simpa using h) e.2
    unfold cpl
    rw [if_pos e.1]
    omega
theorem cpl_at : ∀ (a b : BL) (i : Nat), i < cpl a b → a[i]? = b[i]?
  | [], _, i, h => by simp [cpl] at h
  | _ :: _, [], i, h => by simp [cpl] at h
  | x :: r, y :: s, i, h => by
    unfold cpl at h
    split at h
    · rename_i e
      cases i with
      | zero => simp [e]
      | succ i => simpa using cpl_at r s i (by omega)
    · omega
theorem pEnd_get {w now : BL} {k q : Nat} (h1 : k ≤ q) (h2 : q < pEnd w now k) : w[q]? = now[q]? := by
  unfold pEnd at h2
  have h := cpl_at _ _ (q - k) (by omega : q - k < cpl (w.drop k) (now.drop k))
  rw [List.getElem?_drop, List.getElem?_drop, show k + (q - k) = q by omega] at h
  exact h
theorem can_not {old now : BL} {q : Nat} {k : Nat} {left : List BL} (h : Can old now k left) : k ≤ q → (∀ x ∈ left, x[q]? ≠ now[q]?) → old[q]? ≠ now[q]? → False := by
  induction h with
  | @done k left h =>
    intro hk _ hne
    have e := congrArg (fun l : BL => l[q - k]?) h
    simp only [List.getElem?_drop, show k + (q - k) = q by omega] at e
    exact hne e
  | @step k e left rest x hp h1 h2 _ ih =>
    intro hk hl hne
    rcases Nat.lt_or_ge q e with h | h
    · exact hl x (hp.mem_iff.2 (List.mem_cons_self ..)) (pEnd_get hk (by omega))
    · exact ih h (fun y hy => hl y (hp.mem_iff.2 (List.mem_cons_of_mem _ hy))) hne

/-- A write gets to a block with a part. -/
def lay (b : BL) (q : BL × Nat) : BL := q.1.take q.2 ++ b.drop q.2
theorem lay_drop {b : BL} {q : BL × Nat} {k : Nat} (hk : q.2 ≤ k) (h : q.2 ≤ q.1.length) : (lay b q).drop k = b.drop k := by
  unfold lay
  have e : (q.1.take q.2).length = q.2 := by simp; omega
  rw [List.drop_append, List.drop_eq_nil_of_le (by omega), List.nil_append, e, List.drop_drop]
  congr 1
  omega
theorem lay_take {b : BL} {q : BL × Nat} (h : q.2 ≤ q.1.length) : (lay b q).take q.2 = q.1.take q.2 := by
  unfold lay
  have e : (q.1.take q.2).length = q.2 := by simp; omega
  rw [List.take_append_of_le_length (by omega), List.take_take, Nat.min_self]
theorem can_foldr {n : Nat} {old now : BL} (hn : now.length = n) : ∀ (r : List (BL × Nat)), (∀ q ∈ r, q.1.length = n ∧ q.2 ≤ n) → ∀ k, now.drop k = (r.foldr (fun q b => lay b q) old).drop k → Can old now k (r.map Prod.fst)
  | [], _, k, h => .done h.symm
  | q :: r, hr, k, h => by
    obtain ⟨h1, h2⟩ := hr q (List.mem_cons_self ..)
    have hr' : ∀ q ∈ r, q.1.length = n ∧ q.2 ≤ n := fun y hy => hr y (List.mem_cons_of_mem _ hy)
    rw [List.foldr_cons] at h
    rw [List.map_cons]
    rcases Nat.lt_or_ge k q.2 with hk | hk
    · refine .step (e := q.2) (List.Perm.refl _) hk ?_ (can_foldr hn r hr' q.2 ?_)
      · have : q.2 - k ≤ cpl (q.1.drop k) (now.drop k) := by
          refine cpl_ge _ _ _ (by simp; omega) ?_
          rw [h, ← List.drop_take, ← List.drop_take, lay_take (by omega)]
        unfold pEnd
        omega
      · rw [drop_more h (by omega : k ≤ q.2), lay_drop (Nat.le_refl _) (by omega)]
    · refine (can_foldr hn r hr' k (by rw [h, lay_drop hk (by omega)])).mono hn (fun x hx => ?_) k _ [q.1] (Nat.le_refl _) ?_
      · obtain ⟨y, hy, rfl⟩ := List.mem_map.1 hx
        exact (hr' y hy).1
      · exact (List.perm_append_comm (l₁ := [q.1]) (l₂ := r.map Prod.fst))
theorem can_foldl {n : Nat} {old now : BL} (hn : now.length = n) (l : List (BL × Nat)) (hl : ∀ q ∈ l, q.1.length = n ∧ q.2 ≤ n) (h : now = l.foldl lay old) : Can old now 0 (l.map Prod.fst) := by
  have e : l.foldl lay old = l.reverse.foldr (fun q b => lay b q) old := List.foldl_eq_foldr_reverse ..
  have hr : ∀ q ∈ l.reverse, q.1.length = n ∧ q.2 ≤ n := fun q hq => hl q (List.mem_reverse.1 hq)
  refine (can_foldr hn l.reverse hr 0 (by rw [h, e])).mono hn (fun x hx => ?_) 0 _ [] (Nat.le_refl _) ?_
  · obtain ⟨y, hy, rfl⟩ := List.mem_map.1 hx
    exact (hr y hy).1
  · rw [List.append_nil]
    exact ((List.reverse_perm l).symm.map _)

theorem blkB_get (bs : BL) (n i : Nat) (hi : i < 32) : (blkB bs n)[i]?.getD 0 = bs[n * 32 + i]?.getD 0 := by
  unfold blkB
  rw [List.getElem?_take, if_pos hi, List.getElem?_drop]
theorem lay_get (b : BL) (q : BL × Nat) (h : q.2 ≤ q.1.length) (i : Nat) : (lay b q)[i]?.getD 0 = if i < q.2 then q.1[i]?.getD 0 else b[i]?.getD 0 := by
  unfold lay
  have e : (q.1.take q.2).length = q.2 := by simp; omega
  split
  · rw [List.getElem?_append_left (by omega), List.getElem?_take, if_pos (by assumption)]
  · rw [List.getElem?_append_right (by omega), e, List.getElem?_drop]
    congr 2
    omega
theorem lay_len {b : BL} {q : BL × Nat} (h1 : q.2 ≤ q.1.length) (h2 : q.2 ≤ b.length) : (lay b q).length = b.length := by
  unfold lay
  simp
  omega
theorem blkB_put (bytes bs : BL) (k n part : Nat) (hb : bs.length = 32) (hp : part ≤ 32) (hk : k * 32 + 32 ≤ bytes.length) (hn : n * 32 + 32 ≤ bytes.length) :
    blkB (put1 bytes k bs part) n = if k = n then lay (blkB bytes n) (bs, part) else blkB bytes n := by
  have hl : (put1 bytes k bs part).length = bytes.length := put1_length _ _ _ _ (by omega) (by omega)
  have h32 : (blkB bytes n).length = 32 := blkB_len hn
  split
  · rename_i h
    subst h
    refine eq_of_gets 32 (blkB_len (by omega)) (by rw [lay_len (by simp; omega) (by simp; omega), h32]) fun i hi => ?_
    rw [blkB_get _ _ _ hi, put1_at _ _ _ _ (by omega) (by omega), lay_get _ _ (by simp; omega), blkB_get _ _ _ hi]
    simp only
    by_cases hc : i < part
    · rw [if_pos (by omega), if_pos hc]
      congr 2; omega
    · rw [if_neg (by omega), if_neg hc]
  · rename_i h
    refine eq_of_gets 32 (blkB_len (by omega)) h32 fun i hi => ?_
    rw [blkB_get _ _ _ hi, blkB_get _ _ _ hi, put1_at _ _ _ _ (by omega) (by omega), if_neg (by omega)]
/-- The writes of a block, with their parts, in the order. -/
def seqF (ws : List Wr) (part : List Int) (n : Nat) (j : Int) : Option (BL × Nat) := match ws[j.toNat]? with
  | some x => if x.blk = (n : Int) then some (x.bs, (part[j.toNat]?.getD 0).toNat) else none
  | none => none
theorem blkB_fold (nb n : Nat) (ws : List Wr) (part : List Int) (hok : ∀ x ∈ ws, okWr nb x = true) (hp : ∀ p ∈ part, 0 ≤ p ∧ p ≤ 32) (hn : n < nb) : ∀ (order : List Int) (bytes : BL), nb * 32 ≤ bytes.length →
    blkB (order.foldl (crStep ws part) bytes) n = (order.filterMap (seqF ws part n)).foldl lay (blkB bytes n)
  | [], _, _ => rfl
  | j :: r, bytes, hb => by
    have hl := crStep_length nb ws part bytes j hb hok hp
    rw [List.foldl_cons, blkB_fold nb n ws part hok hp hn r _ (by omega), List.filterMap_cons]
    unfold crStep seqF
    cases hx : ws[j.toNat]? with
    | none => rfl
    | some x =>
      obtain ⟨k, hk, hlt, hxl⟩ := okWr_iff (hok x (List.mem_of_getElem? hx))
      have hq : (part[j.toNat]?.getD 0).toNat ≤ 32 := by
        cases hp' : part[j.toNat]? with
        | none => simp
        | some p => have := hp p (List.mem_of_getElem? hp'); simp; omega
      simp only
      rw [hk, Int.toNat_natCast, blkB_put _ _ _ _ _ hxl hq (by omega) (by omega)]
      by_cases hkn : k = n
      · rw [if_pos hkn, if_pos (by omega), List.foldl_cons]
      · rw [if_neg hkn, if_neg (by omega)]
theorem seqF_ok {nb n : Nat} {ws : List Wr} {part : List Int} (hok : ∀ x ∈ ws, okWr nb x = true) (hp : ∀ p ∈ part, 0 ≤ p ∧ p ≤ 32) {order : List Int} : ∀ q ∈ order.filterMap (seqF ws part n), q.1.length = 32 ∧ q.2 ≤ 32 := fun q hq => by
  obtain ⟨j, _, hj⟩ := List.mem_filterMap.1 hq
  clear hq
  unfold seqF at hj
  cases hx : ws[j.toNat]? with
  | none => rw [hx] at hj; cases hj
  | some x =>
    obtain ⟨k, hk, hlt, hxl⟩ := okWr_iff (hok x (List.mem_of_getElem? hx))
    have hq : (part[j.toNat]?.getD 0).toNat ≤ 32 := by
      cases hp' : part[j.toNat]? with
      | none => simp
      | some p => have := hp p (List.mem_of_getElem? hp'); simp; omega
    rw [hx] at hj
    simp only at hj
    split at hj
    · simp only [Option.some.injEq] at hj
      subst hj
      exact ⟨hxl, hq⟩
    · cases hj
def wsF (n : Nat) (x : Wr) : Option BL := if x.blk = (n : Int) then some x.bs else none
theorem range_fm (ws : List Wr) (f : Wr → Option BL) : ∀ k, k ≤ ws.length → (List.range k).filterMap (fun i => ws[i]?.bind f) = (ws.take k).filterMap f
  | 0, _ => rfl
  | k + 1, h => by
    rw [List.range_succ, List.filterMap_append, range_fm ws f k (by omega), List.take_succ_eq_append_getElem (by omega), List.filterMap_append]
    congr 1
    simp only [List.filterMap_cons, List.filterMap_nil]
    rw [List.getElem?_eq_getElem (by omega)]
    rfl
theorem pWs_fm (n : Nat) : ∀ (l : List Wr), (l.filter fun x => x.blk == (n : Int)).map Wr.bs = l.filterMap (wsF n)
  | [] => rfl
  | x :: r => by
    have ih := pWs_fm n r
    rw [List.filter_cons, List.filterMap_cons]
    by_cases h : x.blk = (n : Int)
    · rw [if_pos (by simpa using h), List.map_cons, ih, show wsF n x = some x.bs from if_pos h]
    · rw [if_neg (by simpa using h), ih, show wsF n x = none from if_neg h]
theorem seq_perm (D : Dk) (part : List Int) (n : Nat) {order : List Int} (hp : order.Perm ((List.range D.pend.length).map fun i : Nat => (i : Int))) : (pWs D n).Perm ((order.filterMap (seqF D.pend part n)).map Prod.fst) := by
  rw [List.map_filterMap]
  have h := (hp.filterMap fun j => Option.map Prod.fst (seqF D.pend part n j)).symm
  refine List.Perm.trans (List.Perm.of_eq ?_) h
  rw [List.filterMap_map]
  unfold pWs
  rw [pWs_fm]
  have e := range_fm D.pend (wsF n) D.pend.length (Nat.le_refl _)
  rw [List.take_length] at e
  rw [← e]
  congr 1
  funext i
  simp only [Function.comp, seqF, Int.toNat_natCast]
  cases D.pend[i]? with
  | none => rfl
  | some x =>
    simp only [Option.bind_some, wsF]
    split <;> rfl
/-- What the power leaves is possible. -/
theorem crash_poss {D : Dk} {G : Ft} (hc : pCheck D = 0) (hG : pIsFate D.pend.length G = true) (n : Nat) (hn : n < D.bytes.length / 32) :
    pPoss1 (blkB D.bytes n) (blkB (pCr D.bytes D.pend G) n) (pWs D n) = true := by
  obtain ⟨_, _, _, _, hok⟩ := pCheck_ok hc
  obtain ⟨_, hp, hperm⟩ := pIsFate_ok hG
  have hl : (pCr D.bytes D.pend G).length = D.bytes.length := cr_length (D.bytes.length / 32) _ _ hok hp _ _ (by omega)
  have h32 : (blkB (pCr D.bytes D.pend G) n).length = 32 := blkB_len (by omega)
  unfold pPoss1
  refine (rReach_iff h32 _ 0 _ (pWs_32 hc n) (Nat.le_refl _)).2 ?_
  refine (can_foldl h32 _ (seqF_ok (n := n) hok hp) (blkB_fold (D.bytes.length / 32) n D.pend G.part hok hp hn G.order D.bytes (by omega))).mono h32 (fun x hx => ?_) 0 _ [] (Nat.le_refl _) ?_
  · obtain ⟨y, hy, rfl⟩ := List.mem_map.1 hx
    exact (seqF_ok hok hp y hy).1
  · rw [List.append_nil]
    exact seq_perm D G.part n hperm
theorem possE_len {D : Dk} {b c : BL} (h : b.length = c.length) : pPossE D b = pPossE D c := by unfold pPossE; rw [h]
theorem possE_or {D : Dk} (hc : pCheck D = 0) : pPossE D D.bytes = 0 ∨ pPossE D D.bytes = 5 := by
  unfold pPossE
  rw [if_pos hc, if_pos rfl]
  split
  · exact .inr rfl
  · exact .inl rfl
theorem poss_cr {D : Dk} {G : Ft} (hc : pCheck D = 0) (h0 : pPossE D D.bytes = 0) (hG : pIsFate D.pend.length G = true) : pPossE D (pCr D.bytes D.pend G) = 0 ∧ pPossR D (pCr D.bytes D.pend G) = true := by
  obtain ⟨_, _, _, _, hok⟩ := pCheck_ok hc
  obtain ⟨_, hp, hperm⟩ := pIsFate_ok hG
  have hl : (pCr D.bytes D.pend G).length = D.bytes.length := cr_length (D.bytes.length / 32) _ _ hok hp _ _ (by omega)
  have e := (possE_len (D := D) hl).trans h0
  refine ⟨e, ?_⟩
  unfold pPossR
  rw [e, Bool.and_eq_true, List.all_eq_true]
  exact ⟨by simp, fun n hn => crash_poss hc hG n (List.mem_range.1 hn)⟩
theorem poss_old {D : Dk} (hc : pCheck D = 0) (h0 : pPossE D D.bytes = 0) : pPossR D D.bytes = true := by
  have hi := allF_is D.pend.length 0 (by omega)
  have h := (poss_cr hc h0 hi).2
  rwa [cr_nothing] at h
theorem poss_fl {D : Dk} (hc : pCheck D = 0) (h0 : pPossE D D.bytes = 0) : pPossE D (pFl D.bytes D.pend) = 0 ∧ pPossR D (pFl D.bytes D.pend) = true := by
  have hi := allF_is D.pend.length 32 (by omega)
  have h := poss_cr hc h0 hi
  rwa [cr_whole] at h
/-- Bytes of which one is of no write are not possible. -/
theorem poss_odd {D : Dk} (hc : pCheck D = 0) {p : Nat} (hp : p < D.bytes.length) {b : UInt8} (h1 : D.bytes[p] ≠ b) (h2 : ∀ x ∈ D.pend, hitB p b x = false) : pPossR D (D.bytes.set p b) = false := by
  obtain ⟨hr, _, _, _, hok⟩ := pCheck_ok hc
  rw [← Bool.not_eq_true]
  intro h
  unfold pPossR at h
  rw [Bool.and_eq_true, List.all_eq_true] at h
  have hlt : p / 32 < D.bytes.length / 32 := by omega
  have h := h.2 (p / 32) (List.mem_range.2 hlt)
  have h32 : (blkB (D.bytes.set p b) (p / 32)).length = 32 := blkB_len (by simp; omega)
  unfold pPoss1 at h
  have hcan := (rReach_iff h32 _ 0 _ (pWs_32 hc _) (Nat.le_refl _)).1 h
  have hq : p % 32 < 32 := by omega
  have e1 : (blkB (D.bytes.set p b) (p / 32))[p % 32]? = some b := by
    unfold blkB
    rw [List.getElem?_take, if_pos hq, List.getElem?_drop, show p / 32 * 32 + p % 32 = p by omega, List.getElem?_set_self hp]
  have e2 : (blkB D.bytes (p / 32))[p % 32]? = some D.bytes[p] := by
    unfold blkB
    rw [List.getElem?_take, if_pos hq, List.getElem?_drop, show p / 32 * 32 + p % 32 = p by omega, List.getElem?_eq_getElem hp]
  refine can_not hcan (Nat.zero_le (p % 32)) (fun x hx => ?_) ?_
  · rw [e1]
    obtain ⟨y, hy, rfl⟩ := List.mem_map.1 hx
    obtain ⟨hy1, hy2⟩ := List.mem_filter.1 hy
    obtain ⟨k, hk, _, hl⟩ := okWr_iff (hok y hy1)
    intro he
    have hh := h2 y hy1
    unfold hitB at hh
    rw [he] at hh
    have hb : y.blk = ((p / 32 : Nat) : Int) := by simpa using hy2
    rw [decide_eq_true hb, decide_eq_true hl] at hh
    simp at hh
  · rw [e1, e2]
    simpa using h1

/-- Numbers that are not in a short list. -/
theorem pig : ∀ (N : Nat) (l : List Nat), l.length < N → ∃ n, n < N ∧ n ∉ l
  | 0, l, h => by omega
  | N + 1, l, h => by
    by_cases hm : N ∈ l
    · have hlt : (l.filter fun x => x != N).length < l.length := by
        rcases Nat.lt_or_ge (l.filter fun x => x != N).length l.length with h' | h'
        · exact h'
        · have he : (l.filter fun x => x != N).length = l.length := Nat.le_antisymm (List.length_filter_le ..) h'
          have := List.length_filter_eq_length_iff.1 he N hm
          simp at this
      obtain ⟨n, hn, hnl⟩ := pig N (l.filter fun x => x != N) (by omega)
      exact ⟨n, by omega, fun hc => hnl (List.mem_filter.2 ⟨hc, by simp; omega⟩)⟩
    · exact ⟨N, by omega, hm⟩
/-- The bytes that are used at a place: the row of bools behind k writes. -/
def usedS (D : Dk) (p k : Nat) : List Nat := (D.bytes[p]?.getD 0).toNat :: (D.pend.take k).filterMap fun x => if x.blk = ((p / 32 : Nat) : Int) then some (x.bs[p % 32]?.getD 0).toNat else none
def usedU (l : List Nat) : List Bool := l.foldl (fun u v => u.set v true) (List.replicate 256 false)
theorem setAll_len : ∀ (l : List Nat) (u : List Bool), (l.foldl (fun u v => u.set v true) u).length = u.length
  | [], _ => rfl
  | v :: r, u => by rw [List.foldl_cons, setAll_len r, List.length_set]
theorem usedU_len (l : List Nat) : (usedU l).length = 256 := by unfold usedU; rw [setAll_len, List.length_replicate]
theorem setAll_at (i : Nat) : ∀ (l : List Nat) (u : List Bool), u.length = 256 → i < 256 → ((l.foldl (fun u v => u.set v true) u)[i]?.getD false = true ↔ (u[i]?.getD false = true ∨ i ∈ l))
  | [], u, _, _ => by simp
  | v :: r, u, hu, hi => by
    rw [List.foldl_cons, setAll_at i r _ (by simpa using hu) hi, List.mem_cons, List.getElem?_set]
    by_cases h : v = i
    · subst h; simp [hu, hi]
    · rw [if_neg h]
      have : ¬ i = v := fun h' => h h'.symm
      simp [this]
theorem usedU_at (l : List Nat) (i : Nat) (hi : i < 256) : (usedU l)[i]?.getD false = true ↔ i ∈ l := by
  unfold usedU
  rw [setAll_at i l _ List.length_replicate hi, List.getElem?_replicate, if_pos hi]
  simp
theorem usedU_snoc (l : List Nat) (v : Nat) : usedU (l ++ [v]) = (usedU l).set v true := by unfold usedU; rw [List.foldl_append]; rfl
theorem usedS_zero (D : Dk) (p : Nat) : usedS D p 0 = [(D.bytes[p]?.getD 0).toNat] := by simp [usedS]
theorem usedS_hit {D : Dk} {p k : Nat} (hk : k < D.pend.length) (h : D.pend[k].blk = ((p / 32 : Nat) : Int)) : usedS D p (k + 1) = usedS D p k ++ [(D.pend[k].bs[p % 32]?.getD 0).toNat] := by
  unfold usedS
  rw [List.take_succ_eq_append_getElem hk, List.filterMap_append, List.cons_append]
  rw [List.filterMap_cons, if_pos h, List.filterMap_nil]
theorem usedS_not {D : Dk} {p k : Nat} (hk : k < D.pend.length) (h : ¬ D.pend[k].blk = ((p / 32 : Nat) : Int)) : usedS D p (k + 1) = usedS D p k := by
  unfold usedS
  rw [List.take_succ_eq_append_getElem hk, List.filterMap_append]
  rw [List.filterMap_cons, if_neg h, List.filterMap_nil, List.append_nil]
theorem usedS_len (D : Dk) (p k : Nat) (h : D.pend.length ≤ 64) : (usedS D p k).length ≤ 65 := by
  unfold usedS
  have := List.length_filterMap_le (fun x : Wr => if x.blk = ((p / 32 : Nat) : Int) then some (x.bs[p % 32]?.getD 0).toNat else none) (D.pend.take k)
  simp only [List.length_cons, List.length_take] at *
  omega
/-- The odd bytes behind n rounds. -/
def oddB (us : List Bool) (p : Nat) (b : BL) : Nat → BL
  | 0 => b
  | n + 1 => if us[n]?.getD false = true then oddB us p b n else (oddB us p b n).set p (UInt8.ofNat n)
theorem oddB_len (us : List Bool) (p : Nat) (b : BL) : ∀ n, (oddB us p b n).length = b.length
  | 0 => rfl
  | n + 1 => by
    unfold oddB
    split
    · exact oddB_len us p b n
    · rw [List.length_set]; exact oddB_len us p b n
theorem oddB_is (us : List Bool) (p : Nat) (b : BL) : ∀ n, (oddB us p b n = b ∧ ∀ i, i < n → us[i]?.getD false = true) ∨ ∃ i, i < n ∧ ¬ us[i]?.getD false = true ∧ oddB us p b n = b.set p (UInt8.ofNat i)
  | 0 => .inl ⟨rfl, fun i h => by omega⟩
  | n + 1 => by
    unfold oddB
    split
    · rename_i hu
      rcases oddB_is us p b n with ⟨h1, h2⟩ | ⟨i, h1, h2, h3⟩
      · refine .inl ⟨h1, fun i hi => ?_⟩
        rcases Nat.lt_or_ge i n with h | h
        · exact h2 i h
        · obtain rfl : i = n := by omega
          exact hu
      · exact .inr ⟨i, by omega, h2, h3⟩
    · rename_i hu
      refine .inr ⟨n, by omega, hu, ?_⟩
      rcases oddB_is us p b n with ⟨h1, _⟩ | ⟨i, _, _, h3⟩
      · rw [h1]
      · rw [h3, List.set_set]
/-- The odd bytes of the law. -/
def oddD (D : Dk) (p : Nat) : BL := oddB (usedU (usedS D p D.pend.length)) p D.bytes 256
theorem oddD_not {D : Dk} (hc : pCheck D = 0) {p : Nat} (hp : p < D.bytes.length) : pPossR D (oddD D p) = false := by
  obtain ⟨_, _, _, h64, hok⟩ := pCheck_ok hc
  obtain ⟨m, hm, hml⟩ := pig 256 (usedS D p D.pend.length) (by have := usedS_len D p D.pend.length h64; omega)
  unfold oddD
  rcases oddB_is (usedU (usedS D p D.pend.length)) p D.bytes 256 with ⟨_, h2⟩ | ⟨i, hi, hu, he⟩
  · exact absurd ((usedU_at _ m hm).1 (h2 m hm)) hml
  · rw [he]
    have hni : i ∉ usedS D p D.pend.length := fun h => hu ((usedU_at _ i hi).2 h)
    have hto : (UInt8.ofNat i).toNat = i := by simp [UInt8.toNat_ofNat']; omega
    unfold usedS at hni
    rw [List.take_length] at hni
    refine poss_odd hc hp (fun h => hni (List.mem_cons.2 (.inl ?_))) fun x hx => ?_
    · rw [List.getElem?_eq_getElem hp, h, Option.getD_some, hto]
    · rw [← Bool.not_eq_true]
      intro h
      unfold hitB at h
      simp only [Bool.and_eq_true, decide_eq_true_eq, beq_iff_eq] at h
      obtain ⟨⟨hb, _⟩, hv⟩ := h
      refine hni (List.mem_cons.2 (.inr (List.mem_filterMap.2 ⟨x, hx, ?_⟩)))
      rw [if_pos hb, hv, hto]
end Go.Proofs.Ytdlalmbnkcadfaa
/- The contracts that DeviceCan calls; a row of bools. -/
namespace Go.Proofs.Ytdlalmbnkcadfaa
open Go.RowKit

theorem crashH_any (G : Ft) (X : BL) (A P FA FP : Option Addr) (c p fc fd : Nat) (D : Dk) (w : World) (hX : pCr D.bytes D.pend G = X) (hG : pIsFate D.pend.length G = true) (h1 : G.order.length = D.pend.length) (h2 : G.part.length = D.pend.length) (hck : pCheck D = 0) (hA : By w A D.bytes) (hP : Ws w P D.pend)
    (hFA : Is w FA G.order) (hFP : Is w FP G.part) (hsm : Small D) :
    Calls Try.prog 27 #[.agg #[.slice A D.bytes.length c, .slice P D.pend.length p], .agg #[.slice FA D.pend.length fc, .slice FP D.pend.length fd]] w fun e w' =>
      ∃ A' P' c' p', e = .returned (.tuple #[.agg #[.slice A' X.length c', .slice P' 0 p'], .int .i64 0]) ∧ Ext w w' ∧ By w' A' X ∧ X.length ≤ c' := by
  have e0 : pCrash D G = 0 := by
    unfold pCrash
    rw [if_pos hck, if_pos hG]
  have h := crashF_any A P FA FP c p fc fd D G w hA hP hFA hFP hsm ⟨by have := hsm.2.1; omega, by have := hsm.2.1; omega⟩
  rw [h1, h2] at h
  refine h.mono ?_
  rintro e w' hr
  obtain ⟨v, rfl, hE, h3⟩ := hr.retV
  rw [e0] at h3 ⊢
  obtain ⟨A7, c7, P7, p7, rfl, hc7, hA7, _, hP7⟩ := h3
  unfold resD pCrashD at hA7 hc7 ⊢
  rw [if_pos rfl] at hA7 hc7 ⊢
  rw [hX] at hA7 hc7 ⊢
  exact ⟨A7, P7, c7, p7, rfl, hE, hA7, hc7⟩
theorem flushH_any (A P : Option Addr) (c p : Nat) (D : Dk) (w : World) (hck : pCheck D = 0) (hA : By w A D.bytes) (hP : Ws w P D.pend) (hsm : Small D) :
    Calls Try.prog 33 #[.agg #[.slice A D.bytes.length c, .slice P D.pend.length p]] w fun e w' =>
      ∃ A' P' c' p', e = .returned (.tuple #[.agg #[.slice A' (pFl D.bytes D.pend).length c', .slice P' 0 p'], .int .i64 0]) ∧ Ext w w' ∧ By w' A' (pFl D.bytes D.pend) ∧ (pFl D.bytes D.pend).length ≤ c' := by
  refine (flushF_any A P c p D w hA hP hsm).mono ?_
  rintro e w' hr
  have e0 : pFlush D = 0 := by rw [pFlush_eq]; exact hck
  have e1 : pFlushD D = ⟨pFl D.bytes D.pend, []⟩ := rfl
  obtain ⟨v, rfl, hE, h3⟩ := hr.retV
  rw [e0, e1] at h3
  rw [e0]
  obtain ⟨A7, c7, P7, p7, rfl, hc7, hA7, _, hP7⟩ := h3
  unfold resD at hA7 hc7 ⊢
  rw [if_pos rfl] at hA7 hc7 ⊢
  exact ⟨A7, P7, c7, p7, rfl, hE, hA7, hc7⟩
theorem possA_any (A P B : Option Addr) (c p d : Nat) (D : Dk) (b : BL) (r : Bool) (er : Int) (w : World) (he : pPossE D b = er) (hr : pPossR D b = r) (hA : By w A D.bytes) (hP : Ws w P D.pend) (hB : By w B b) (hsm : Small D) (hbd : b.length ≤ d) (hbl : b.length ≤ 100000) :
    Calls Try.prog 29 #[.agg #[.slice A D.bytes.length c, .slice P D.pend.length p], .slice B b.length d] w fun e w' => e = .returned (.tuple #[.bool r, .int .i64 er]) ∧ Ext w w' := by
  subst he hr
  exact possF_any A P B c p d D b w hA hP hB hsm hbd hbl
theorem info_bool : (Try.prog.info? 4).map (fun i => (i.zero, i.size, i.bytes)) = some (some (.bool false), 1, 1) := by kernel_rfl
theorem mkB (w : World) : (Instr.makeSlice 56 (.int .i64 256) (.int .i64 256)).run Try.prog w =
    .ok (.slice (some ⟨w.heap.size, 0, none⟩) 256 256) (w.alloc (.cells (Array.replicate 256 (.bool false)) 4)) := by
  obtain ⟨i, hi, hz, hs, hb⟩ := info_parts info_bool
  have h := run_make w 56 4 i (.bool false) Try.underlying56 hi hz .i64 .i64 (256 : Nat) (256 : Nat) (by omega) (by omega) (by rw [hb]; omega) (by omega)
  rw [hs] at h
  refine Eq.trans h ?_
  have : madeCells (Value.bool false).cells (((256 : Nat) : Int).toNat * 1) = Array.replicate 256 (.bool false) := by
    apply Array.ext
    · simp [size_madeCells]
    · intro k h1 h2
      simp [madeCells, Value.cells, Nat.mod_one]
  rw [this]
  rfl
/-- A row of bools in a block of its own. -/
def UB (w : World) (g : Nat) (us : List Bool) : Prop := Bk w g (us.map Value.bool).toArray 4
theorem UB.new {w : World} {g : Nat} (h : Bk w g (Array.replicate 256 (.bool false)) 4) : UB w g (List.replicate 256 false) := by
  unfold UB
  rw [List.map_replicate, List.toArray_replicate]
  exact h
theorem UB.ext {w w' : World} {g : Nat} {us : List Bool} (h : UB w g us) (e : Ext w w') : UB w' g us := Bk.ext h e
theorem UB.set {w : World} {g : Nat} {us : List Bool} (h : UB w g us) (i : Nat) (b : Bool) : UB (w.setCell ⟨g, i, none⟩ (.bool b)) g (us.set i b) := by
  have := Bk.set h i (.bool b)
  unfold UB
  rw [List.map_set, ← List.setIfInBounds_toArray]
  exact this
theorem UB.cell {w : World} {g : Nat} {us : List Bool} (h : UB w g us) {i : Nat} (hi : i < us.length) : w.cell? ⟨g, i, none⟩ = some (.bool (us[i]?.getD false)) := by
  rw [Bk.cell h i]
  simp [hi]
theorem UB.frozen {w : World} {g : Nat} {us : List Bool} (h : UB w g us) (i : Nat) : w.frozen? ⟨g, i, none⟩ = false := Bk.frozen h i
/-- The bytes of a device on which none waits, and no error; it alone; what a byte's row can hold. -/
def SV.tuc (X : BL) : SV := ⟨fun v w => ∃ A P c p, v = .tuple #[.agg #[.slice A X.length c, .slice P 0 p], .int .i64 0] ∧ By w A X ∧ X.length ≤ c, fun ⟨A, P, c, p, h1, h2, h3⟩ e => ⟨A, P, c, p, h1, h2.ext e, h3⟩⟩
def SV.dxc (X : BL) : SV := ⟨fun v w => ∃ A P c p, v = .agg #[.slice A X.length c, .slice P 0 p] ∧ By w A X ∧ X.length ≤ c, fun ⟨A, P, c, p, h1, h2, h3⟩ e => ⟨A, P, c, p, h1, h2.ext e, h3⟩⟩
end Go.Proofs.Ytdlalmbnkcadfaa
