/- plain: what a crash leaves of each byte; the fate that Fit makes is one. -/
import Derived.Test.YtdlalmbnkcadfaaN16
import Derived.Test.YtdlalmbnkcadfaaN11
namespace Go.Proofs.Ytdlalmbnkcadfaa
open Go.RowKit

/-- A write has this byte at place i. -/
def hitB (i : Nat) (b : UInt8) (x : Wr) : Bool := decide (x.blk = ((i / 32 : Nat) : Int)) && decide (x.bs.length = 32) && (x.bs[i % 32]?.getD 0 == b)
theorem put1_at (bytes : BL) (blk : Nat) (bs : BL) (part : Nat) (h1 : part ≤ bs.length) (h2 : blk * 32 + part ≤ bytes.length) (i : Nat) :
    (put1 bytes blk bs part)[i]?.getD 0 = if blk * 32 ≤ i ∧ i < blk * 32 + part then bs[i - blk * 32]?.getD 0 else bytes[i]?.getD 0 := by
  unfold put1
  have e1 : (bytes.take (blk * 32)).length = blk * 32 := by simp; omega
  have e2 : (bs.take part).length = part := by simp; omega
  by_cases ha : i < blk * 32
  · rw [List.append_assoc, List.getElem?_append_left (by omega), if_neg (by omega), List.getElem?_take, if_pos ha]
  · by_cases hb : i < blk * 32 + part
    · rw [List.append_assoc, List.getElem?_append_right (by omega), e1, List.getElem?_append_left (by omega), if_pos (by omega), List.getElem?_take, if_pos (by omega)]
    · rw [List.getElem?_append_right (by simp; omega), if_neg (by omega), List.getElem?_drop]
      congr 2
      simp
      omega
theorem crStep_at (nb : Nat) (ws : List Wr) (part : List Int) (b : BL) (j : Int) (hn : nb * 32 ≤ b.length) (hok : ∀ x ∈ ws, okWr nb x = true) (hp : ∀ p ∈ part, 0 ≤ p ∧ p ≤ 32) (i : Nat) :
    (crStep ws part b j)[i]?.getD 0 = b[i]?.getD 0 ∨ ws.any (hitB i ((crStep ws part b j)[i]?.getD 0)) = true := by
  unfold crStep
  cases hx : ws[j.toNat]? with
  | none => exact .inl rfl
  | some x =>
    obtain ⟨k, hk, hlt, hl⟩ := okWr_iff (hok x (List.mem_of_getElem? hx))
    have hq : (part[j.toNat]?.getD 0).toNat ≤ 32 := by
      cases hp' : part[j.toNat]? with
      | none => simp
      | some p => have := hp p (List.mem_of_getElem? hp'); simp; omega
    simp only
    have h := put1_at b x.blk.toNat x.bs (part[j.toNat]?.getD 0).toNat (by omega) (by rw [hk]; simp; omega) i
    rw [h]
    split
    · rename_i hc
      right
      refine List.any_eq_true.2 ⟨x, List.mem_of_getElem? hx, ?_⟩
      rw [hk] at hc ⊢
      simp only [Int.toNat_natCast] at hc ⊢
      unfold hitB
      have e1 : i / 32 = k := by omega
      have e2 : i % 32 = i - k * 32 := by omega
      rw [hk, e1, e2, hl]
      simp
    · exact .inl rfl
theorem pCr_at (nb : Nat) (ws : List Wr) (part : List Int) (hok : ∀ x ∈ ws, okWr nb x = true) (hp : ∀ p ∈ part, 0 ≤ p ∧ p ≤ 32) (i : Nat) : ∀ (order : List Int) (b : BL), nb * 32 ≤ b.length →
    (order.foldl (crStep ws part) b)[i]?.getD 0 = b[i]?.getD 0 ∨ ws.any (hitB i ((order.foldl (crStep ws part) b)[i]?.getD 0)) = true
  | [], b, _ => .inl rfl
  | j :: r, b, hn => by
    rw [List.foldl_cons]
    have hl := crStep_length nb ws part b j hn hok hp
    rcases pCr_at nb ws part hok hp i r (crStep ws part b j) (by omega) with h | h
    · rcases crStep_at nb ws part b j hn hok hp i with h' | h'
      · exact .inl (h.trans h')
      · right; rw [h]; exact h'
    · exact .inr h
theorem pCr_len (nb : Nat) (ws : List Wr) (part : List Int) (hok : ∀ x ∈ ws, okWr nb x = true) (hp : ∀ p ∈ part, 0 ≤ p ∧ p ≤ 32) : ∀ (order : List Int) (b : BL), nb * 32 ≤ b.length → (order.foldl (crStep ws part) b).length = b.length
  | [], b, _ => rfl
  | j :: r, b, hn => by
    rw [List.foldl_cons]
    have hl := crStep_length nb ws part b j hn hok hp
    rw [pCr_len nb ws part hok hp r _ (by omega), hl]
theorem fitFt_len (F : Ft) (n : Nat) (hn : n ≤ 64) : (fitFt F n).order.length = n ∧ (fitFt F n).part.length = n := by
  have e : pFit (n : Int) = 0 := if_pos (by omega)
  unfold fitFt pFo pFp
  simp only [if_pos e, Int.toNat_natCast, List.length_map]
  rw [(rOrd_ok (fkey F) n).len, List.length_range]
  exact ⟨rfl, rfl⟩
theorem fitFt_part (F : Ft) (n : Int) : ∀ p ∈ (fitFt F n).part, 0 ≤ p ∧ p ≤ 32 := fun p hp => by
  unfold fitFt pFp at hp
  simp only at hp
  split at hp
  · obtain ⟨q, hq, rfl⟩ := List.mem_map.1 hp
    obtain ⟨r, _, rfl⟩ := List.mem_map.1 hq
    have := fPart_lt F.part r
    omega
  · simp at hp
theorem fitFt_is (F : Ft) (n : Nat) (hn : n ≤ 64) : pIsFate n (fitFt F n) = true := by
  rw [← rIsF_eq]
  unfold rIsF
  obtain ⟨h1, h2⟩ := fitFt_len F n hn
  simp only [Bool.and_eq_true, decide_eq_true_eq, List.all_eq_true, List.mem_range, rOne]
  refine ⟨⟨h1, h2⟩, fun i hi => ?_⟩
  have hp : (fitFt F n).order.Perm ((List.range n).map fun i : Nat => (i : Int)) := by
    have e : pFit (n : Int) = 0 := if_pos (by omega)
    unfold fitFt pFo
    simp only [if_pos e, Int.toNat_natCast]
    rw [List.range_eq_range']
    exact ((rOrd_ok (fkey F) n).1).map _
  rw [hp.count_eq, range_count n i hi]
  have hm : (fitFt F n).part.getD i 0 ∈ (fitFt F n).part := by
    rw [List.getD_eq_getElem?_getD, List.getElem?_eq_getElem (by omega)]
    exact List.getElem_mem _
  exact ⟨⟨rfl, (fitFt_part F n _ hm).1⟩, (fitFt_part F n _ hm).2⟩
theorem fitW_any (A P : Option Addr) (c d n : Nat) (F : Ft) (w : World) (hA : Is w A F.order) (hP : Is w P F.part) (hn : n ≤ 64) :
    Calls Try.prog 22 #[.agg #[.slice A F.order.length c, .slice P F.part.length d], .int .i64 (n : Int)] w fun e w' =>
      ∃ A' c' P' d', e = .returned (.tuple #[.agg #[.slice A' n c', .slice P' n d'], .int .i64 0]) ∧ Ext w w' ∧ Is w' A' (fitFt F n).order ∧ Is w' P' (fitFt F n).part := by
  refine (fitF_any A P c d n F w hA hP).mono ?_
  rintro e w' hr
  obtain ⟨A3, c3, P3, d3, rfl, hE4, hA3, hP3⟩ := hr.ft
  obtain ⟨h1, h2⟩ := fitFt_len F n hn
  have e1 : (pFo F (n : Int)).length = n := by have h := h1; simp only [fitFt, List.length_map] at h; exact h
  have e2 : (pFp F (n : Int)).length = n := by have h := h2; simp only [fitFt, List.length_map] at h; exact h
  rw [e1, e2, show pFit (n : Int) = 0 from if_pos (by omega)]
  exact ⟨A3, c3, P3, d3, rfl, hE4, hA3, hP3⟩
theorem crashG_any (G : Ft) (X : BL) (A P FA FP : Option Addr) (c p fc fd : Nat) (D : Dk) (w : World) (hX : pCr D.bytes D.pend G = X) (hG : pIsFate D.pend.length G = true) (h1 : G.order.length = D.pend.length) (h2 : G.part.length = D.pend.length) (hck : pCheck D = 0) (hA : By w A D.bytes) (hP : Ws w P D.pend)
    (hFA : Is w FA G.order) (hFP : Is w FP G.part) (hsm : Small D) :
    Calls Try.prog 27 #[.agg #[.slice A D.bytes.length c, .slice P D.pend.length p], .agg #[.slice FA D.pend.length fc, .slice FP D.pend.length fd]] w fun e w' =>
      ∃ A' P' c' p', e = .returned (.tuple #[.agg #[.slice A' X.length c', .slice P' 0 p'], .int .i64 0]) ∧ Ext w w' ∧ By w' A' X := by
  have e0 : pCrash D G = 0 := by
    unfold pCrash
    rw [if_pos hck, if_pos hG]
  have h := crashF_any A P FA FP c p fc fd D G w hA hP hFA hFP hsm ⟨by have := hsm.2.1; omega, by have := hsm.2.1; omega⟩
  rw [h1, h2] at h
  refine h.mono ?_
  rintro e w' hr
  obtain ⟨v, rfl, hE, h3⟩ := hr.retV
  rw [e0] at h3 ⊢
  obtain ⟨A7, c7, P7, p7, rfl, _, hA7, _, hP7⟩ := h3
  unfold resD pCrashD at hA7 ⊢
  rw [if_pos rfl] at hA7 ⊢
  rw [hX] at hA7 ⊢
  exact ⟨A7, P7, c7, p7, rfl, hE, hA7⟩
end Go.Proofs.Ytdlalmbnkcadfaa
