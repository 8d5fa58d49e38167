/- plain: what is read behind a write that was put; the contracts that DeviceSees calls. -/
import Derived.Test.YtdlalmbnkcadfaaN13
import Derived.Test.YtdlalmbnkcadfaaN08
import Derived.Test.YtdlalmbnkcadfaaN17
namespace Go.Proofs.Ytdlalmbnkcadfaa
open Go.RowKit

theorem blkN_get (bs : BL) (n i : Nat) (hi : i < 32) : (blkN bs n)[i]?.getD 0 = bs[32 * n + i]?.getD 0 := by
  unfold blkN
  rw [List.getElem?_take, if_pos hi, List.getElem?_drop]
theorem blkN_len (bs : BL) (n : Nat) (h : 32 * n + 32 ≤ bs.length) : (blkN bs n).length = 32 := by unfold blkN; simp; omega
theorem eq_of_gets {a b : BL} (n : Nat) (ha : a.length = n) (hb : b.length = n) (h : ∀ i, i < n → a[i]?.getD 0 = b[i]?.getD 0) : a = b := by
  refine List.ext_getElem (by omega) fun i h1 h2 => ?_
  have := h i (by omega)
  rwa [List.getElem?_eq_getElem h1, List.getElem?_eq_getElem h2] at this
theorem blkN_put (bytes bs : BL) (k n : Nat) (hb : bs.length = 32) (hk : 32 * k + 32 ≤ bytes.length) (hn : 32 * n + 32 ≤ bytes.length) : blkN (put1 bytes k bs 32) n = if n = k then bs else blkN bytes n := by
  have hl : (put1 bytes k bs 32).length = bytes.length := put1_length _ _ _ _ (by omega) (by omega)
  split
  · rename_i h
    subst h
    refine eq_of_gets 32 (blkN_len _ _ (by omega)) hb fun i hi => ?_
    rw [blkN_get _ _ _ hi, put1_at _ _ _ _ (by omega) (by omega), if_pos (by omega)]
    congr 2; omega
  · rename_i h
    refine eq_of_gets 32 (blkN_len _ _ (by omega)) (blkN_len _ _ (by omega)) fun i hi => ?_
    rw [blkN_get _ _ _ hi, blkN_get _ _ _ hi, put1_at _ _ _ _ (by omega) (by omega), if_neg (by omega)]
/-- A device on which a write more waits. -/
def putD (D : Dk) (x : Wr) : Dk := ⟨D.bytes, D.pend ++ [x]⟩
theorem put_ok_d {D : Dk} {x : Wr} (hx : okWr (D.bytes.length / 32) x = true) (hl : D.pend.length < 64) : pDoD D 1 x = putD D x := by
  unfold pDoD pPutD pPutE putD
  rw [if_pos rfl, if_pos (by rw [if_pos hx, if_neg (by omega)])]
section
variable {D : Dk} {x : Wr} (hck : pCheck D = 0) (hx : okWr (D.bytes.length / 32) x = true) (hl : D.pend.length < 64)
include hck hx hl
theorem put_ok_e : pPut D x = 0 := by
  unfold pPut pDo pDoE pPutE
  rw [if_pos hck, if_pos rfl, if_pos hx, if_neg (by omega)]
theorem put_ok_c : pCheck (putD D x) = 0 := by
  obtain ⟨h1, h2, h3, h4, h5⟩ := pCheck_ok hck
  unfold pCheck putD
  simp only [List.length_append, List.length_singleton, List.all_append]
  rw [if_neg (by omega), if_neg (by omega), if_pos]
  rw [Bool.and_eq_true]
  exact ⟨List.all_eq_true.2 h5, by simp [hx]⟩
end
theorem pFl_put (D : Dk) (x : Wr) : pFl (putD D x).bytes (putD D x).pend = put1 (pFl D.bytes D.pend) x.blk.toNat x.bs 32 := pFl_snoc _ _ _
theorem put_sees {D : Dk} {x : Wr} (hck : pCheck D = 0) (hx : okWr (D.bytes.length / 32) x = true) (n : Nat) (hn : n < D.bytes.length / 32) :
    blkN (pFl (putD D x).bytes (putD D x).pend) n = if (n : Int) = x.blk then x.bs else blkN (pFl D.bytes D.pend) n := by
  obtain ⟨h1, h2, h3, h4, h5⟩ := pCheck_ok hck
  obtain ⟨k, hk, hkn, hkl⟩ := okWr_iff hx
  have hl : (pFl D.bytes D.pend).length = D.bytes.length := pFl_len h5
  rw [pFl_put, hk, Int.toNat_natCast, blkN_put _ _ _ _ hkl (by omega) (by omega)]
  by_cases h : n = k
  · subst h; simp
  · rw [if_neg h, if_neg (by omega)]
theorem one_of {l : List Nat} (hn : l.Nodup) {k : Nat} (h : ∀ y ∈ l, y = k) : l = [] ∨ l = [k] := by
  match l, hn, h with
  | [], _, _ => exact .inl rfl
  | [y], _, h => exact .inr (by rw [h y (by simp)])
  | y :: z :: r, hn, h =>
    have h1 := h y (by simp)
    have h2 := h z (by simp)
    rw [h1, h2] at hn
    simp at hn
theorem put_differs {D : Dk} {x : Wr} (hck : pCheck D = 0) (hx : okWr (D.bytes.length / 32) x = true) (hl : D.pend.length < 64) : pDifE D (putD D x) = 0 ∧ (pDifL D (putD D x) = [] ∨ ∃ k : Nat, pDifL D (putD D x) = [k] ∧ x.blk = (k : Int)) := by
  have he : pDifE D (putD D x) = 0 := by
    unfold pDifE
    rw [if_neg (by simp [hck]), if_neg (by simp [put_ok_c hck hx hl]), if_neg (by simp [putD])]
  refine ⟨he, ?_⟩
  obtain ⟨k, hk, hkn, hkl⟩ := okWr_iff hx
  unfold pDifL
  rw [if_pos he]
  rcases one_of (l := (List.range (D.bytes.length / 32)).filter (difB D (putD D x))) (List.nodup_range.sublist List.filter_sublist) (k := k) (fun y hy => by
    obtain ⟨h1, h2⟩ := List.mem_filter.1 hy
    have hy := List.mem_range.1 h1
    unfold difB at h2
    rw [put_sees hck hx y hy] at h2
    by_cases h : (y : Int) = x.blk
    · rw [hk] at h; omega
    · rw [if_neg h] at h2; simp at h2) with h | h
  · exact .inl h
  · exact .inr ⟨k, h, hk⟩
theorem read_is {D : Dk} (hck : pCheck D = 0) (n : Nat) (hn : n < D.bytes.length / 32) : pRead D (n : Int) = 0 ∧ pReadB D (n : Int) = blkN (pFl D.bytes D.pend) n := by
  have e : pRead D (n : Int) = 0 := by
    unfold pRead inB
    rw [if_pos hck, if_pos (decide_eq_true (by omega))]
  refine ⟨e, ?_⟩
  unfold pReadB
  rw [if_pos e, blk_eq, Int.toNat_natCast]
theorem readN_any (A P : Option Addr) (c p : Nat) (D : Dk) (n : Nat) (X : BL) (w : World) (hX : blkN (pFl D.bytes D.pend) n = X) (hck : pCheck D = 0) (hn : n < D.bytes.length / 32) (hA : By w A D.bytes) (hP : Ws w P D.pend) (hsm : Small D) :
    Calls Try.prog 40 #[.agg #[.slice A D.bytes.length c, .slice P D.pend.length p], .int .i64 (n : Int)] w fun e w' =>
      ∃ A' c', e = .returned (.tuple #[.slice A' X.length c', .int .i64 0]) ∧ Ext w w' ∧ By w' A' X := by
  refine (read_any A P c p D n w hA hP hsm).mono ?_
  obtain ⟨h1, h2⟩ := read_is hck n hn
  rw [h1, h2, hX]
  rintro e w' ⟨A', c', rfl, hE, _, hB⟩
  exact ⟨A', c', rfl, hE, hB⟩
theorem OD.ext {w w' : World} {B : Nat} {v : Value} {D : Dk} (h : OD w B v D) (e : Ext w w') : OD w' B v D := by
  obtain ⟨g, c, Pv, qs, hv, h1, h2, h3, h4, h5⟩ := h
  exact ⟨g, c, Pv, qs, hv, h1, h2, h3.ext e, h4.ext e, h5⟩
theorem OD.off1 {w V : World} {B b : Nat} {zs : Array Value} {v : Value} {D : Dk} (h : OD w B v D) (hk : Bk w b zs 25) (hz : Clean zs) (hs : w.heap.size ≤ V.heap.size) (hV : ∀ k, k ≠ b → V.heap[k]? = w.heap[k]?) : OD V B v D := by
  obtain ⟨g, c, Pv, qs, hv, h1, h2, ⟨m, hm, hb⟩, h4, h5⟩ := h
  have hg : g ≠ b := Bk.ne hb hk (by decide)
  refine ⟨g, c, Pv, qs, hv, h1, h2, ⟨m, hm, (hV g hg).trans hb⟩, ⟨⟨h4.own.1, ?_⟩, fun q hq => ?_⟩, h5⟩
  · rcases h4.own.2 with hn | ⟨r, cap, cur, e1, e2, e3, e4⟩
    · exact .inl hn
    · have hr : r ≠ b := Bk.ne (show Bk w r cur 49 from e3) hk (by decide)
      exact .inr ⟨r, cap, cur, e1, e2, (hV r hr).trans e3, e4⟩
  · obtain ⟨q1, q2, q3⟩ := h4.one q hq
    exact ⟨q1, q2.off1 hk hz hV, fun a ha => by obtain ⟨a1, a2, a3, a4⟩ := q3 a ha; exact ⟨a1, Nat.lt_of_lt_of_le a2 hs, a3, a4⟩⟩
theorem OD.shape {w : World} {B : Nat} {v : Value} {D : Dk} (h : OD w B v D) : ∃ A c P p, v = .agg #[.slice A D.bytes.length c, .slice P D.pend.length p] := by
  obtain ⟨A, c, P, p, e, _⟩ := h.dkv
  exact ⟨A, c, P, p, e⟩
theorem OD.parts {w : World} {B : Nat} {A P : Option Addr} {c p : Nat} {D : Dk} (h : OD w B (.agg #[.slice A D.bytes.length c, .slice P D.pend.length p]) D) : By w A D.bytes ∧ Ws w P D.pend := by
  obtain ⟨A', c', P', p', e, _, h1, _, h2⟩ := h.dkv
  simp only [Value.agg.injEq, Array.mk.injEq, List.cons.injEq, Value.slice.injEq, and_true, true_and] at e
  obtain ⟨⟨rfl, _⟩, rfl, _⟩ := e
  exact ⟨h1, h2⟩
/-- A device that a call has made, with no error; it alone. -/
def SV.od2 (N : Nat) (D : Dk) : SV := ⟨fun v w => ∃ A c P p, v = .tuple #[.agg #[.slice A D.bytes.length c, .slice P D.pend.length p], .int .i64 0] ∧ OD w N (.agg #[.slice A D.bytes.length c, .slice P D.pend.length p]) D, fun ⟨A, c, P, p, h1, h2⟩ e => ⟨A, c, P, p, h1, h2.ext e⟩⟩
def SV.od1 (N : Nat) (D : Dk) : SV := ⟨fun v w => ∃ A c P p, v = .agg #[.slice A D.bytes.length c, .slice P D.pend.length p] ∧ OD w N (.agg #[.slice A D.bytes.length c, .slice P D.pend.length p]) D, fun ⟨A, c, P, p, h1, h2⟩ e => ⟨A, c, P, p, h1, h2.ext e⟩⟩
theorem putN_any (A P A' : Option Addr) (c p d N : Nat) (D : Dk) (x : Wr) (w : World) (hck : pCheck D = 0) (hx : okWr (D.bytes.length / 32) x = true) (hl : D.pend.length < 64) (hN : N ≤ w.heap.size) (hA : By w A D.bytes) (hP : Ws w P D.pend) (hxb : By w A' x.bs) (hsm : Small D) :
    Calls Try.prog 32 #[.agg #[.slice A D.bytes.length c, .slice P D.pend.length p], .agg #[.int .i64 x.blk, .slice A' x.bs.length d]] w fun e w' =>
      ∃ v, e = .returned v ∧ (SV.od2 N (putD D x)).p v w' ∧ Ext w w' := by
  obtain ⟨_, _, _, hxl⟩ := okWr_iff hx
  refine (putF_any A P A' c p d D x w hA hP hxb hsm (by omega)).mono ?_
  rintro e w' ⟨v, rfl, hE, h0, _⟩
  rw [put_ok_e hck hx hl, put_ok_d hx hl] at *
  have hO := (h0 rfl).down hN
  obtain ⟨A1, c1, P1, p1, rfl⟩ := hO.shape
  exact ⟨_, rfl, ⟨A1, c1, P1, p1, rfl, hO⟩, hE⟩
end Go.Proofs.Ytdlalmbnkcadfaa
