/- device: Possible: its plain law's words; reading the map of the writes. -/
import Derived.Test.YtdlalmbnkcadfaaM13
import Derived.Test.YtdlalmbnkcadfaaM20
import Derived.Maps.RangeRun
namespace Go.Proofs.Ytdlalmbnkcadfaa
open Go.RowKit

def blkB (bs : BL) (n : Nat) : BL := (bs.drop (n * 32)).take 32
def pWs (D : Dk) (n : Nat) : List BL := (D.pend.filter fun x => x.blk == (n : Int)).map Wr.bs
def pPossE (D : Dk) (b : BL) : Int :=
  if pCheck D = 0 then (if b.length = D.bytes.length then (if (List.range (D.bytes.length / 32)).any (fun n => decide (5 < (pWs D n).length)) = true then 5 else 0) else 3) else pCheck D
def pPossR (D : Dk) (b : BL) : Bool := decide (pPossE D b = 0) && (List.range (D.bytes.length / 32)).all fun n => pPoss1 (blkB D.bytes n) (blkB b n) (pWs D n)
theorem grp_pWs (D : Dk) (qs : List Rec) (h : qs.map Prod.fst = D.pend) (n : Nat) : (grp qs (n : Int)).map (fun q => q.1.bs) = pWs D n := by
  unfold grp pWs
  rw [← h, List.filter_map, List.map_map]
  rfl
theorem grp_length (D : Dk) (qs : List Rec) (h : qs.map Prod.fst = D.pend) (n : Nat) : (grp qs (n : Int)).length = (pWs D n).length := by
  rw [← grp_pWs D qs h n, List.length_map]
theorem pWs_32 {D : Dk} (hc : pCheck D = 0) (n : Nat) : ∀ x ∈ pWs D n, x.length = 32 := fun x hx => by
  obtain ⟨y, hy, rfl⟩ := List.mem_map.1 hx
  obtain ⟨_, _, _, h⟩ := okWr_iff ((pCheck_ok hc).2.2.2.2 y (List.mem_filter.1 hy).1)
  exact h
/-- A row of slices of bytes, read. -/
theorem own_ss {w : World} {B : Nat} {v : Value} {qs : List Rec} (h : w.ownsRow B 22 1 v qs.length (gcells qs)) (hq : ∀ q ∈ qs, q.1.bs.length ≤ q.2.2 ∧ By w q.2.1 q.1.bs) :
    ∃ P c, v = .slice P (qs.map fun q => q.1.bs).length c ∧ SS w P (qs.map fun q => q.1.bs) := by
  rw [List.length_map]
  have hf : ∃ P c, v = .slice P qs.length c := by
    rcases h.2 with ⟨hv, h0⟩ | ⟨g, cap, cur, hv, _⟩
    · exact ⟨none, 0, by rw [hv, h0]⟩
    · exact ⟨_, _, hv⟩
  obtain ⟨P, c, rfl⟩ := hf
  refine ⟨P, c, rfl, fun j x hj => ?_⟩
  have hlt : j < qs.length := by have := (List.getElem?_eq_some_iff.1 hj).1; simpa using this
  rcases h.2 with ⟨hv, h0⟩ | ⟨g, cap, cur, hv, hB, hh, _⟩
  · omega
  · injection hv with e1 e2 e3
    have hx : qs[j].1.bs = x := by simpa [hlt] using hj
    obtain ⟨q1, q2⟩ := hq qs[j] (List.getElem_mem hlt)
    subst e1
    refine ⟨g, 0, qs[j].2.1, qs[j].2.2, rfl, ?_, by rw [← hx]; exact q1, by rw [← hx]; exact q2⟩
    have := h.cellAt j (by omega)
    rw [Nat.zero_add, this, ← hx]
    simp [gcells, hlt]
/-- The iterator over the map: the entries whose stamps are in 'seen' have been. -/
theorem GM.kept {w w' : World} {B r r2 : Nat} {qs : List Rec} (h : GM w B r qs) (hg : w.grownBy w' (some r2)) (hne : r ≠ r2) (hc : ∀ cur t, w.heap[r2]? ≠ some (.cells cur t (0, 0))) : GM w' B r qs := by
  have hl := h.lt
  obtain ⟨es, gs, h1, h2, h3, h4, h5, h6⟩ := h
  refine ⟨es, gs, (hg.block r hl (fun e => hne (Option.some.inj e))).trans h1, h2, h3, h4, fun g hgg => ⟨(h5 g hgg).1.kept hg ?_, (h5 g hgg).2⟩, h6⟩
  rcases (h5 g hgg).1.2 with ⟨hv, _⟩ | ⟨b, cap, cur, hv, _, hb, _⟩
  · exact .inl (by rw [hv]; rfl)
  · refine .inr fun e => ?_
    rw [hv] at e
    simp only [Value.ownBlock, Option.some.injEq] at e
    rw [e] at hb
    exact hc _ _ hb
theorem GM.entry {w : World} {B r : Nat} {qs : List Rec} (h : GM w B r qs) : ∃ es, w.heap[r]? = some (.map es es.size) ∧ es.toList.map (·.born) = List.range es.size ∧
    (∀ e ∈ es.toList, ∃ (k : Int) (P : Option Addr) (c : Nat), e.key = .int .i64 k ∧ e.val = .slice P (grp qs k).length c ∧ grp qs k ≠ []) ∧ (∀ q ∈ qs, ∃ e ∈ es.toList, e.key = .int .i64 q.1.blk) := by
  obtain ⟨es, gs, h1, h2, h3, h4, h5, h6, h7⟩ := h
  refine ⟨es, h1, h3, fun e he => ?_, fun q hq => ?_⟩
  · have : (e.key, e.val) ∈ kvs gs := by rw [← h2]; exact List.mem_map_of_mem he
    obtain ⟨g, hg, hge⟩ := List.mem_map.1 this
    simp only [Prod.mk.injEq] at hge
    obtain ⟨ho, hn⟩ := h5 g hg
    rcases ho.2 with ⟨hv, h0⟩ | ⟨b, cap, cur, hv, _⟩
    · exact absurd (List.eq_nil_of_length_eq_zero h0) hn
    · exact ⟨g.1, _, _, hge.1.symm, hge.2.symm.trans hv, hn⟩
  · obtain ⟨g, hg, hge⟩ := List.mem_map.1 (h6 q hq)
    have : (Value.int .i64 g.1, g.2) ∈ es.toList.map (fun e => (e.key, e.val)) := by rw [h2]; exact List.mem_map.2 ⟨g, hg, rfl⟩
    obtain ⟨e, he, hee⟩ := List.mem_map.1 this
    simp only [Prod.mk.injEq] at hee
    exact ⟨e, he, by rw [hee.1, hge]⟩
/-- What is said of each group that has been seen. -/
def SeenOk (es : Array MapEntry) (seen : Array Nat) (qs : List Rec) : Prop := ∀ e ∈ es.toList, seen.contains e.born = true → ∃ k : Int, e.key = .int .i64 k ∧ (grp qs k).length ≤ 5
def RngI (w : World) (r r2 : Nat) (es : Array MapEntry) (qs : List Rec) (wr : World) : Prop :=
  w.grownBy wr (some r2) ∧ wr.heap[r]? = some (.map es es.size) ∧ ∃ seen c0, wr.heap[r2]? = some (.mapIter (some r) es.size seen c0) ∧ es.size ≤ c0 ∧ SeenOk es seen qs
def rngLeft (w : World) (r2 : Nat) (es : Array MapEntry) : Nat := match w.heap[r2]? with
  | some (.mapIter _ _ seen _) => (leftOf es seen).size
  | _ => 0
/-- A step of the loop over the map. -/
theorem RngI.step {w wr : World} {r r2 : Nat} {es : Array MapEntry} {qs : List Rec} (h : RngI w r r2 es qs wr) (hne : r ≠ r2) (h2 : r2 < w.heap.size) (hborn : es.toList.map (·.born) = List.range es.size) (ty : TypeId) :
    ((∀ e ∈ es.toList, ∃ k : Int, e.key = .int .i64 k ∧ (grp qs k).length ≤ 5) ∧ (Instr.next (.pointer (some ⟨r2, 0, none⟩)) false ty).run Try.prog wr = .ok (.tuple #[.bool false]) wr) ∨
    ∃ e ∈ es.toList, ∃ w1 : World, (Instr.next (.pointer (some ⟨r2, 0, none⟩)) false ty).run Try.prog wr = .ok (.tuple #[.bool true, e.key, e.val]) w1 ∧
      (Instr.entry (.pointer (some ⟨r2, 0, none⟩))).run Try.prog w1 = .ok (.tuple #[e.key, e.val]) w1 ∧ w.grownBy w1 (some r2) ∧
      ((∃ k : Int, e.key = .int .i64 k ∧ (grp qs k).length ≤ 5) → RngI w r r2 es qs w1 ∧ rngLeft w1 r2 es < rngLeft wr r2 es) := by
  obtain ⟨hg, hm, seen, c0, hi, hc, hs⟩ := h
  have hold : ∀ x ∈ es.toList, x.born < es.size := fun x hx => by
    have : x.born ∈ es.toList.map (·.born) := List.mem_map_of_mem hx
    rw [hborn] at this
    exact List.mem_range.1 this
  have hnod : (es.toList.map (·.born)).Nodup := by rw [hborn]; exact List.nodup_range
  have hl2 : r2 < wr.heap.size := Nat.lt_of_lt_of_le h2 hg.size
  rcases run_next_at (P := Try.prog) wr ty r2 r es.size c0 seen es es.size hi hm hold hc with ⟨h0, hn⟩ | ⟨e, he, w1, hw1, hn⟩
  · refine .inl ⟨fun e he => ?_, hn⟩
    refine hs e he ?_
    have : e ∉ leftOf es seen := fun hm' => by rw [Array.eq_empty_of_size_eq_zero h0] at hm'; simp at hm'
    unfold leftOf at this
    simp only [Array.mem_filter, not_and, Bool.not_eq_true', Bool.not_eq_false] at this
    exact this (by simpa using he)
  · have hee : e ∈ es.toList := by
      have := Array.mem_toList_iff.1 he
      unfold leftOf at this
      simpa using (Array.mem_filter.1 this).1
    have hun : seen.contains e.born = false := by
      have := Array.mem_toList_iff.1 he
      unfold leftOf at this
      have := (Array.mem_filter.1 this).2
      simpa using this
    have hW : wr.grownBy (ChangeMaps.setBlock w1 r2 (.mapIter (some r) es.size (seen.push e.born) es.size)) (some r2) := by
      have hh : w1.heap = wr.heap ∧ w1.os = wr.os ∧ w1.tape = wr.tape ∧ w1.output = wr.output := by rcases hw1 with rfl | rfl <;> exact ⟨rfl, rfl, rfl, rfl⟩
      obtain ⟨h1, h2, h3, h4⟩ := hh
      exact ⟨h2, h3, h4, by simp [ChangeMaps.setBlock, h1], fun k _ hk => by simp only [ChangeMaps.setBlock, h1]; rw [Array.getElem?_setIfInBounds_ne (fun e => hk (by rw [e]))]⟩
    have hi1 : (ChangeMaps.setBlock w1 r2 (.mapIter (some r) es.size (seen.push e.born) es.size)).heap[r2]? = some (.mapIter (some r) es.size (seen.push e.born) es.size) := by
      have hl : r2 < w1.heap.size := by rcases hw1 with rfl | rfl <;> exact hl2
      simp [ChangeMaps.setBlock, hl]
    have hm1 : (ChangeMaps.setBlock w1 r2 (.mapIter (some r) es.size (seen.push e.born) es.size)).heap[r]? = some (.map es es.size) :=
      (hW.block r (Array.getElem?_eq_some_iff.1 hm).1 (fun e => hne (Option.some.inj e))).trans hm
    refine .inr ⟨e, hee, _, hn, run_entry_at _ r2 r es.size seen es es.size e hi1 hm1 hee hnod, hg.trans hW, fun hk => ⟨⟨hg.trans hW, hm1, _, _, hi1, Nat.le_refl _, fun x hx hx2 => ?_⟩, ?_⟩⟩
    · by_cases hxe : x.born = e.born
      · have : x = e := by
          obtain ⟨i, hil, hxi⟩ := List.getElem_of_mem hx
          obtain ⟨j, hjl, hej⟩ := List.getElem_of_mem hee
          have hij : i = j := by
            have h1 : (es.toList.map (·.born))[i]'(by simpa using hil) = (es.toList.map (·.born))[j]'(by simpa using hjl) := by simp only [List.getElem_map, hxi, hej, hxe]
            exact (List.getElem_inj hnod).1 h1
          subst hij
          rw [← hxi, ← hej]
        rw [this]; exact hk
      · refine hs x hx ?_
        simp only [Array.contains_iff_mem, Array.mem_push] at hx2 ⊢
        exact hx2.resolve_right hxe
    · unfold rngLeft
      rw [hi1, hi]
      exact left_shrinks es seen e he
end Go.Proofs.Ytdlalmbnkcadfaa
