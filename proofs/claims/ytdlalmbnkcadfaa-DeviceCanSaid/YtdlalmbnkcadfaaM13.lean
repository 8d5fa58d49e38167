/- device: isPossible. -/
import Derived.Test.YtdlalmbnkcadfaaM12
import Derived.Test.YtdlalmbnkcadfaaM06
import Derived.Deep.RegionHeld3
import Derived.Test.YtdlalmbnkcadfaaM10
import Derived.Deep.AppendLies
namespace Go.Proofs.Ytdlalmbnkcadfaa
open Go.RowKit

theorem from_any (bt bm bw bf r pc : Nat) (A B P : Option Addr) (old want : BL) (ws : List BL) (ho : old.length = 32) (hw : want.length = 32) (hl : ws.length ≤ 5) (hws : ∀ x ∈ ws, x.length = 32) :
    ∀ (n k : Nat) (us : List Bool) (ks : List Stp) (w : World), Fr w bt bm bw bf r A B P pc old want ws → TM w r ks → us.length = 5 → k ≤ 32 → (unused ws us).length < n →
      (∀ t ∈ ks, (unused ws t.2).length ≤ (unused ws us).length → pW old want ws t = false) →
      Calls Try.prog 89 #[stepV (k, us), .pointer (some ⟨bt, 0, none⟩), .pointer (some ⟨bm, 0, none⟩), .pointer (some ⟨bw, 0, none⟩), .pointer (some ⟨bf, 0, none⟩)] w (FromPost w r old want ws ks (k, us))
  | 0, _, _, _, _, _, _, _, _, h, _ => absurd h (Nat.not_lt_zero _)
  | n + 1, k, us, ks, w, hF, hT, h5, hk, hn, hm => by
    by_cases h32 : k = 32
    · exact from_end bt bm bw bf r pc k A B P old want ws ks us w hF hT ho hw h32 h5 hl
    · have hk' : k < 32 := by omega
      cases heq : (old.drop k == want.drop k) with
      | true => exact from_eq bt bm bw bf r pc k A B P old want ws ks us w hF hT ho hw hk' h5 hl heq
      | false =>
        by_cases hin : (k, us) ∈ ks
        · exact from_tried bt bm bw bf r pc k A B P old want ws ks us w hF hT ho hw hk' h5 hl heq (hm _ hin (Nat.le_refl _)) hin
        · exact from_new bt bm bw bf r pc k A B P old want ws ks us w hF hT ho hw hk' h5 hl heq hin hws hm
            (fun k' us' ks' w' h1 h2 h3 h4 h6 h7 => from_any bt bm bw bf r pc A B P old want ws ho hw hl hws n k' us' ks' w' h1 h2 h3 h4 (by omega) h7)

def pPoss1 (old want : BL) (ws : List BL) : Bool := rReach old want ws.length 0 ws
theorem pW_start (old want : BL) (ws : List BL) (hw : want.length = 32) (hl : ws.length ≤ 5) (hws : ∀ x ∈ ws, x.length = 32) : pW old want ws (0, [false, false, false, false, false]) = pPoss1 old want ws := by
  unfold pW pPoss1
  have h := unused_none ws 5
  have h' : unused ws [false, false, false, false, false] = ws := h
  simp only [h']
  exact from_reach hw ws hws 5 ws.length hl (Nat.le_refl _)
theorem srch (A B P : Option Addr) (pc : Nat) (old want : BL) (ws : List BL) (w : World) (hA : By w A old) (hB : By w B want) (hP : SS w P ws) :
    ∃ W, (((((w.alloc (.cells #[.slice A 32 32, .slice B 32 32] 95)).alloc (.cells #[.slice P ws.length pc] 91)).alloc (.map #[] 0)).alloc (.cells #[.map (some (w.heap.size + 1 + 1))] 116)).alloc
      (.cells #[.func (.func 89) #[] #[.pointer (some ⟨w.heap.size, 0, none⟩), .pointer (some ⟨w.heap.size + 1 + 1 + 1, 0, none⟩), .pointer (some ⟨w.heap.size + 1, 0, none⟩), .pointer (some ⟨w.heap.size + 1 + 1 + 1 + 1, 0, none⟩)]] 117)) = W ∧
      Fr W w.heap.size (w.heap.size + 1 + 1 + 1) (w.heap.size + 1) (w.heap.size + 1 + 1 + 1 + 1) (w.heap.size + 1 + 1) A B P pc old want ws ∧ TM W (w.heap.size + 1 + 1) [] ∧ Ext w W := by
  have e1 := Bk.new w #[.slice A 32 32, .slice B 32 32] 95
  obtain ⟨W1, hW1⟩ : ∃ W1, w.alloc (.cells #[.slice A 32 32, .slice B 32 32] 95) = W1 := ⟨_, rfl⟩
  have s1 : W1.heap.size = w.heap.size + 1 := by rw [← hW1]; simp
  have x1 : Ext w W1 := by rw [← hW1]; exact (Ext.refl w).alloc _
  rw [hW1] at e1
  have e2 := Bk.new W1 #[.slice P ws.length pc] 91
  obtain ⟨W2, hW2⟩ : ∃ W2, W1.alloc (.cells #[.slice P ws.length pc] 91) = W2 := ⟨_, rfl⟩
  have s2 : W2.heap.size = w.heap.size + 1 + 1 := by rw [← hW2]; simp [s1]
  have x2 : Ext W1 W2 := by rw [← hW2]; exact (Ext.refl W1).alloc _
  rw [hW2, s1] at e2
  have e3 : (W2.alloc (.map #[] 0)).heap[W2.heap.size]? = some (.map #[] 0) := heap_new W2 _
  obtain ⟨W3, hW3⟩ : ∃ W3, W2.alloc (.map #[] 0) = W3 := ⟨_, rfl⟩
  have s3 : W3.heap.size = w.heap.size + 1 + 1 + 1 := by rw [← hW3]; simp [s2]
  have x3 : Ext W2 W3 := by rw [← hW3]; exact (Ext.refl W2).alloc _
  rw [hW3, s2] at e3
  have e4 := Bk.new W3 #[.map (some (w.heap.size + 1 + 1))] 116
  obtain ⟨W4, hW4⟩ : ∃ W4, W3.alloc (.cells #[.map (some (w.heap.size + 1 + 1))] 116) = W4 := ⟨_, rfl⟩
  have s4 : W4.heap.size = w.heap.size + 1 + 1 + 1 + 1 := by rw [← hW4]; simp [s3]
  have x4 : Ext W3 W4 := by rw [← hW4]; exact (Ext.refl W3).alloc _
  rw [hW4, s3] at e4
  rw [hW1, hW2, hW3, hW4]
  have e5 := Bk.new W4 #[.func (.func 89) #[] #[.pointer (some ⟨w.heap.size, 0, none⟩), .pointer (some ⟨w.heap.size + 1 + 1 + 1, 0, none⟩), .pointer (some ⟨w.heap.size + 1, 0, none⟩), .pointer (some ⟨w.heap.size + 1 + 1 + 1 + 1, 0, none⟩)]] 117
  obtain ⟨W5, hW5⟩ : ∃ W5, W4.alloc (.cells #[.func (.func 89) #[] #[.pointer (some ⟨w.heap.size, 0, none⟩), .pointer (some ⟨w.heap.size + 1 + 1 + 1, 0, none⟩), .pointer (some ⟨w.heap.size + 1, 0, none⟩), .pointer (some ⟨w.heap.size + 1 + 1 + 1 + 1, 0, none⟩)]] 117) = W5 := ⟨_, rfl⟩
  have x5 : Ext W4 W5 := by rw [← hW5]; exact (Ext.refl W4).alloc _
  rw [hW5, s4] at e5
  have y : Ext w W5 := (((x1.trans x2).trans x3).trans x4).trans x5
  have y3 : Ext W3 W5 := x4.trans x5
  refine ⟨W5, hW5, ⟨e1.ext ((x2.trans x3).trans y3), hA.ext y, hB.ext y, e4.ext x5, e2.ext (x3.trans y3), hP.ext y, e5⟩, ⟨#[], 0, ?_, rfl, fun k h => by cases h⟩, y⟩
  exact (y3.block _ (by omega)).trans e3
set_option maxRecDepth 100000 in
set_option maxHeartbeats 1000000 in
theorem isPossible_any (A B P : Option Addr) (pc : Nat) (old want : BL) (ws : List BL) (w : World) (hA : By w A old) (hB : By w B want) (hP : SS w P ws) (ho : old.length = 32) (hw : want.length = 32) (hl : ws.length ≤ 5) (hws : ∀ x ∈ ws, x.length = 32) :
    Calls Try.prog 65 #[.agg #[.slice A 32 32, .slice B 32 32], .slice P ws.length pc] w fun e w' => e = .returned (.bool (pPoss1 old want ws)) ∧ Ext w w' := by
  have hmm := @run_makeMap Try.prog
  go_enter Try.func65, Try.ntmps65
  go_wp2_with fail
  obtain ⟨W, hW, hF, hT, hE⟩ := srch A B P pc old want ws w hA hB hP
  rw [hW]; clear hW
  have hp := Lib.hid (pW_start old want ws hw hl hws)
  refine (from_any w.heap.size (w.heap.size + 1 + 1 + 1) (w.heap.size + 1) (w.heap.size + 1 + 1 + 1 + 1) (w.heap.size + 1 + 1) pc A B P old want ws ho hw hl hws ((unused ws [false, false, false, false, false]).length + 1) 0 [false, false, false, false, false] [] W hF hT rfl (by omega) (Nat.lt_succ_self _) (fun t h => by cases h)).mono ?_
  rintro e w' ⟨rfl, hg, _⟩
  have HE : Hid (Ext w w') := hE.grown hg hE.size (fun j e => by cases e; omega)
  rw [hp.out]
  clear hF hT hE hg
  go_wp2
  go_ret
  exact ⟨rfl, HE.out⟩
end Go.Proofs.Ytdlalmbnkcadfaa
/- device: by: a map of slices, by the writes' blocks. -/
namespace Go.Proofs.Ytdlalmbnkcadfaa
open Go.RowKit

abbrev KV := Int × Value
abbrev kvs (gs : List KV) : List (Value × Value) := gs.map fun g => (Value.int .i64 g.1, g.2)
def lookV : List KV → Int → Value
  | [], _ => .slice none 0 0
  | g :: r, k => if g.1 = k then g.2 else lookV r k
def putV (k : Int) (v : Value) : List KV → List KV
  | [] => [(k, v)]
  | g :: r => if g.1 = k then (k, v) :: r else g :: putV k v r
def idxV (k : Int) : List KV → Nat
  | [] => 0
  | g :: r => if g.1 = k then 0 else idxV k r + 1
theorem lookV_none : ∀ (gs : List KV) (k : Int), k ∉ gs.map Prod.fst → lookV gs k = .slice none 0 0
  | [], _, _ => rfl
  | g :: r, k, h => by
    simp only [List.map_cons, List.mem_cons, not_or] at h
    unfold lookV
    rw [if_neg (fun e => h.1 e.symm)]
    exact lookV_none r k h.2
theorem lookV_mem : ∀ (gs : List KV) (k : Int), k ∈ gs.map Prod.fst → (k, lookV gs k) ∈ gs
  | [], _, h => by simp at h
  | g :: r, k, h => by
    unfold lookV
    by_cases e : g.1 = k
    · rw [if_pos e, ← e]; exact List.mem_cons_self ..
    · rw [if_neg e]
      simp only [List.map_cons, List.mem_cons] at h
      exact List.mem_cons_of_mem _ (lookV_mem r k (h.resolve_left (fun e' => e e'.symm)))
theorem find_kvs (k : Int) : ∀ (gs : List KV) (es : List MapEntry) (i : Nat), es.map (fun e => (e.key, e.val)) = kvs gs →
    Instr.findNow (.int .i64) (.int .i64 k) es i = some (if k ∈ gs.map Prod.fst then some (i + idxV k gs, lookV gs k) else none)
  | [], [], i, _ => by simp [Instr.findNow]
  | [], _ :: _, i, h => by simp at h
  | _ :: _, [], i, h => by simp at h
  | g :: gs, e :: es, i, h => by
    simp only [kvs, List.map_cons, List.cons.injEq, Prod.mk.injEq] at h
    obtain ⟨⟨h1, h2⟩, h3⟩ := h
    unfold Instr.findNow
    rw [h1]
    by_cases hk : g.1 = k
    · subst hk
      simp [Instr.sameNow, idxV, lookV, h2]
    · have e1 : Instr.sameNow (.int .i64) (.int .i64 k) (.int .i64 g.1) = some false := by simp [Instr.sameNow, Ne.symm hk]
      rw [e1, find_kvs k gs es (i + 1) h3]
      have e2 : (k ∈ (g :: gs).map Prod.fst) ↔ k ∈ gs.map Prod.fst := by simp [Ne.symm hk]
      simp only [e2, idxV, lookV, if_neg hk]
      congr 2
      rw [show i + 1 + idxV k gs = i + (idxV k gs + 1) by omega]
theorem put_in (k : Int) (v : Value) : ∀ (gs : List KV) (es : List MapEntry), es.map (fun e => (e.key, e.val)) = kvs gs → k ∈ gs.map Prod.fst →
    (es.modify (idxV k gs) fun e => { e with key := .int .i64 k, val := v }).map (fun e => (e.key, e.val)) = kvs (putV k v gs) ∧
    (es.modify (idxV k gs) fun e => { e with key := .int .i64 k, val := v }).map (·.born) = es.map (·.born) ∧ ∃ e, es[idxV k gs]? = some e ∧ e.key = .int .i64 k
  | [], [], _, h => by simp at h
  | [], _ :: _, h, _ => by simp at h
  | _ :: _, [], h, _ => by simp at h
  | g :: gs, e :: es, h, hk => by
    simp only [kvs, List.map_cons, List.cons.injEq, Prod.mk.injEq] at h
    obtain ⟨⟨h1, h2⟩, h3⟩ := h
    by_cases hg : g.1 = k
    · subst hg
      simp [idxV, putV, kvs, h3, h1]
    · simp only [List.map_cons, List.mem_cons] at hk
      obtain ⟨i1, i2, i3⟩ := put_in k v gs es h3 (hk.resolve_left (fun e' => hg e'.symm))
      simp only [idxV, putV, if_neg hg, List.modify_succ_cons, List.map_cons, kvs, List.getElem?_cons_succ]
      exact ⟨by rw [i1, h1, h2], by rw [i2], i3⟩
theorem put_out (k : Int) (v : Value) : ∀ (gs : List KV), k ∉ gs.map Prod.fst → putV k v gs = gs ++ [(k, v)]
  | [], _ => rfl
  | g :: r, h => by
    simp only [List.map_cons, List.mem_cons, not_or] at h
    unfold putV
    rw [if_neg (fun e => h.1 e.symm), put_out k v r h.2]
    rfl
theorem put_keys (k : Int) (v : Value) : ∀ (gs : List KV) (x : Int), x ∈ (putV k v gs).map Prod.fst ↔ x = k ∨ x ∈ gs.map Prod.fst
  | [], x => by simp [putV]
  | g :: r, x => by
    unfold putV
    split
    · rename_i h; simp [h]
    · rename_i h
      simp only [List.map_cons, List.mem_cons, put_keys k v r x]
      constructor
      · rintro (h | h | h)
        · exact .inr (.inl h)
        · exact .inl h
        · exact .inr (.inr h)
      · rintro (h | h | h)
        · exact .inr (.inl h)
        · exact .inl h
        · exact .inr (.inr h)
theorem put_nodup (k : Int) (v : Value) : ∀ (gs : List KV), (gs.map Prod.fst).Nodup → ((putV k v gs).map Prod.fst).Nodup
  | [], _ => by simp [putV]
  | g :: r, h => by
    simp only [List.map_cons, List.nodup_cons] at h
    unfold putV
    split
    · rename_i hk; subst hk; simpa using h
    · rename_i hk
      simp only [List.map_cons, List.nodup_cons, put_keys, not_or]
      exact ⟨⟨hk, h.1⟩, put_nodup k v r h.2⟩
theorem put_mem (k : Int) (v : Value) : ∀ (gs : List KV), (gs.map Prod.fst).Nodup → ∀ g ∈ putV k v gs, g = (k, v) ∨ (g ∈ gs ∧ g.1 ≠ k)
  | [], _, g, h => by simp [putV] at h; exact .inl h
  | a :: r, hn, g, h => by
    simp only [List.map_cons, List.nodup_cons] at hn
    unfold putV at h
    split at h
    · rename_i hk
      rcases List.mem_cons.1 h with h | h
      · exact .inl h
      · refine .inr ⟨List.mem_cons_of_mem _ h, fun e => hn.1 ?_⟩
        rw [hk, ← e]; exact List.mem_map_of_mem h
    · rename_i hk
      rcases List.mem_cons.1 h with h | h
      · exact .inr ⟨by rw [h]; exact List.mem_cons_self .., by rw [h]; exact hk⟩
      · rcases put_mem k v r hn.2 g h with h | h
        · exact .inl h
        · exact .inr ⟨List.mem_cons_of_mem _ h.1, h.2⟩
theorem put_pair (R : Value → Value → Prop) (k : Int) (v : Value) : ∀ (gs : List KV), gs.Pairwise (fun a b => R a.2 b.2) → (∀ g ∈ gs, g.1 ≠ k → R g.2 v ∧ R v g.2) → (gs.map Prod.fst).Nodup → (putV k v gs).Pairwise (fun a b => R a.2 b.2)
  | [], _, _, _ => by simp [putV]
  | a :: r, h, hv, hn => by
    have hp := List.pairwise_cons.1 h
    simp only [List.map_cons, List.nodup_cons] at hn
    unfold putV
    split
    · rename_i hk
      refine List.pairwise_cons.2 ⟨fun b hb => (hv b (List.mem_cons_of_mem _ hb) (fun e => hn.1 ?_)).2, hp.2⟩
      rw [hk, ← e]; exact List.mem_map_of_mem hb
    · rename_i hk
      refine List.pairwise_cons.2 ⟨fun b hb => ?_, put_pair R k v r hp.2 (fun g hg => hv g (List.mem_cons_of_mem _ hg)) hn.2⟩
      rcases put_mem k v r hn.2 b hb with h | h
      · rw [h]; exact (hv a (List.mem_cons_self ..) hk).1
      · exact hp.1 b h.1
end Go.Proofs.Ytdlalmbnkcadfaa
/- device: by, the walk. -/
namespace Go.Proofs.Ytdlalmbnkcadfaa
open Go.RowKit

abbrev gcells (qs : List Rec) : List Value := qs.map fun q => Value.slice q.2.1 q.1.bs.length q.2.2
def grp (qs : List Rec) (k : Int) : List Rec := qs.filter fun q => q.1.blk == k
theorem grp_snoc_same (qs : List Rec) (q : Rec) : grp (qs ++ [q]) q.1.blk = grp qs q.1.blk ++ [q] := by simp [grp]
theorem grp_snoc_other (qs : List Rec) (q : Rec) (k : Int) (h : k ≠ q.1.blk) : grp (qs ++ [q]) k = grp qs k := by
  simp [grp, Ne.symm h]
theorem grp_none (qs : List Rec) (k : Int) (ks : List Int) (h : ∀ q ∈ qs, q.1.blk ∈ ks) (hk : k ∉ ks) : grp qs k = [] := by
  unfold grp
  rw [List.filter_eq_nil_iff]
  intro q hq e
  exact hk (by rw [← beq_iff_eq.1 e]; exact h q hq)

/-- The map of the writes that wait, by their blocks. -/
def GM (w : World) (B r : Nat) (qs : List Rec) : Prop := ∃ es gs, w.heap[r]? = some (.map es es.size) ∧ es.toList.map (fun e => (e.key, e.val)) = kvs gs ∧ es.toList.map (·.born) = List.range es.size ∧ (gs.map Prod.fst).Nodup ∧
  (∀ g ∈ gs, w.ownsRow B 22 1 g.2 (grp qs g.1).length (gcells (grp qs g.1)) ∧ grp qs g.1 ≠ []) ∧ (∀ q ∈ qs, q.1.blk ∈ gs.map Prod.fst) ∧ gs.Pairwise (fun a b => a.2.ownBlock ≠ b.2.ownBlock)
theorem GM.start {w : World} {B r : Nat} (h : w.heap[r]? = some (.map #[] 0)) : GM w B r [] := ⟨#[], [], h, rfl, rfl, List.nodup_nil, (fun g h => by cases h), (fun q h => by cases h), List.Pairwise.nil⟩
theorem GM.lt {w : World} {B r : Nat} {qs : List Rec} (h : GM w B r qs) : r < w.heap.size := by
  obtain ⟨es, gs, h1, _⟩ := h
  exact (Array.getElem?_eq_some_iff.1 h1).1
theorem GM.ext {w w' : World} {B r : Nat} {qs : List Rec} (h : GM w B r qs) (e : Ext w w') : GM w' B r qs := by
  have hl := h.lt
  obtain ⟨es, gs, h1, h2, h3, h4, h5, h6⟩ := h
  exact ⟨es, gs, (e.block r hl).trans h1, h2, h3, h4, fun g hg => ⟨ownsRow_ext (h5 g hg).1 e, (h5 g hg).2⟩, h6⟩
theorem ckInt (e : Bool) (k : Int) (w : World) : (Instr.checkKey e 10000 3 (.int .i64 k)).run Try.prog w = .ok () w := by
  show (Instr.checkKey e (9999 + 1) 3 (.int .i64 k)).run Try.prog w = _
  unfold Instr.checkKey
  simp only [Sem.run_bind, run_underlying Try.underlying3, Result.andThen]
  rfl
theorem own_nil {w : World} {B : Nat} {e : TypeId} : w.ownsRow B e 1 (.slice none 0 0) (0 : Nat) [] := World.ownsRow_nil _ _ _ _
/-- What a look-up finds. -/
theorem GM.look {w : World} {B r : Nat} {qs : List Rec} (h : GM w B r qs) (k : Int) : ∃ v, w.ownsRow B 22 1 v (grp qs k).length (gcells (grp qs k)) ∧
    (∀ w', w'.heap[r]? = w.heap[r]? → (Instr.lookup 89 (.map (some r)) (.int .i64 k) false).run Try.prog w' = .ok v w') ∧
    (∀ (w1 : World) (q : Rec) (v' : Value), q.1.blk = k → w.grownBy w1 v.ownBlock → w1.ownsRow B 22 1 v' ((grp qs k).length + 1) (gcells (grp qs k) ++ [.slice q.2.1 q.1.bs.length q.2.2]) →
      (v.ownBlock = v'.ownBlock ∨ ∃ g, v'.ownBlock = some g ∧ w.heap.size ≤ g) →
      ∃ w2, (Instr.mapUpdate 89 (.map (some r)) (.int .i64 k) v').run Try.prog w1 = .ok () w2 ∧ GM w2 B r (qs ++ [q]) ∧ w1.grownBy w2 (some r)) := by
  have hl := h.lt
  obtain ⟨es, gs, h1, h2, h3, h4, h5, h6, h7⟩ := h
  refine ⟨lookV gs k, ?_, fun w' hw' => ?_, fun w1 q v' hq hg hown hat => ?_⟩
  · by_cases hk : k ∈ gs.map Prod.fst
    · exact (h5 _ (lookV_mem gs k hk)).1
    · rw [lookV_none gs k hk, grp_none qs k _ h6 hk]
      exact own_nil
  · have hz : (zeroValue 91).run Try.prog w' = .ok (.slice none 0 0) w' := by kernel_rfl
    have hm : w'.heap[r]? = some (.map es es.size) := hw'.trans h1
    unfold Instr.lookup Instr.findKey
    simp only [Sem.run_bind, run_underlying Try.underlying89, run_underlying Try.underlying3, Result.andThen_ok, getMap hm, ckInt, find_kvs k gs es.toList 0 h2, Sem.run_pure]
    by_cases hk : k ∈ gs.map Prod.fst
    · simp [hk]
    · simp [hk, hz, lookV_none gs k hk]
  · -- the store
    have hrow : ∀ g ∈ gs, g.1 ≠ k → g.2.ownBlock ≠ (lookV gs k).ownBlock := fun g hg hne => by
      by_cases hk : k ∈ gs.map Prod.fst
      · have hm := lookV_mem gs k hk
        intro e
        obtain ⟨i, hi, hgi⟩ := List.getElem_of_mem hg
        obtain ⟨j, hj, hgj⟩ := List.getElem_of_mem hm
        rcases Nat.lt_trichotomy i j with h | h | h
        · have := List.pairwise_iff_getElem.1 h7 i j hi hj h
          rw [hgi, hgj] at this
          exact this e
        · subst h; rw [hgi] at hgj; rw [hgj] at hne; exact hne rfl
        · have := List.pairwise_iff_getElem.1 h7 j i hj hi h
          rw [hgi, hgj] at this
          exact this e.symm
      · rw [lookV_none gs k hk]
        obtain ⟨ho, hn⟩ := h5 g hg
        rcases ho.2 with ⟨hv, h0⟩ | ⟨b, cap, cur, hv, _⟩
        · exact absurd (List.eq_nil_of_length_eq_zero h0) hn
        · rw [hv]; simp [Value.ownBlock]
    have hmr : some r ≠ (lookV gs k).ownBlock := fun e => by
      by_cases hk : k ∈ gs.map Prod.fst
      · rcases (h5 _ (lookV_mem gs k hk)).1.2 with ⟨hv, h0⟩ | ⟨b, cap, cur, hv, _, hb, _⟩
        · simp only at hv; rw [hv] at e; simp [Value.ownBlock] at e
        · simp only at hv; rw [hv] at e
          simp only [Value.ownBlock, Option.some.injEq] at e
          rw [← e, h1] at hb; cases hb
      · rw [lookV_none gs k hk] at e; simp [Value.ownBlock] at e
    have hm1 : w1.heap[r]? = some (.map es es.size) := (hg.block r hl hmr).trans h1
    have hk1 : ∀ g ∈ gs, g.1 ≠ k → w1.ownsRow B 22 1 g.2 (grp qs g.1).length (gcells (grp qs g.1)) := fun g hg' hne =>
      (h5 g hg').1.kept hg (.inr (hrow g hg' hne))
    have key : ∀ w2 es', w1.grownBy w2 (some r) → w2.heap[r]? = some (.map es' es'.size) → es'.toList.map (fun e => (e.key, e.val)) = kvs (putV k v' gs) → es'.toList.map (·.born) = List.range es'.size → GM w2 B r (qs ++ [q]) := by
      intro w2 es' hg2 e1 e2 e3
      have far : ∀ {v : Value} {n : Nat} {xs : List Value}, w1.ownsRow B 22 1 v n xs → w2.ownsRow B 22 1 v n xs := fun {v n xs} ho => ho.kept hg2 (by
        rcases ho.2 with ⟨hv, _⟩ | ⟨b, cap, cur, hv, _, hb, _⟩
        · exact .inl (by rw [hv]; rfl)
        · refine .inr fun e => ?_
          rw [hv] at e
          simp only [Value.ownBlock, Option.some.injEq] at e
          rw [e, hm1] at hb; cases hb)
      refine ⟨es', putV k v' gs, e1, e2, e3, put_nodup k v' gs h4, fun g hg' => ?_, fun x hx => ?_, ?_⟩
      · rcases put_mem k v' gs h4 g hg' with e | ⟨h, hne⟩
        · rw [e]
          show w2.ownsRow B 22 1 v' (grp (qs ++ [q]) k).length (gcells (grp (qs ++ [q]) k)) ∧ _
          rw [← hq, grp_snoc_same, hq]
          refine ⟨?_, by simp⟩
          rw [List.length_append]
          have := far hown
          simpa [gcells] using this
        · have hne' : g.1 ≠ q.1.blk := by rw [hq]; exact hne
          rw [grp_snoc_other qs q g.1 hne']
          exact ⟨far (hk1 g h hne), (h5 g h).2⟩
      · rw [put_keys]
        rcases List.mem_append.1 hx with h | h
        · exact .inr (h6 x h)
        · rw [List.mem_singleton.1 h]; exact .inl hq
      · refine put_pair (fun a b => a.ownBlock ≠ b.ownBlock) k v' gs h7 (fun g hg' hne => ?_) h4
        have hd : g.2.ownBlock ≠ v'.ownBlock := fun e => by
          rcases hat with h | ⟨b, hb, hbs⟩
          · exact hrow g hg' hne (e.trans h.symm)
          · have := (h5 g hg').1.lt b (e.trans hb)
            omega
        exact ⟨hd, hd.symm⟩
    by_cases hk : k ∈ gs.map Prod.fst
    · obtain ⟨p1, p2, e, p3, p4⟩ := put_in k v' gs es.toList h2 hk
      refine ⟨w1.putObj r (.map (es.modify (idxV k gs) fun e => { e with key := .int .i64 k, val := v' }) es.size), ?_, key _ (es.modify (idxV k gs) fun e => { e with key := .int .i64 k, val := v' }) (grown_put _ _ _) ?_ ?_ ?_, grown_put _ _ _⟩
      · unfold Instr.mapUpdate Instr.findKey
        have hst : (Instr.keyThatStays (((es[idxV k gs]?).map (·.key)).getD (.int .i64 k)) (.int .i64 k)).run Try.prog w1 = .ok (.int .i64 k) w1 := by
          rw [← Array.getElem?_toList, p3]
          simp only [Option.map_some, Option.getD_some, p4]
          simp [Instr.keyThatStays, Instr.sameBits]
        simp only [Sem.run_bind, run_underlying Try.underlying89, run_underlying Try.underlying3, Result.andThen_ok, getMap hm1, ckInt, find_kvs k gs es.toList 0 h2, Sem.run_pure, if_pos hk, Nat.zero_add, hst, setMap hm1]
      · rw [World.putObj_heap_same (Array.getElem?_eq_some_iff.1 hm1).1]
        simp
      · simpa using p1
      · simpa using p2.trans h3
    · refine ⟨w1.putObj r (.map (es.push { key := .int .i64 k, val := v', born := es.size }) (es.size + 1)), ?_, key _ (es.push { key := .int .i64 k, val := v', born := es.size }) (grown_put _ _ _) ?_ ?_ ?_, grown_put _ _ _⟩
      · unfold Instr.mapUpdate Instr.findKey
        simp only [Sem.run_bind, run_underlying Try.underlying89, run_underlying Try.underlying3, Result.andThen_ok, getMap hm1, ckInt, find_kvs k gs es.toList 0 h2, Sem.run_pure, if_neg hk, setMap hm1]
      · rw [World.putObj_heap_same (Array.getElem?_eq_some_iff.1 hm1).1]
        simp
      · rw [put_out k v' gs hk]
        simp [kvs, h2]
      · simp [h3, List.range_succ]
end Go.Proofs.Ytdlalmbnkcadfaa
/- device: by, the walk. -/
namespace Go.Proofs.Ytdlalmbnkcadfaa
open Go.RowKit

theorem info_bs : (Try.prog.info? 22).map (fun i => (i.zero, i.size, i.bytes)) = some (some (.slice none 0 0), 1, 24) := by kernel_rfl
set_option maxRecDepth 100000 in
set_option maxHeartbeats 3200000 in
theorem by_any (A PA : Option Addr) (n c pc B : Nat) (X : List Nat) (qs : List Rec) (w : World) (hPO : PO w B X (.slice PA qs.length pc) qs) (hl : qs.length ≤ 100000) :
    Calls Try.prog 62 #[.agg #[.slice A n c, .slice PA qs.length pc]] w fun e w' => ∃ r, e = .returned (.map (some r)) ∧ Ext w w' ∧ GM w' w.heap.size r qs := by
  have hmm := @run_makeMap Try.prog
  obtain ⟨i0, hi0, hz0, hz1, hz2⟩ := info_parts info_bs
  go_enter Try.func62, Try.ntmps62
  go_wp2_with fail
  have hEw : Ext w ((w.alloc (.cells #[.slice A n c, .slice PA qs.length pc] 84)).alloc (.map #[] 0)) := ((Ext.refl w).alloc _).alloc _
  have hG0 : GM ((w.alloc (.cells #[.slice A n c, .slice PA qs.length pc] 84)).alloc (.map #[] 0)) w.heap.size (w.heap.size + 1) [] := GM.start (by have := heap_new (w.alloc (.cells #[.slice A n c, .slice PA qs.length pc] 84)) (.map #[] 0); simpa using this)
  go_loopw [11] (fun vk wr => ∃ k : Nat, k ≤ qs.length ∧ vk = .int .i64 k ∧ Ext w wr ∧ GM wr w.heap.size (w.heap.size + 1) (qs.take k)) (fun vk _ => qs.length - (intOf vk).toNat)
  case atStart => exact ⟨0, Nat.zero_le _, rfl, hEw, hG0⟩
  case round =>
    clear hEw hG0 hmm
    obtain ⟨k, hk, rfl, hE, hG⟩ := hrel
    by_cases hlt : k < qs.length
    · have hPr := hPO.ext hE
      obtain ⟨rb, pc', hv, hBr, e1, e2⟩ := hPr.at hlt
      simp only [Value.slice.injEq, true_and] at hv
      obtain ⟨rfl, rfl⟩ := hv
      have hE' := Lib.hid hE
      clear hE
      go_wp2_with fail
      obtain ⟨V, hV, hEV, hzV, kx⟩ := box1 wr #[.int .i64 qs[k].1.blk, .slice qs[k].2.1 qs[k].1.bs.length qs[k].2.2] 49
      rw [hV]; clear hV
      have hGV := hG.ext hEV
      have hsV := hzV.out
      have hwr : w.heap.size + 1 < wr.heap.size := hG.lt
      obtain ⟨v, hown, hlk, hput⟩ := hGV.look qs[k].1.blk
      have x0 := kx.cell 0
      have x1 := kx.cell 1
      simp at x0 x1
      obtain ⟨mo, hmo⟩ : ∃ mo, V.heap[w.heap.size + 1]? = mo := ⟨_, rfl⟩
      rw [hmo] at hlk
      have Hput := Lib.hid hput
      have hvr : some wr.heap.size ≠ v.ownBlock := fun e => by
        obtain ⟨cur, hc⟩ := own_type hown e.symm
        exact Bk.ne kx hc (by decide) rfl
      have hgl : (grp (qs.take k) qs[k].1.blk).length ≤ 100000 := by
        have := List.length_filter_le (fun q : Rec => q.1.blk == qs[k].1.blk) (qs.take k)
        unfold grp
        simp at this ⊢; omega
      have HE2 := Lib.hid hE'.out.size
      have hlk1 := hlk V.drew hmo
      have hlk2 := hlk (V.alloc (.cells #[.slice qs[k].2.1 qs[k].1.bs.length qs[k].2.2] 22)).drew (by rw [← hmo]; exact Below.heap_alloc V _ _ (by omega))
      have Hk : Hid (∀ w1, V.grownBy w1 v.ownBlock → w1.cell? ⟨wr.heap.size, 0, none⟩ = some (.int .i64 qs[k].1.blk) ∧ w1.cell? ⟨wr.heap.size, 1, none⟩ = some (.slice qs[k].2.1 qs[k].1.bs.length qs[k].2.2)) := fun w1 hg =>
        ⟨(World.cell?_of_block (hg.block wr.heap.size (by omega) hvr)).trans x0, (World.cell?_of_block (hg.block wr.heap.size (by omega) hvr)).trans x1⟩
      have Hkk : Hid (∀ w1 w2 : World, (w1.cell? ⟨wr.heap.size, 0, none⟩ = some (.int .i64 qs[k].1.blk) ∧ w1.cell? ⟨wr.heap.size, 1, none⟩ = some (.slice qs[k].2.1 qs[k].1.bs.length qs[k].2.2)) → w1.grownBy w2 (some (w.heap.size + 1)) →
          w2.cell? ⟨wr.heap.size, 0, none⟩ = some (.int .i64 qs[k].1.blk) ∧ w2.cell? ⟨wr.heap.size, 1, none⟩ = some (.slice qs[k].2.1 qs[k].1.bs.length qs[k].2.2)) := fun w1 w2 h hg => by
        have hl := cell_lt h.1
        have hne : some wr.heap.size ≠ some (w.heap.size + 1) := by simp; omega
        exact ⟨(World.cell?_of_block (hg.block wr.heap.size hl hne)).trans h.1, (World.cell?_of_block (hg.block wr.heap.size hl hne)).trans h.2⟩
      have hVs : w.heap.size ≤ V.heap.size := by omega
      clear hput hPr hPO e1 e2 hG hGV kx hlk hvr hmo hsV
      go_region_held3 (fun w' => w'.cell? ⟨wr.heap.size, 0, none⟩ = some (.int .i64 qs[k].1.blk) ∧ w'.cell? ⟨wr.heap.size, 1, none⟩ = some (.slice qs[k].2.1 qs[k].1.bs.length qs[k].2.2))
        (first
          | exact ⟨x0, x1⟩
          | exact ⟨cellExt (((Ext.refl V).alloc _).drew) x0, cellExt (((Ext.refl V).alloc _).drew) x1⟩
          | exact Hkk.out _ _ (Hk.out _ ((((Ext.refl V).alloc _).drew.grownBy _).trans hgrow)) hg2
          | exact Hk.out _ ((((Ext.refl V).alloc _).drew.grownBy _).trans hgrow))
        ((refine step_append_lies _ (by rfl) _ _ _ (by rfl) w.heap.size 22 i0 _ 1 24 Try.underlying91 hi0 hz0 hz1 hz2 (by rfl) (by omega) v (grp (qs.take k) qs[k].1.blk).length (gcells (grp (qs.take k) qs[k].1.blk)) (by rfl) ((hown.alloc _).drew)
              ⟨V.heap.size, 0, none⟩ 1 1 [.slice qs[k].2.1 qs[k].1.bs.length qs[k].2.2] (by rfl) (by rfl) (World.news_of_block (cs := #[.slice qs[k].2.1 qs[k].1.bs.length qs[k].2.2]) (t := 22) (fr := (0, 0)) (heap_alloc_new V _)) (by simp [Value.oneCell'])
              (by omega) (by simp only [maxLen]; omega) (by omega) (by simp; omega) (V.heap.size + 1) (by simp) ?_; intro gg cap w1 hown1 hgrow hat hlt1; obtain ⟨w2, hup, hG2, hg2⟩ := Hput.out w1 qs[k] _ rfl ((((Ext.refl V).alloc _).drew.grownBy _).trans hgrow) hown1 (hat.imp id (fun h => ⟨gg, rfl, by omega⟩))))
      all_goals
        have HG2 : Hid (GM w2 w.heap.size (w.heap.size + 1) (qs.take (k + 1))) := by
          show GM _ _ _ _
          rw [List.take_succ_eq_append_getElem hlt]; exact hG2
        have HE3 : Hid (Ext w w2) := by
          have h1 : Ext w V := hE'.out.trans hEV
          have h2 : w.grownBy w1 (v.ownBlock) := (h1.grownBy _).trans ((((Ext.refl V).alloc _).drew.grownBy _).trans hgrow)
          have h3 : Below w.heap.size w w1 := (Below.mono h1 (Nat.le_refl _)).grown ((((Ext.refl V).alloc (.cells #[.slice qs[k].2.1 qs[k].1.bs.length qs[k].2.2] 22)).drew.grownBy _).trans hgrow) h1.size (fun y hy => (hown.lt y hy).1)
          exact h3.grown hg2 h3.size (fun y hy => by cases hy; omega)
        clear hG2 hg2 hup hgrow hown1 hown hlk1 hlk2 hat
        go_wp2
        go_roundw
        case rel => exact ⟨k + 1, by omega, by go_num, HE3.out, HG2.out⟩
        case measure => simp [intOf]; omega
    · obtain rfl : k = qs.length := by omega
      rw [List.take_length] at hG
      have HG := Lib.hid hG
      have HE := Lib.hid hE
      clear hG hE
      go_wp2
      go_ret
      exact ⟨_, rfl, HE.out, HG.out⟩
end Go.Proofs.Ytdlalmbnkcadfaa
