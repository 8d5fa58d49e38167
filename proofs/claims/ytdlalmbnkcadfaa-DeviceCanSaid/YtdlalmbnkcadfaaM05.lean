/- device: the steps that have been tried: a map keyed by a struct. -/
import Derived.Test.YtdlalmbnkcadfaaM03
import Derived.Test.YtdlalmbnkcadfaaM04
import Derived.Test.YtdlalmbnkcadfaaM02
import Derived.Laws.CopyOwn
namespace Go.Proofs.Ytdlalmbnkcadfaa
open Go.RowKit

theorem part_bool (xs : Array Value) (i : Nat) (b : Bool) (w : World) (h : xs[i]? = some (.bool b)) : (part 4 xs i).run Try.prog w = .ok (.bool b) w := by
  unfold part
  go_simp
theorem eqArr (d : Nat) (a0 a1 a2 a3 a4 b0 b1 b2 b3 b4 : Bool) (w : World) :
    (Op.equalIn (d + 1 + 1) 118 (.agg #[.bool a0, .bool a1, .bool a2, .bool a3, .bool a4]) (.agg #[.bool b0, .bool b1, .bool b2, .bool b3, .bool b4])).run Try.prog w = .ok (decide ([a0, a1, a2, a3, a4] = [b0, b1, b2, b3, b4])) w := by
  have hs : ∀ w, (sizeOf 4).run Try.prog w = .ok 1 w := fun w => by go_simp
  have p0 := fun (xs : Array Value) (b : Bool) (w : World) (h : xs[0]? = some (.bool b)) => part_bool xs 0 b w h
  unfold Op.equalIn
  simp only [Sem.run_bind, run_underlying Try.underlying118, Result.andThen_ok, hs]
  simp only [Std.Legacy.Range.forIn_eq_forIn_range', Std.Legacy.Range.size, List.range', List.forIn_cons, List.forIn_nil, Sem.run_bind]
  have g : ∀ (xs : Array Value) (i : Nat) (b : Bool) (w : World), xs[i]? = some (.bool b) → (part 4 xs i).run Try.prog w = .ok (.bool b) w := part_bool
  have q : ∀ (a b : Bool) (w : World), (Op.equalIn (d + 1) 4 (.bool a) (.bool b)).run Try.prog w = .ok (a == b) w := fun a b w => run_equalIn_bool' w d 4 a b Try.underlying4
  rw [g _ _ a0 w (by rfl), Result.andThen_ok, g _ _ b0 w (by rfl), Result.andThen_ok, q, Result.andThen_ok]
  by_cases h0 : a0 ≠ b0
  · have e : (a0 == b0) = false := by simpa using h0
    simp [e, h0]
  obtain rfl : a0 = b0 := Decidable.not_not.1 h0
  simp only [beq_self_eq_true, Bool.not_true, Bool.false_eq_true, if_false, Sem.run_pure, Result.andThen_ok, Sem.run_bind]
  rw [g _ _ a1 w (by rfl), Result.andThen_ok, g _ _ b1 w (by rfl), Result.andThen_ok, q, Result.andThen_ok]
  by_cases h1 : a1 ≠ b1
  · have e : (a1 == b1) = false := by simpa using h1
    simp [e, h1]
  obtain rfl : a1 = b1 := Decidable.not_not.1 h1
  simp only [beq_self_eq_true, Bool.not_true, Bool.false_eq_true, if_false, Sem.run_pure, Result.andThen_ok, Sem.run_bind]
  rw [g _ _ a2 w (by rfl), Result.andThen_ok, g _ _ b2 w (by rfl), Result.andThen_ok, q, Result.andThen_ok]
  by_cases h2 : a2 ≠ b2
  · have e : (a2 == b2) = false := by simpa using h2
    simp [e, h2]
  obtain rfl : a2 = b2 := Decidable.not_not.1 h2
  simp only [beq_self_eq_true, Bool.not_true, Bool.false_eq_true, if_false, Sem.run_pure, Result.andThen_ok, Sem.run_bind]
  rw [g _ _ a3 w (by rfl), Result.andThen_ok, g _ _ b3 w (by rfl), Result.andThen_ok, q, Result.andThen_ok]
  by_cases h3 : a3 ≠ b3
  · have e : (a3 == b3) = false := by simpa using h3
    simp [e, h3]
  obtain rfl : a3 = b3 := Decidable.not_not.1 h3
  simp only [beq_self_eq_true, Bool.not_true, Bool.false_eq_true, if_false, Sem.run_pure, Result.andThen_ok, Sem.run_bind]
  rw [g _ _ a4 w (by rfl), Result.andThen_ok, g _ _ b4 w (by rfl), Result.andThen_ok, q, Result.andThen_ok]
  by_cases h4 : a4 ≠ b4
  · have e : (a4 == b4) = false := by simpa using h4
    simp [e, h4]
  obtain rfl : a4 = b4 := Decidable.not_not.1 h4
  simp only [beq_self_eq_true, Bool.not_true, Bool.false_eq_true, if_false, Sem.run_pure, Result.andThen_ok]
  simp

abbrev Stp := Nat × List Bool
def stepV (s : Stp) : Value := .agg (Value.int .i64 (s.1 : Int) :: s.2.map Value.bool).toArray
theorem five {us : List Bool} (h : us.length = 5) : ∃ a b c d e, us = [a, b, c, d, e] := by
  match us, h with
  | [a, b, c, d, e], _ => exact ⟨a, b, c, d, e, rfl⟩
theorem part_used (x : Value) (a0 a1 a2 a3 a4 : Bool) (w : World) : (part 118 #[x, .bool a0, .bool a1, .bool a2, .bool a3, .bool a4] 1).run Try.prog w = .ok (.agg #[.bool a0, .bool a1, .bool a2, .bool a3, .bool a4]) w := by kernel_rfl
theorem part_at (k : Int) (a0 a1 a2 a3 a4 : Bool) (w : World) : (part 3 #[.int .i64 k, .bool a0, .bool a1, .bool a2, .bool a3, .bool a4] 0).run Try.prog w = .ok (.int .i64 k) w := by kernel_rfl
theorem stepFields : ∃ a b, Try.prog.fieldsOf 120 = #[a, b] ∧ a.name ≠ "_" ∧ b.name ≠ "_" ∧ a.type = 3 ∧ b.type = 118 ∧ a.offset = 0 ∧ b.offset = 1 :=
  ⟨(Try.prog.fieldsOf 120)[0]!, (Try.prog.fieldsOf 120)[1]!, by kernel_rfl, by decide +kernel, by decide +kernel, by kernel_rfl, by kernel_rfl, by kernel_rfl, by kernel_rfl⟩
theorem stepDesc : Try.prog.underlying 120 = some (.struct (Try.prog.fieldsOf 120)) := by kernel_rfl
theorem eqStepIn (d : Nat) (k j : Nat) (a0 a1 a2 a3 a4 b0 b1 b2 b3 b4 : Bool) (w : World) :
    (Op.equalIn (d + 1 + 1 + 1) 120 (.agg #[.int .i64 (k : Int), .bool a0, .bool a1, .bool a2, .bool a3, .bool a4]) (.agg #[.int .i64 (j : Int), .bool b0, .bool b1, .bool b2, .bool b3, .bool b4])).run Try.prog w =
      .ok (decide ((k, [a0, a1, a2, a3, a4]) = (j, [b0, b1, b2, b3, b4]))) w := by
  obtain ⟨f, g, hf, f1, g1, f2, g2, f3, g3⟩ := stepFields
  rw [run_equalIn_agg w (d + 1 + 1) 120 _ _ stepDesc (by kernel_rfl), hf]
  simp only [Op.eqFields, f1, g1, ne_eq, not_false_eq_true, if_true, Sem.run_bind, f2, g2, f3, g3]
  rw [part_at, Result.andThen_ok, part_at, Result.andThen_ok, run_equalIn_int w (d + 1) 3 .i64 .i64 _ _ Try.underlying3, Result.andThen_ok]
  by_cases hk : k = j
  · subst hk
    simp only [beq_self_eq_true, Bool.not_true, Bool.false_eq_true, if_false]
    rw [Sem.run_bind, part_used, Result.andThen_ok, Sem.run_bind, part_used, Result.andThen_ok, Sem.run_bind, eqArr, Result.andThen_ok]
    by_cases h : [a0, a1, a2, a3, a4] = [b0, b1, b2, b3, b4]
    · simp [h]
    · simp [h]
  · have e : ((k : Int) == (j : Int)) = false := by simp; omega
    simp [e, hk]
theorem eqStep {s t : Stp} (hs : s.2.length = 5) (ht : t.2.length = 5) (w : World) : (Op.equal 120 (stepV s) (stepV t)).run Try.prog w = .ok (decide (s = t)) w := by
  obtain ⟨k, us⟩ := s
  obtain ⟨j, vs⟩ := t
  obtain ⟨a0, a1, a2, a3, a4, rfl⟩ := five hs
  obtain ⟨b0, b1, b2, b3, b4, rfl⟩ := five ht
  exact eqStepIn 9997 k j a0 a1 a2 a3 a4 b0 b1 b2 b3 b4 w
theorem ckStep {s : Stp} (hs : s.2.length = 5) (e : Bool) (w : World) : (Instr.checkKey e 10000 120 (stepV s)).run Try.prog w = .ok () w := by
  obtain ⟨k, us⟩ := s
  obtain ⟨a0, a1, a2, a3, a4, rfl⟩ := five hs
  kernel_rfl
theorem findStep {s : Stp} (hs : s.2.length = 5) (w : World) : ∀ (ks : List Stp) (es : List MapEntry) (i : Nat), es.map (fun e => (e.key, e.val)) = ks.map (fun k => (stepV k, Value.bool true)) → (∀ k ∈ ks, k.2.length = 5) →
    ∃ j, (Instr.findAsking 120 (stepV s) es i).run Try.prog w = .ok (if s ∈ ks then some (j, .bool true) else none) w
  | [], [], i, _, _ => ⟨0, rfl⟩
  | [], _ :: _, _, h, _ => by simp at h
  | _ :: _, [], _, h, _ => by simp at h
  | k :: ks, e :: es, i, h, h5 => by
    simp only [List.map_cons, List.cons.injEq, Prod.mk.injEq] at h
    obtain ⟨⟨h1, h2⟩, h3⟩ := h
    unfold Instr.findAsking
    simp only [Sem.run_bind, h1, eqStep hs (h5 k (List.mem_cons_self ..)), Result.andThen_ok]
    by_cases hk : s = k
    · exact ⟨i, by simp [hk, h2]⟩
    · obtain ⟨j, hj⟩ := findStep hs w ks es (i + 1) h3 (fun k hk => h5 k (List.mem_cons_of_mem _ hk))
      exact ⟨j, by simp [hk, hj]⟩
/-- The map of the steps that have been tried. -/
def TM (w : World) (r : Nat) (ks : List Stp) : Prop := ∃ es clk, w.heap[r]? = some (.map es clk) ∧ es.toList.map (fun e => (e.key, e.val)) = ks.map (fun k => (stepV k, Value.bool true)) ∧ ∀ k ∈ ks, k.2.length = 5
theorem getMap {w : World} {r c : Nat} {es : Array MapEntry} (h : w.heap[r]? = some (.map es c)) : (getObj r).run Try.prog w = .ok (.map es c) w := by simp [getObj, Sem.run, h]
theorem setMap {w : World} {r c : Nat} {es : Array MapEntry} {o' : Obj} (h : w.heap[r]? = some (.map es c)) : (setObj r o').run Try.prog w = .ok () (w.putObj r o') := by simp [setObj, Sem.run, h, World.putObj]
theorem TM.find {w : World} {s : Stp} (hs : s.2.length = 5) {ks : List Stp} {es : Array MapEntry} (h2 : es.toList.map (fun e => (e.key, e.val)) = ks.map (fun k => (stepV k, Value.bool true))) (h3 : ∀ k ∈ ks, k.2.length = 5) :
    ∃ j, (Instr.findKey 120 (stepV s) es.toList).run Try.prog w = .ok (if s ∈ ks then some (j, .bool true) else none) w := by
  obtain ⟨j, hj⟩ := findStep hs w ks es.toList 0 h2 h3
  unfold Instr.findKey
  simp only [Sem.run_bind, run_underlying stepDesc, Result.andThen_ok]
  cases hes : es.toList with
  | nil =>
    rw [hes] at h2
    have : ks = [] := by simpa using h2.symm
    subst this
    exact ⟨0, by simp [Instr.findNow]⟩
  | cons e r =>
    refine ⟨j, ?_⟩
    have hn : Instr.findNow (.struct (Try.prog.fieldsOf 120)) (stepV s) (e :: r) 0 = none := by
      unfold Instr.findNow
      simp [Instr.sameNow]
    rw [hn, ← hes]
    exact hj
theorem TM.lookup {w : World} {r : Nat} {ks : List Stp} (h : TM w r ks) {s : Stp} (hs : s.2.length = 5) : (Instr.lookup 116 (.map (some r)) (stepV s) false).run Try.prog w = .ok (.bool (decide (s ∈ ks))) w := by
  obtain ⟨es, clk, h1, h2, h3⟩ := h
  obtain ⟨j, hj⟩ := TM.find (w := w) hs h2 h3
  have hz : (zeroValue 4).run Try.prog w = .ok (.bool false) w := by kernel_rfl
  unfold Instr.lookup
  simp only [Sem.run_bind, run_underlying Try.underlying116, Result.andThen_ok, Sem.run_pure, getMap h1, ckStep hs, hj]
  by_cases hk : s ∈ ks
  · simp [hk]
  · simp [hk, hz]
theorem TM.lt {w : World} {r : Nat} {ks : List Stp} (h : TM w r ks) : r < w.heap.size := by
  obtain ⟨es, clk, h1, _⟩ := h
  exact (Array.getElem?_eq_some_iff.1 h1).1
theorem grown_put (W : World) (l : Nat) (o : Obj) : W.grownBy (W.putObj l o) (some l) :=
  ⟨rfl, rfl, rfl, by simp, fun k _ hk => World.putObj_heap_other (fun e => hk (by rw [e]))⟩
theorem TM.update {w : World} {r : Nat} {ks : List Stp} (h : TM w r ks) {s : Stp} (hs : s.2.length = 5) (hn : s ∉ ks) :
    ∃ w', (Instr.mapUpdate 116 (.map (some r)) (stepV s) (.bool true)).run Try.prog w = .ok () w' ∧ TM w' r (ks ++ [s]) ∧ w.grownBy w' (some r) := by
  have hlt := h.lt
  obtain ⟨es, clk, h1, h2, h3⟩ := h
  obtain ⟨j, hj⟩ := TM.find (w := w) hs h2 h3
  refine ⟨w.putObj r (.map (es.push { key := stepV s, val := .bool true, born := clk }) (clk + 1)), ?_, ⟨_, _, World.putObj_heap_same hlt, ?_, ?_⟩, grown_put _ _ _⟩
  · unfold Instr.mapUpdate
    simp only [Sem.run_bind, run_underlying Try.underlying116, Result.andThen_ok, getMap h1, ckStep hs, hj, if_neg hn, setMap h1]
  · simp [h2]
  · intro k hk
    rcases List.mem_append.1 hk with hk | hk
    · exact h3 k hk
    · simp only [List.mem_singleton] at hk
      rw [hk]; exact hs
theorem TM.grown {w w' : World} {r : Nat} {ks : List Stp} (h : TM w r ks) {row : Option Nat} (hg : w.grownBy w' row) (hne : row ≠ some r) : TM w' r ks := by
  have hlt := h.lt
  obtain ⟨es, clk, h1, h2⟩ := h
  exact ⟨es, clk, (hg.block r hlt (fun e => hne e.symm)).trans h1, h2⟩
end Go.Proofs.Ytdlalmbnkcadfaa
/- device: what a write is. -/
namespace Go.Proofs.Ytdlalmbnkcadfaa
open Go.RowKit
attribute [local go_sem ↓] Go.wp_at_zero Go.wp_at_succ

set_option maxHeartbeats 400000 in
theorem blocks_any (A P : Option Addr) (n c m e : Nat) (w : World) (hn : n ≤ 9223372036854775807) :
    Calls Try.prog 63 #[.agg #[.slice A n c, .slice P m e]] w fun r w' => r = .returned (.int .i64 ((n / 32 : Nat) : Int)) ∧ Ext w w' := by
  go_enter Try.func63, Try.ntmps63
  go_wp2
  go_ret
  exact ⟨rfl, Ext.alloc (Ext.refl _) _⟩

theorem bcell {W w1 : World} (hb : Below W.heap.size W w1) : (∀ b o, b < W.heap.size → w1.cell? ⟨b, o, none⟩ = W.cell? ⟨b, o, none⟩) ∧ (∀ b o, b < W.heap.size → w1.frozen? ⟨b, o, none⟩ = W.frozen? ⟨b, o, none⟩) :=
  ⟨fun b o h => hb.cell (p := ⟨b, o, none⟩) h, fun b o h => hb.frozen (p := ⟨b, o, none⟩) h⟩
/-- x is a write of a device of nb blocks. -/
def okWr (nb : Nat) (x : Wr) : Bool := !outB 0 ((nb : Int) - 1) x.blk && decide (x.bs.length = 32)

theorem Is.one {w : World} {b o : Nat} {x : Int} (h : w.cell? ⟨b, o, none⟩ = some (.int .i64 x)) : Is w (some ⟨b, o, none⟩) [x] := fun j v hj => by
  match j, hj with
  | 0, hj => simp at hj; subst hj; exact ⟨b, o, rfl, h⟩

set_option maxRecDepth 100000 in
set_option maxHeartbeats 1000000 in
theorem isWrite_any (A P B : Option Addr) (n c m e d : Nat) (x : Wr) (w : World) (hn : n ≤ 9223372036854775807) (_hx : x.bs.length ≤ 9223372036854775807) :
    Calls Try.prog 82 #[.agg #[.slice A n c, .slice P m e], .agg #[.int .i64 x.blk, .slice B x.bs.length d]] w fun r w' => r = .returned (.bool (okWr (n / 32) x)) ∧ Ext w w' := by
  have hb : ((x.bs.length : Int) == 32) = decide (x.bs.length = 32) := by
    rw [Bool.eq_iff_iff]; simp; omega
  go_enter Try.func82, Try.ntmps82
  go_wp2
  obtain ⟨W, hW, hE, hz, k0, k1⟩ := box2 w #[.slice A n c, .slice P m e] #[.int .i64 x.blk, .slice B x.bs.length d] 84 49
  rw [hW]; clear hW
  have hS := Lib.hid (fun w' (h : Ext W w') => (⟨h, (k0.ext h).cell 0, (k0.ext h).cell 1, (k1.ext h).cell 0, (k1.ext h).cell 1⟩ : Ext W w' ∧ w'.cell? ⟨w.heap.size, 0, none⟩ = some (.slice A n c) ∧ w'.cell? ⟨w.heap.size, 1, none⟩ = some (.slice P m e) ∧ w'.cell? ⟨w.heap.size + 1, 0, none⟩ = some (.int .i64 x.blk) ∧ w'.cell? ⟨w.heap.size + 1, 1, none⟩ = some (.slice B x.bs.length d)))
  have hok : okWr (n / 32) x = (!outB 0 ((n : Int) / 32 - 1) x.blk && decide (x.bs.length = 32)) := rfl
  have hlo : (0 : Int) ≤ (n : Int) / 32 := by omega
  have hwr : IntKind.i64.wrap ((n : Int) / 32 - 1) = (n : Int) / 32 - 1 := IntWalk.i64_in _ (by omega)
  have hin0 : (!([x.blk].any (outB 0 ((n : Int) / 32 - 1)))) = !outB 0 ((n : Int) / 32 - 1) x.blk := by simp
  by_cases hin : outB 0 ((n : Int) / 32 - 1) x.blk = false
  · rw [hin] at hok hin0
    have hok' := Lib.hid hok
    have hin' := Lib.hid hin0
    clear hok hin0 hin
    refine wp_region_rel 14 (by kernel_rfl) (by kernel_rfl) (Ext.refl W).drew ?_
    (apply relW_fix
     · intro vs w' hw hf
       have hc := hS.out w' hw
       unfold okAt
       go_simp
       first | exact ⟨rfl, Ext.refl _⟩ | exact rfl
     · intro vs; go_simp; rfl)
    (apply relW_fix
     · intro vs w' hw hf
       have hc := hS.out w' hw
       skip
       unfold okAt
       go_simp
       refine ⟨Ext.refl _, ?_⟩
       go_at_call 63
       refine (blocks_any A P n c m e _ hn).mono ?_; rintro e w2 ⟨rfl, hb⟩; exact ⟨_, rfl, rfl, hb⟩
     · intro vs; go_simp; rfl)
    repeat (apply relW_fix
            · intro vs w' hw hf
              have hc := hS.out w' hw
              unfold okAt
              go_simp
              first | exact ⟨rfl, Ext.refl _⟩ | exact rfl
            · intro vs; go_simp; rfl)
    (apply relW_any (SV.is [x.blk])
     · intro vs w' hw hf
       have hc := hS.out w' hw
       skip
       unfold okAt
       go_simp
       exact ⟨⟨_, _, rfl, Is.one (new_cell0 _ _ _ _)⟩, (Ext.refl _).alloc _⟩
     · intro vs; go_simp; rfl)
    (apply relW_fix
     · intro vs w' hw hf
       have hc := hS.out w' hw
       obtain ⟨p5, q5, e5, h5⟩ := hf.out.1 (by kernel_rfl)
       unfold okAt
       go_simp
       refine ⟨Ext.refl _, ?_⟩
       go_at_call 52
       refine (within_b true _ _ [x.blk] _ _ _ (by simp) h5 ?_).mono ?_; (exact hin'.out); rintro e w2 ⟨rfl, hb⟩; exact ⟨_, rfl, rfl, hb⟩
     · intro vs; go_simp; rfl)
    repeat (apply relW_fix
            · intro vs w' hw hf
              have hc := hS.out w' hw
              unfold okAt
              go_simp
              first | exact ⟨rfl, Ext.refl _⟩ | exact rfl
            · intro vs; go_simp; rfl)
    refine relW_nil fun vs w' hw hf => ?_
    refine wpList_nil ?_
    go_wp2
    go_ret
    exact ⟨ret_bool (by rw [hok'.out]; simp), hE.trans hw⟩
  · have hin1 : outB 0 ((n : Int) / 32 - 1) x.blk = true := by simpa using hin
    rw [hin1] at hok hin0
    have hok' := Lib.hid hok
    have hin' := Lib.hid hin0
    clear hok hin0 hin1 hin
    refine wp_region_rel 14 (by kernel_rfl) (by kernel_rfl) (Ext.refl W).drew ?_
    (apply relW_fix
     · intro vs w' hw hf
       have hc := hS.out w' hw
       unfold okAt
       go_simp
       first | exact ⟨rfl, Ext.refl _⟩ | exact rfl
     · intro vs; go_simp; rfl)
    (apply relW_fix
     · intro vs w' hw hf
       have hc := hS.out w' hw
       skip
       unfold okAt
       go_simp
       refine ⟨Ext.refl _, ?_⟩
       go_at_call 63
       refine (blocks_any A P n c m e _ hn).mono ?_; rintro e w2 ⟨rfl, hb⟩; exact ⟨_, rfl, rfl, hb⟩
     · intro vs; go_simp; rfl)
    repeat (apply relW_fix
            · intro vs w' hw hf
              have hc := hS.out w' hw
              unfold okAt
              go_simp
              first | exact ⟨rfl, Ext.refl _⟩ | exact rfl
            · intro vs; go_simp; rfl)
    (apply relW_any (SV.is [x.blk])
     · intro vs w' hw hf
       have hc := hS.out w' hw
       skip
       unfold okAt
       go_simp
       exact ⟨⟨_, _, rfl, Is.one (new_cell0 _ _ _ _)⟩, (Ext.refl _).alloc _⟩
     · intro vs; go_simp; rfl)
    (apply relW_fix
     · intro vs w' hw hf
       have hc := hS.out w' hw
       obtain ⟨p5, q5, e5, h5⟩ := hf.out.1 (by kernel_rfl)
       unfold okAt
       go_simp
       refine ⟨Ext.refl _, ?_⟩
       go_at_call 52
       refine (within_b false _ _ [x.blk] _ _ _ (by simp) h5 ?_).mono ?_; (exact hin'.out); rintro e w2 ⟨rfl, hb⟩; exact ⟨_, rfl, rfl, hb⟩
     · intro vs; go_simp; rfl)
    repeat (apply relW_fix
            · intro vs w' hw hf
              have hc := hS.out w' hw
              unfold okAt
              go_simp
              first | exact ⟨rfl, Ext.refl _⟩ | exact rfl
            · intro vs; go_simp; rfl)
    refine relW_nil fun vs w' hw hf => ?_
    refine wpList_nil ?_
    go_wp2
    go_ret
    exact ⟨ret_bool (by rw [hok'.out]; simp), hE.trans hw⟩
end Go.Proofs.Ytdlalmbnkcadfaa
/- device: copies of bytes and of writes; a block; a write that gets there with a part. -/
namespace Go.Proofs.Ytdlalmbnkcadfaa
open Go.RowKit

/-- The call's own row of bytes: block g holds bs, and spare cells behind. -/
def OB (w : World) (g cap : Nat) (bs : BL) : Prop := ∃ more : List Value, bs.length + more.length = cap ∧ Bk w g (bcells bs ++ more).toArray 5
section
variable {w w' : World} {g cap : Nat} {bs : BL}
theorem OB.lt (h : OB w g cap bs) : g < w.heap.size := by obtain ⟨m, _, h⟩ := h; exact h.lt
theorem OB.ext (h : OB w g cap bs) (e : Ext w w') : OB w' g cap bs := by obtain ⟨m, h1, h⟩ := h; exact ⟨m, h1, h.ext e⟩
theorem OB.grown {row : Option Nat} (h : OB w g cap bs) (e : w.grownBy w' row) (hne : some g ≠ row) : OB w' g cap bs := by obtain ⟨m, h1, h⟩ := h; exact ⟨m, h1, h.grown e hne⟩
theorem OB.far (h : OB w g cap bs) {p : Addr} (hp : g ≠ p.block) (u : Value) : OB (w.setCell p u) g cap bs := by obtain ⟨m, h1, h⟩ := h; exact ⟨m, h1, h.far hp u⟩
theorem OB.by (h : OB w g cap bs) : By w (some ⟨g, 0, none⟩) bs := by
  obtain ⟨m, _, h⟩ := h
  intro j v hj
  have hlt : j < (bcells bs).length := (List.getElem?_eq_some_iff.1 hj).1
  exact ⟨g, 0, rfl, by rw [h.cell]; simp only [List.getElem?_toArray, Nat.zero_add]; rw [List.getElem?_append_left hlt]; exact hj⟩
/-- A part of the row, read. -/
theorem OB.sub (h : OB w g cap bs) (o k : Nat) (hk : o + k ≤ bs.length) : By w (some ⟨g, o, none⟩) ((bs.drop o).take k) := by
  obtain ⟨m, _, h⟩ := h
  intro j v hj
  have hlt : j < (bcells ((bs.drop o).take k)).length := (List.getElem?_eq_some_iff.1 hj).1
  simp at hlt
  refine ⟨g, o, rfl, ?_⟩
  rw [h.cell]
  simp only [List.getElem?_toArray]
  rw [List.getElem?_append_left (by simp; omega)]
  rw [← hj]
  simp only [bcells, List.getElem?_map, List.getElem?_take, List.getElem?_drop]
  rw [if_pos (by omega)]
theorem By.sub {A : Option Addr} {b o : Nat} (h : By w A bs) (hA : A = some ⟨b, o, none⟩) (i k : Nat) : By w (some ⟨b, o + i, none⟩) ((bs.drop i).take k) := by
  subst hA
  intro j v hj
  have hlt : j < (bcells ((bs.drop i).take k)).length := (List.getElem?_eq_some_iff.1 hj).1
  simp at hlt
  obtain ⟨b', o', e, hc⟩ := h (i + j) v (by
    rw [← hj]
    simp only [bcells, List.getElem?_map, List.getElem?_take, List.getElem?_drop]
    rw [if_pos (by omega)])
  simp only [Option.some.injEq, Addr.mk.injEq] at e
  obtain ⟨rfl, rfl, _⟩ := e
  exact ⟨_, _, rfl, by rw [Nat.add_assoc]; exact hc⟩
end

theorem info_u8 : (Try.prog.info? 5).map (fun i => (i.zero, i.size, i.bytes)) = some (some (.int .u8 0), 1, 1) := by kernel_rfl
theorem u8size : (Try.prog.info? 5).map (·.size) = some 1 := by kernel_rfl

theorem ob_of_own {w : World} {B : Nat} {g n cap : Nat} {bs : BL} (h : w.ownsRow B 5 1 (.slice (some ⟨g, 0, none⟩) n cap) n (bcells bs)) : OB w g cap bs ∧ B ≤ g ∧ n ≤ cap ∧ n = bs.length := by
  obtain ⟨h1, h2⟩ := h
  rcases h2 with ⟨hv, _⟩ | ⟨g', cap', cur, hv, hB, hg, hn, _, hz, ht⟩
  · cases hv
  · injection hv with e1 e2 e3
    simp only [Option.some.injEq, Addr.mk.injEq] at e1
    obtain ⟨rfl, _⟩ := e1
    subst e3
    have hn' : n = bs.length := by simp at h1; omega
    refine ⟨⟨cur.toList.drop n, ?_, ?_⟩, hB, hn, hn'⟩
    · simp; omega
    · have : (bcells bs ++ cur.toList.drop n).toArray = cur := by
        rw [← ht]; simp
      rw [this]; exact hg

/-- bytes.Clone: nil or of no byte; else new bytes. -/
theorem clone_any (A : Option Addr) (c : Nat) (bs : BL) (w : World) (hA : By w A bs) (hl : bs.length ≤ 100000) :
    Calls Try.prog 80 #[.slice A bs.length c] w fun e w' => ∃ A' c', e = .returned (.slice A' bs.length c') ∧ bs.length ≤ c' ∧ By w' A' bs ∧ Ext w w' ∧
      (∀ a, A' = some a → w.heap.size ≤ a.block ∧ a.block < w'.heap.size) ∧ (bs ≠ [] → ∃ g, A' = some ⟨g, 0, none⟩ ∧ OB w' g c' bs) := by
  rcases A with _ | a
  · obtain rfl := hA.of_none
    refine (Try.bytes_Clone_nil 0 c w).mono fun e w' ⟨he, hw⟩ => ?_
    subst hw
    exact ⟨none, 0, he, Nat.le_refl _, By.nil _ _, Ext.refl _, (by intro _ h; cases h), fun h => absurd rfl h⟩
  · refine (Try.bytes_Clone_at a bs.length c (bs.map fun b => (b.toNat : Int)) w (by simp) (by omega) (fun i hi => ?_)).mono fun e w' ⟨v, he, hown, hnn, hb⟩ => ?_
    · obtain ⟨b, o, e1, h1⟩ := hA.at hi
      obtain rfl := Option.some.inj e1
      rw [show (Addr.add ⟨b, o, none⟩ i) = ⟨b, o + i, none⟩ from by unfold Addr.add; split <;> simp_all]
      rw [h1]; simp [List.getD, hi]
    · have hc : (bs.map fun b => (b.toNat : Int)).map (Value.int .u8) = bcells bs := by simp [bcells]
      rw [hc] at hown
      rcases hown.2 with ⟨hv, _⟩ | ⟨g, cap, cur, hv, hr⟩
      · exact absurd hv hnn
      · subst hv
        obtain ⟨ho, hB, hn, _⟩ := ob_of_own hown
        exact ⟨_, _, he, hn, ho.by, hb, fun a ha => (by obtain rfl := Option.some.inj ha; exact ⟨hB, ho.lt⟩), fun _ => ⟨g, rfl, ho⟩⟩

def SV.by_ (B : Nat) (bs : BL) : SV := ⟨fun v w => ∃ A c, v = .slice A bs.length c ∧ bs.length ≤ c ∧ By w A bs ∧ ∀ a, A = some a → B ≤ a.block ∧ a.block < w.heap.size, fun ⟨A, c, h1, h2, h3, h4⟩ e => ⟨A, c, h1, h2, h3.ext e, fun a ha => ⟨(h4 a ha).1, Nat.lt_of_lt_of_le (h4 a ha).2 e.size⟩⟩⟩
/-- A write, its bytes in memory from B on. -/
def WrV (w : World) (B : Nat) (v : Value) (x : Wr) : Prop := ∃ A c, v = .agg #[.int .i64 x.blk, .slice A x.bs.length c] ∧ x.bs.length ≤ c ∧ By w A x.bs ∧ ∀ a, A = some a → B ≤ a.block ∧ a.block < w.heap.size

set_option maxRecDepth 100000 in
set_option maxHeartbeats 1000000 in
theorem own_any (A : Option Addr) (c : Nat) (x : Wr) (w : World) (hA : By w A x.bs) (hl : x.bs.length ≤ 100000) :
    Calls Try.prog 83 #[.agg #[.int .i64 x.blk, .slice A x.bs.length c]] w fun e w' => ∃ v, e = .returned v ∧ WrV w' w.heap.size v x ∧ Ext w w' := by
  go_enter Try.func83, Try.ntmps83
  go_wp2
  obtain ⟨W, hW, hE, hz, k0, k1⟩ := box2 w #[.int .i64 x.blk, .slice A x.bs.length c] #[.int .i64 0, .slice none 0 0] 49 49
  rw [hW]; clear hW
  have hS := Lib.hid (fun w' (h : Ext W w') => (⟨h, (k0.ext h).cell 0, (k0.ext h).cell 1⟩ : Ext W w' ∧ w'.cell? ⟨w.heap.size, 0, none⟩ = some (.int .i64 x.blk) ∧ w'.cell? ⟨w.heap.size, 1, none⟩ = some (.slice A x.bs.length c)))
  have HA := Lib.hid (hA.ext hE)
  refine wp_region_rel 5 (by kernel_rfl) (by kernel_rfl) (Ext.refl W).drew ?_
  repeat (apply relW_fix
          · intro vs w' hw hf
            have hc := hS.out w' hw
            unfold okAt
            go_simp
            first | exact ⟨rfl, Ext.refl _⟩ | exact rfl
          · intro vs; go_simp; rfl)
  (apply relW_any (SV.by_ W.heap.size x.bs)
   · intro vs w' hw hf
     have hc := hS.out w' hw
     skip
     unfold okAt
     go_simp
     refine ⟨Ext.refl _, ?_⟩; go_at_call 80; refine (clone_any A c x.bs _ (HA.out.ext hw) hl).mono ?_; rintro e w2 ⟨A', c', rfl, h1, h2, h3, h4, h5⟩; exact ⟨_, rfl, ⟨A', c', rfl, h1, h2, fun a ha => (by have := hw.size; have := h4 a ha; exact ⟨by omega, by omega⟩)⟩, h3⟩
   · intro vs; go_simp; rfl)
  refine relW_nil fun vs w' hw hf => ?_
  obtain ⟨⟨A', c', e4, h1, h2, h3⟩, _⟩ := hf
  have hc := hS.out w' hw
  have b0 := (k1.ext hw).cell 0
  have b1 := (k1.ext hw).cell 1
  have f0 := (k1.ext hw).frozen 0
  have f1 := (k1.ext hw).frozen 1
  simp at b0 b1
  go_wp2
  have hz' := hz.out
  have hlo : ∀ a, A' = some a → a.block ≠ w.heap.size + 1 := fun a ha => by have := h3 a ha; omega
  have kk := ((k1.ext hw).set 0 (.int .i64 x.blk)).set 1 (.slice A' x.bs.length c')
  have r0 := kk.cell 0
  have r1 := kk.cell 1
  simp only [Array.setIfInBounds_def] at r0 r1
  refine bodyPost_ret (v := .agg #[.int .i64 x.blk, .slice A' x.bs.length c']) (by simp [results, Try.results83, go_sem, r0, r1]) rfl ⟨_, rfl, ⟨A', c', rfl, h1, (h2.far hlo _).far hlo _, fun a ha => (by have := h3 a ha; simp; omega)⟩, ?_⟩
  exact ((hE.trans hw).setCell (by simp) _).setCell (by simp) _
end Go.Proofs.Ytdlalmbnkcadfaa
