/- reference: copies. -/
import Derived.Test.YtdlalmbnkcadfaaM22
namespace Go.Proofs.Ytdlalmbnkcadfaa
open Go.RowKit

/-- append at an empty slice that is there. -/
theorem app0 (t e ty : TypeId) (i : TypeInfo) (z : Value) (bytes : Nat) (ht : Try.prog.underlying t = some (.slice e)) (hi : Try.prog.info? e = some i) (hz : i.zero = some z) (hs : i.size = 1) (hb : i.bytes = bytes) (hzs : z.cells.size = 1) (hby : bytes ≤ 100)
    (w : World) (b n c : Nat) (A : Option Addr) (cs : List Value) (hn : cs.length = n) (hA : Sl w A cs) (hl : n ≤ 100000) :
    ∃ v' w', (Builtin.append_ #[t, t] ty #[.slice (some ⟨b, 0, none⟩) 0 0, .slice A n c]).run Try.prog w = .ok v' w' ∧ Ext w w' ∧
      ((n = 0 ∧ v' = .slice (some ⟨b, 0, none⟩) 0 0 ∧ w' = w) ∨ (0 < n ∧ w'.ownsRow w.heap.size e 1 v' n cs)) := by
  by_cases h0 : n = 0
  · subst h0
    have hcs : cs = [] := List.eq_nil_of_length_eq_zero hn
    refine ⟨.slice (some ⟨b, 0, none⟩) 0 0, w, ?_, Ext.refl _, .inl ⟨rfl, rfl, rfl⟩⟩
    rcases A with _ | a
    · simp [Builtin.append_, run_underlying ht, sizeOf, typeInfo, hi, Builtin.lenOf, Builtin.firstCells, storeCells]
    · have hfc := run_firstCells_some (P := Try.prog) w i.size 0 a 0 c [] (by simp) (by simp)
      simp [Builtin.append_, run_underlying ht, sizeOf, typeInfo, hi, Builtin.lenOf, hfc, storeCells]
  · have hpos : 0 < n := by omega
    obtain ⟨ab, ao, rfl, _⟩ := hA 0 cs[0] (List.getElem?_eq_getElem (by omega))
    obtain ⟨v', w', h1, h2, h3⟩ := run_append_arg_grows (P := Try.prog) w t ty e i z 1 bytes ht hi hz hs hb hzs (by omega) ⟨b, 0, none⟩ 0 0 [] (by simp) (by simp) ⟨ab, ao, none⟩ n c cs (by omega)
      (fun j u hj => by
        obtain ⟨b', o', e', hc⟩ := hA j u hj
        simp only [Option.some.injEq, Addr.mk.injEq, and_true] at e'
        obtain ⟨rfl, rfl⟩ := e'
        rw [show (Addr.add ⟨ab, ao, none⟩ j) = ⟨ab, ao + j, none⟩ from by unfold Addr.add; split <;> simp_all]
        exact hc) (by omega) (by simp only [maxLen]; omega) (by
        have : (0 + n) * bytes ≤ 100000 * 100 := Nat.mul_le_mul (by omega) hby
        omega)
    rw [Nat.zero_add, List.nil_append] at h2
    refine ⟨v', w', h1, ?_, .inr ⟨hpos, h2⟩⟩
    exact ⟨h3.os, h3.tape, h3.output, h3.size, fun k hk => h3.block k hk (by simp)⟩
theorem app0_by (ty : TypeId) (w : World) (b c : Nat) (A : Option Addr) (bs : BL) (hA : By w A bs) (hl : bs.length ≤ 100000) :
    ∃ v' w', (Builtin.append_ #[22, 22] ty #[.slice (some ⟨b, 0, none⟩) 0 0, .slice A bs.length c]).run Try.prog w = .ok v' w' ∧ Ext w w' ∧
      ∃ A' c', v' = .slice A' bs.length c' ∧ bs.length ≤ c' ∧ By w' A' bs ∧ (∀ a, A' = some a → a.block = b ∨ (w.heap.size ≤ a.block ∧ a.block < w'.heap.size)) ∧ (bs ≠ [] → ∃ g, A' = some ⟨g, 0, none⟩ ∧ OB w' g c' bs ∧ w.heap.size ≤ g) := by
  obtain ⟨i0, hi0, hz0, hz1, hz2⟩ := info_parts info_u8
  obtain ⟨v', w', h1, h2, h3⟩ := app0 22 5 ty i0 (.int .u8 0) 1 Try.underlying22 hi0 hz0 hz1 hz2 rfl (by omega) w b bs.length c A (bcells bs) (by simp) hA hl
  refine ⟨v', w', h1, h2, ?_⟩
  rcases h3 with ⟨h0, rfl, rfl⟩ | ⟨hpos, hown⟩
  · have : bs = [] := List.eq_nil_of_length_eq_zero h0
    subst this
    exact ⟨_, _, rfl, Nat.le_refl _, By.nil _ _, fun a ha => by cases ha; exact .inl rfl, fun h => absurd rfl h⟩
  · rcases hown.2 with ⟨hv, h0⟩ | ⟨g, cap, cur, hv, hr⟩
    · omega
    · subst hv
      obtain ⟨ho, hB, hn, _⟩ := ob_of_own hown
      exact ⟨_, _, rfl, hn, ho.by, fun a ha => by cases ha; exact .inr ⟨hB, ho.lt⟩, fun _ => ⟨g, rfl, ho, hB⟩⟩
theorem is_of_own {w : World} {B n : Nat} {v : Value} {xs : List Int} (h : w.ownsRow B 3 1 v n (icells xs)) (hn : n = xs.length) : ∃ A c, v = .slice A xs.length c ∧ xs.length ≤ c ∧ Is w A xs := by
  subst hn
  rcases h.2 with ⟨hv, h0⟩ | ⟨g, cap, cur, hv, hB, hh, hc, _⟩
  · have : xs = [] := List.eq_nil_of_length_eq_zero h0
    subst this
    exact ⟨none, 0, hv, Nat.le_refl _, Is.nil _ _⟩
  · subst hv
    refine ⟨_, _, rfl, hc, fun j u hj => ?_⟩
    have hlt : j < xs.length := by have := (List.getElem?_eq_some_iff.1 hj).1; simpa using this
    exact ⟨g, 0, rfl, by rw [Nat.zero_add, h.cellAt j (by omega)]; exact hj⟩
theorem app0_is (ty : TypeId) (w : World) (b c : Nat) (A : Option Addr) (xs : List Int) (hA : Is w A xs) (hl : xs.length ≤ 100000) :
    ∃ v' w', (Builtin.append_ #[32, 32] ty #[.slice (some ⟨b, 0, none⟩) 0 0, .slice A xs.length c]).run Try.prog w = .ok v' w' ∧ Ext w w' ∧ ∃ A' c', v' = .slice A' xs.length c' ∧ xs.length ≤ c' ∧ Is w' A' xs := by
  obtain ⟨i0, hi0, hz0, hz1, hz2⟩ := info_parts info_int
  obtain ⟨v', w', h1, h2, h3⟩ := app0 32 3 ty i0 (.int .i64 0) 8 Try.underlying32 hi0 hz0 hz1 hz2 rfl (by omega) w b xs.length c A (icells xs) (by simp) hA hl
  refine ⟨v', w', h1, h2, ?_⟩
  rcases h3 with ⟨h0, rfl, rfl⟩ | ⟨hpos, hown⟩
  · have : xs = [] := List.eq_nil_of_length_eq_zero h0
    subst this
    exact ⟨_, _, rfl, Nat.le_refl _, Is.nil _ _⟩
  · exact is_of_own hown rfl
theorem app0_isB (ty : TypeId) (w : World) (b c : Nat) (A : Option Addr) (xs : List Int) (hA : Is w A xs) (hl : xs.length ≤ 100000) :
    ∃ v' w', (Builtin.append_ #[32, 32] ty #[.slice (some ⟨b, 0, none⟩) 0 0, .slice A xs.length c]).run Try.prog w = .ok v' w' ∧ Ext w w' ∧ ∃ A' c', v' = .slice A' xs.length c' ∧ xs.length ≤ c' ∧ Is w' A' xs ∧ ∀ a, A' = some a → a.block = b ∨ w.heap.size ≤ a.block := by
  obtain ⟨i0, hi0, hz0, hz1, hz2⟩ := info_parts info_int
  obtain ⟨v', w', h1, h2, h3⟩ := app0 32 3 ty i0 (.int .i64 0) 8 Try.underlying32 hi0 hz0 hz1 hz2 rfl (by omega) w b xs.length c A (icells xs) (by simp) hA hl
  refine ⟨v', w', h1, h2, ?_⟩
  rcases h3 with ⟨h0, rfl, rfl⟩ | ⟨hpos, hown⟩
  · have : xs = [] := List.eq_nil_of_length_eq_zero h0
    subst this
    exact ⟨_, _, rfl, Nat.le_refl _, Is.nil _ _, fun a ha => by cases ha; exact .inl rfl⟩
  · obtain ⟨A', c', e, q1, q2⟩ := is_of_own hown rfl
    subst e
    refine ⟨A', c', rfl, q1, q2, fun a ha => .inr ?_⟩
    rcases hown.2 with ⟨hv, h0⟩ | ⟨g, cap, cur, hv, hB, _⟩
    · omega
    · injection hv with e1 e2 e3
      rw [ha] at e1
      have := Option.some.inj e1
      rw [this]; exact hB
theorem okAt_app {P : Program} {ops : Array Oper} {o : Oper} {a : Act} {w w' : World} {S : SV} (hg : o.guard = none) (s x : Operand) (t : TypeId) (ho : o.op = .call { callee := .builtin .append, args := #[s, x], argTypes := #[t, t] })
    (v0 v1 v' : Value) (hs : a.eval s = v0) (hx : a.eval x = v1) (hr : (Builtin.append_ #[t, t] o.type #[v0, v1]).run P w = .ok v' w') (hS : S.p v' w') (hE : Ext w w') : okAt P ops o a w S := by
  have hw : Region.wanted o (yielded ops a.tmps) = true := by simp [Region.wanted, hg]
  unfold okAt
  rw [if_pos hw]
  simp [execOp, ho, resolve, invoke, builtin, hs, hx, hr, Result.andThen, okRes]
  exact ⟨hS, hE⟩
/-- An empty slice that is there, in a new block. -/
def SV.e0 (B : Nat) : SV := ⟨fun v w => ∃ b, v = .slice (some ⟨b, 0, none⟩) 0 0 ∧ B ≤ b ∧ b < w.heap.size, fun ⟨b, h1, h2, h3⟩ e => ⟨b, h1, h2, Nat.lt_of_lt_of_le h3 e.size⟩⟩
end Go.Proofs.Ytdlalmbnkcadfaa
/- reference: CopyWrite, CopyFate. -/
namespace Go.Proofs.Ytdlalmbnkcadfaa
open Go.RowKit

set_option maxRecDepth 100000 in
set_option maxHeartbeats 1000000 in
theorem copyWrite_any (A : Option Addr) (c : Nat) (x : Wr) (w : World) (hA : By w A x.bs) (hl : x.bs.length ≤ 100000) :
    Calls Try.prog 31 #[.agg #[.int .i64 x.blk, .slice A x.bs.length c]] w fun e w' => ∃ v, e = .returned v ∧ WrV w' w.heap.size v x ∧ Ext w w' := by
  go_enter Try.func31, Try.ntmps31
  go_wp2_with fail
  obtain ⟨W, hW, hE, hz, k0, k1⟩ := box2 w #[.int .i64 x.blk, .slice A x.bs.length c] #[.int .i64 0, .slice none 0 0] 49 49
  rw [hW]; clear hW
  have hS := Lib.hid (fun w' (h : Ext W w') => (⟨h, (k0.ext h).cell 0, (k0.ext h).cell 1⟩ : Ext W w' ∧ w'.cell? ⟨w.heap.size, 0, none⟩ = some (.int .i64 x.blk) ∧ w'.cell? ⟨w.heap.size, 1, none⟩ = some (.slice A x.bs.length c)))
  have HA := Lib.hid (hA.ext hE)
  refine wp_region_rel 6 (by kernel_rfl) (by kernel_rfl) (Ext.refl W).drew ?_
  (apply relW_fix
   · intro vs w' hw hf
     have hc := hS.out w' hw
     unfold okAt
     go_simp
     first | exact ⟨rfl, Ext.refl _⟩ | exact rfl
   · intro vs; go_simp; rfl)
  (apply relW_fix
   · intro vs w' hw hf
     have hc := hS.out w' hw
     unfold okAt
     go_simp
     first | exact ⟨rfl, Ext.refl _⟩ | exact rfl
   · intro vs; go_simp; rfl)
  (apply relW_any (SV.e0 W.heap.size)
   · intro vs w' hw hf
     have hc := hS.out w' hw
     skip
     unfold okAt
     go_simp
     exact ⟨⟨_, rfl, hw.size, by simp⟩, (Ext.refl _).alloc _⟩
   · intro vs; go_simp; rfl)
  (apply relW_fix
   · intro vs w' hw hf
     have hc := hS.out w' hw
     unfold okAt
     go_simp
     first | exact ⟨rfl, Ext.refl _⟩ | exact rfl
   · intro vs; go_simp; rfl)
  (apply relW_fix
   · intro vs w' hw hf
     have hc := hS.out w' hw
     unfold okAt
     go_simp
     first | exact ⟨rfl, Ext.refl _⟩ | exact rfl
   · intro vs; go_simp; rfl)
  (apply relW_any (SV.by_ W.heap.size x.bs)
   · intro vs w' hw hf
     have hc := hS.out w' hw
     obtain ⟨b, eb, hb1, hb2⟩ := hf.out.1 (by kernel_rfl)
     obtain ⟨v2, w2, h1, h2, h3⟩ := app0_by _ w' b c A x.bs (HA.out.ext hw) hl
     refine okAt_app rfl _ _ _ rfl _ _ v2 (by exact eb) rfl h1 ?_ h2
     (obtain ⟨A', c', e1, q1, q2, q3, _⟩ := h3; exact ⟨A', c', e1, q1, q2, fun a ha => (by have := h2.size; have := hw.size; rcases q3 a ha with q | q <;> omega)⟩)
   · intro vs; go_simp; rfl)
  refine relW_nil fun vs w' hw hf => ?_
  obtain ⟨⟨A', c', e4, h1, h2, h3⟩, _, _⟩ := hf
  have b0 := (k1.ext hw).cell 0
  have b1 := (k1.ext hw).cell 1
  have f0 := (k1.ext hw).frozen 0
  have f1 := (k1.ext hw).frozen 1
  simp at b0 b1
  go_wp2
  have hz' := hz.out
  have hlo : ∀ a, A' = some a → a.block ≠ w.heap.size + 1 := fun a ha => by have := h3 a ha; omega
  have kk := ((k1.ext hw).set 0 (.int .i64 x.blk)).set 1 (.slice A' x.bs.length c')
  have r0 := kk.cell 0
  have r1 := kk.cell 1
  simp only [Array.setIfInBounds_def] at r0 r1
  refine bodyPost_ret (v := .agg #[.int .i64 x.blk, .slice A' x.bs.length c']) (by simp [results, Try.results31, go_sem, r0, r1]) rfl ⟨_, rfl, ⟨A', c', rfl, h1, (h2.far hlo _).far hlo _, fun a ha => (by have := h3 a ha; simp; omega)⟩, ?_⟩
  exact ((hE.trans hw).setCell (by simp) _).setCell (by simp) _

/-- A slice of numbers, read. -/
def SV.isn (B : Nat) (xs : List Int) : SV := ⟨fun v w => ∃ A c, v = .slice A xs.length c ∧ xs.length ≤ c ∧ Is w A xs ∧ ∀ a, A = some a → B ≤ a.block, fun ⟨A, c, h1, h2, h3, h4⟩ e => ⟨A, c, h1, h2, h3.ext e, h4⟩⟩
set_option maxRecDepth 100000 in
set_option maxHeartbeats 1000000 in
theorem copyFate_any (A P : Option Addr) (c d : Nat) (F : Ft) (w : World) (hA : Is w A F.order) (hP : Is w P F.part) (hl : F.order.length ≤ 100000) (hl2 : F.part.length ≤ 100000) :
    Calls Try.prog 21 #[.agg #[.slice A F.order.length c, .slice P F.part.length d]] w fun e w' => ∃ v, e = .returned v ∧ FtV w' v F ∧ Ext w w' := by
  go_enter Try.func21, Try.ntmps21
  go_wp2_with fail
  obtain ⟨W, hW, hE, hz, k0, k1⟩ := box2 w #[.slice A F.order.length c, .slice P F.part.length d] #[.slice none 0 0, .slice none 0 0] 34 34
  rw [hW]; clear hW
  have hS := Lib.hid (fun w' (h : Ext W w') => (⟨h, (k0.ext h).cell 0, (k0.ext h).cell 1⟩ : Ext W w' ∧ w'.cell? ⟨w.heap.size, 0, none⟩ = some (.slice A F.order.length c) ∧ w'.cell? ⟨w.heap.size, 1, none⟩ = some (.slice P F.part.length d)))
  have HA := Lib.hid (hA.ext hE)
  have HP := Lib.hid (hP.ext hE)
  refine wp_region_rel 8 (by kernel_rfl) (by kernel_rfl) (Ext.refl W).drew ?_
  (apply relW_any (SV.e0 W.heap.size)
   · intro vs w' hw hf
     have hc := hS.out w' hw
     skip
     unfold okAt
     go_simp
     exact ⟨⟨_, rfl, hw.size, by simp⟩, (Ext.refl _).alloc _⟩
   · intro vs; go_simp; rfl)
  (apply relW_fix
   · intro vs w' hw hf
     have hc := hS.out w' hw
     unfold okAt
     go_simp
     first | exact ⟨rfl, Ext.refl _⟩ | exact rfl
   · intro vs; go_simp; rfl)
  (apply relW_fix
   · intro vs w' hw hf
     have hc := hS.out w' hw
     unfold okAt
     go_simp
     first | exact ⟨rfl, Ext.refl _⟩ | exact rfl
   · intro vs; go_simp; rfl)
  (apply relW_any (SV.isn W.heap.size F.order)
   · intro vs w' hw hf
     have hc := hS.out w' hw
     obtain ⟨b, eb, hb1, hb2⟩ := hf.out.1 (by kernel_rfl)
     obtain ⟨v2, w2, h1, h2, h3⟩ := app0_isB _ w' b c A F.order (HA.out.ext hw) hl
     refine okAt_app rfl _ _ _ rfl _ _ v2 (by exact eb) rfl h1 ?_ h2
     (obtain ⟨A', c', e1, q1, q2, q3⟩ := h3; exact ⟨A', c', e1, q1, q2, fun a ha => (by have := hw.size; rcases q3 a ha with q | q <;> omega)⟩)
   · intro vs; go_simp; rfl)
  (apply relW_any (SV.e0 W.heap.size)
   · intro vs w' hw hf
     have hc := hS.out w' hw
     skip
     unfold okAt
     go_simp
     exact ⟨⟨_, rfl, hw.size, by simp⟩, (Ext.refl _).alloc _⟩
   · intro vs; go_simp; rfl)
  (apply relW_fix
   · intro vs w' hw hf
     have hc := hS.out w' hw
     unfold okAt
     go_simp
     first | exact ⟨rfl, Ext.refl _⟩ | exact rfl
   · intro vs; go_simp; rfl)
  (apply relW_fix
   · intro vs w' hw hf
     have hc := hS.out w' hw
     unfold okAt
     go_simp
     first | exact ⟨rfl, Ext.refl _⟩ | exact rfl
   · intro vs; go_simp; rfl)
  (apply relW_any (SV.isn W.heap.size F.part)
   · intro vs w' hw hf
     have hc := hS.out w' hw
     obtain ⟨b, eb, hb1, hb2⟩ := hf.out.1 (by kernel_rfl)
     obtain ⟨v2, w2, h1, h2, h3⟩ := app0_isB _ w' b d P F.part (HP.out.ext hw) hl2
     refine okAt_app rfl _ _ _ rfl _ _ v2 (by exact eb) rfl h1 ?_ h2
     (obtain ⟨A', c', e1, q1, q2, q3⟩ := h3; exact ⟨A', c', e1, q1, q2, fun a ha => (by have := hw.size; rcases q3 a ha with q | q <;> omega)⟩)
   · intro vs; go_simp; rfl)
  refine relW_nil fun vs w' hw hf => ?_
  obtain ⟨⟨P', d', e8, g1, g2, g3⟩, _, ⟨A', c', e4, h1, h2, h3⟩, _, _⟩ := hf
  have b0 := (k1.ext hw).cell 0
  have b1 := (k1.ext hw).cell 1
  have f0 := (k1.ext hw).frozen 0
  have f1 := (k1.ext hw).frozen 1
  simp at b0 b1
  go_wp2
  have hz' := hz.out
  have hlo : ∀ a, A' = some a → a.block ≠ w.heap.size + 1 := fun a ha => by have := h3 a ha; omega
  have hlo2 : ∀ a, P' = some a → a.block ≠ w.heap.size + 1 := fun a ha => by have := g3 a ha; omega
  have kk := ((k1.ext hw).set 0 (.slice A' F.order.length c')).set 1 (.slice P' F.part.length d')
  have r0 := kk.cell 0
  have r1 := kk.cell 1
  simp only [Array.setIfInBounds_def] at r0 r1
  refine bodyPost_ret (v := .agg #[.slice A' F.order.length c', .slice P' F.part.length d']) (by simp [results, Try.results21, go_sem, r0, r1]) rfl ⟨_, rfl, ⟨A', c', P', d', rfl, h1, (h2.far hlo _).far hlo _, g1, (g2.far hlo2 _).far hlo2 _⟩, ?_⟩
  exact ((hE.trans hw).setCell (by simp) _).setCell (by simp) _
end Go.Proofs.Ytdlalmbnkcadfaa
/- reference: Copy. -/
namespace Go.Proofs.Ytdlalmbnkcadfaa
open Go.RowKit

theorem wpList_app {P : Program} {w w' : World} {ops : Array Oper} {rest : List Oper} {o : Oper} {a : Act} {Q : Exit → Act → World → Prop} (hg : o.guard = none) (s x : Operand) (t : TypeId)
    (ho : o.op = .call { callee := .builtin .append, args := #[s, x], argTypes := #[t, t] }) (v0 v1 v' : Value) (hs : a.eval s = v0) (hx : a.eval x = v1) (hr : (Builtin.append_ #[t, t] o.type #[v0, v1]).run P w = .ok v' w')
    (h : wpList P ops Q rest (a.put o.dst v') w') : wpList P ops Q (o :: rest) a w := by
  have hw : Region.wanted o (yielded ops a.tmps) = true := by simp [Region.wanted, hg]
  unfold wpList
  rw [if_pos hw]
  refine .inl ?_
  unfold Oper.wp
  simp [execOp, ho, resolve, invoke, builtin, hs, hx, hr, Result.andThen]
  exact h
theorem wpList_app0 {w : World} {ops : Array Oper} {rest : List Oper} {o : Oper} {a : Act} {Q : Exit → Act → World → Prop} (hg : o.guard = none) (s x : Operand)
    (ho : o.op = .call { callee := .builtin .append, args := #[s, x], argTypes := #[22, 22] }) (b c n : Nat) (A : Option Addr) (bs : BL) (hs : a.eval s = .slice (some ⟨b, 0, none⟩) 0 0) (hx : a.eval x = .slice A n c) (hn : n = bs.length) (hA : By w A bs) (hl : bs.length ≤ 100000)
    (h : ∀ A' c' w', Ext w w' → bs.length ≤ c' → By w' A' bs → (∀ a, A' = some a → a.block = b ∨ (w.heap.size ≤ a.block ∧ a.block < w'.heap.size)) → (bs ≠ [] → ∃ g, A' = some ⟨g, 0, none⟩ ∧ OB w' g c' bs ∧ w.heap.size ≤ g) →
      wpList Try.prog ops Q rest (a.put o.dst (.slice A' bs.length c')) w') : wpList Try.prog ops Q (o :: rest) a w := by
  subst hn
  obtain ⟨v', w', h1, h2, A', c', e, h3, h4, h5, h6⟩ := app0_by o.type w b c A bs hA hl
  subst e
  exact wpList_app hg s x 22 ho _ _ _ hs hx h1 (h A' c' w' h2 h3 h4 h5 h6)
/-- A device that the call has made, with its own row of writes. -/
def CD (w : World) (B : Nat) (v : Value) (D : Dk) : Prop := ∃ A c Pv qs, v = .agg #[.slice A D.bytes.length c, Pv] ∧ D.bytes.length ≤ c ∧ By w A D.bytes ∧ (∀ a, A = some a → B ≤ a.block ∧ a.block < w.heap.size ∧ some a.block ≠ Pv.ownBlock) ∧ PO w B [] Pv qs ∧ qs.map Prod.fst = D.pend
theorem PO.ws {w : World} {B : Nat} {X : List Nat} {Pv : Value} {qs : List Rec} {pend : List Wr} (h : PO w B X Pv qs) (hq : qs.map Prod.fst = pend) : ∃ P c, Pv = .slice P pend.length c ∧ pend.length ≤ c ∧ Ws w P pend := by
  obtain ⟨P, c, e, hc⟩ := h.form
  have hl : qs.length = pend.length := by rw [← hq]; simp
  refine ⟨P, c, by rw [e, hl], by omega, fun j x hj => ?_⟩
  have hlt : j < qs.length := by have := (List.getElem?_eq_some_iff.1 hj).1; omega
  obtain ⟨r, pc, e1, hB, c1, c2⟩ := h.at hlt
  obtain ⟨q1, q2, q3⟩ := h.one qs[j] (List.getElem_mem hlt)
  have hx : qs[j].1 = x := by
    rw [← hq, List.getElem?_map, List.getElem?_eq_getElem hlt] at hj
    simpa using hj
  rw [e1] at e
  injection e with e2 e3 e4
  refine ⟨r, 0, qs[j].2.1, qs[j].2.2, by rw [← e2], ?_, ?_, by rw [← hx]; exact q1, by rw [← hx]; exact q2⟩
  · rw [Nat.zero_add, c1, hx]
  · rw [Nat.zero_add, c2, hx]
theorem CD.dkv {w : World} {B : Nat} {v : Value} {D : Dk} (h : CD w B v D) : DkV w v D := by
  obtain ⟨A, c, Pv, qs, e, h1, h2, _, h4, h5⟩ := h
  obtain ⟨P, d, e2, h6, h7⟩ := h4.ws h5
  exact ⟨A, c, P, d, by rw [e, e2], h1, h2, h6, h7⟩
theorem OD.dkv {w : World} {B : Nat} {v : Value} {D : Dk} (h : OD w B v D) : DkV w v D := by
  obtain ⟨g, c, Pv, qs, e, hB, h1, h2, h4, h5⟩ := h
  obtain ⟨P, d, e2, h6, h7⟩ := h4.ws h5
  exact ⟨_, c, P, d, by rw [e, e2], h1, h2.by, h6, h7⟩

def CpInv (w wr : World) (xo xr xd n c : Nat) (A : Option Addr) (dv : Array Value) (bytes : BL) (pend : List Wr) (k : Nat) : Prop :=
  Ext w wr ∧ By wr A bytes ∧ (∀ a, A = some a → w.heap.size + 2 ≤ a.block ∧ a.block < xo) ∧ Bk wr xr #[.slice none 0 0, .slice none 0 0] 25 ∧ Bk wr xd dv 25 ∧
  ∃ Pv qs, Bk wr xo #[.slice A n c, Pv] 25 ∧ PO wr w.heap.size [xo, xr, xd] Pv qs ∧ qs.map Prod.fst = pend.take k ∧ (∀ a, A = some a → some a.block ≠ Pv.ownBlock)
set_option maxRecDepth 100000 in
set_option maxHeartbeats 2000000 in
theorem copy_any (A P : Option Addr) (c p : Nat) (D : Dk) (w : World) (hA : By w A D.bytes) (hP : Ws w P D.pend) (hsm : Small D) :
    Calls Try.prog 26 #[.agg #[.slice A D.bytes.length c, .slice P D.pend.length p]] w fun e w' => ∃ v, e = .returned v ∧ CD w' w.heap.size v D ∧ Ext w w' := by
  have hpl := hsm.2.1
  go_enter Try.func26, Try.ntmps26
  go_wp2_with (at_builtin; refine wpList_app0 rfl _ _ rfl _ c _ A D.bytes rfl rfl rfl (hA.ext (by repeat (first | exact Ext.refl _ | refine Ext.alloc ?_ _))) hsm.1 ?_; intro A' c' w1 h1 h2 h3 h4 h5)
  obtain ⟨W, hW, hE, hz, k0, k1⟩ := box2 w #[.slice A D.bytes.length c, .slice P D.pend.length p] #[.slice none 0 0, .slice none 0 0] 25 25
  rw [hW] at h1 h4 h5; clear hW
  have hz' := hz.out
  have hE1 : Ext W w1 := ((Ext.refl W).alloc _).trans h1
  obtain ⟨xo, hxo⟩ : ∃ xo, xo = w1.heap.size := ⟨_, rfl⟩
  have m2 := Bk.new w1 #[.slice A' D.bytes.length c', .slice none 0 0] 25
  have hA' : ∀ a, A' = some a → w.heap.size + 2 ≤ a.block ∧ a.block < xo := fun a ha => by
    have hs := h1.size
    simp at hs
    rcases h4 a ha with h | ⟨h, h'⟩
    · rw [hxo]; omega
    · simp at h; rw [hxo]; omega
  have hx1 : w.heap.size + 2 < xo := by have hs := h1.size; simp at hs; rw [hxo]; omega
  have HE : Hid (Ext w (w1.alloc (.cells #[.slice A' D.bytes.length c', .slice none 0 0] 25))) := (hE.trans hE1).alloc _
  have i0 := Lib.hid ((k0.ext hE1).alloc (.cells #[.slice A' D.bytes.length c', .slice none 0 0] 25))
  have i1 := Lib.hid ((k1.ext hE1).alloc (.cells #[.slice A' D.bytes.length c', .slice none 0 0] 25))
  have hA1 := Lib.hid (h3.ext ((Ext.refl w1).alloc (.cells #[.slice A' D.bytes.length c', .slice none 0 0] 25)))
  rw [← hxo] at m2 ⊢
  have M2 := Lib.hid m2
  have Hx := Lib.hid hxo
  clear h1 h3 h4 h5 k0 k1 hE1 hxo m2 hE hz'
  go_loopw [4] (fun i wr => ∃ k : Nat, k ≤ D.pend.length ∧ i = .int .i64 k ∧ CpInv w wr xo (w.heap.size + 1) w.heap.size D.bytes.length c' A' #[.slice A D.bytes.length c, .slice P D.pend.length p] D.bytes D.pend k) (fun i _ => D.pend.length - (intOf i).toNat)
  case atStart => exact ⟨0, Nat.zero_le _, rfl, HE.out, hA1.out, hA', i1.out, i0.out, _, [], M2.out, PO.nil _ _ _, rfl, fun a _ e => by simp [Value.ownBlock] at e⟩
  case round =>
    clear HE i0 i1 hA1 M2 Hx
    obtain ⟨k, hk, rfl, hEr, hAr, _, j1, j0, Pv, qs, jo, hPO, hqs, hAP⟩ := hrel
    have HAr := Lib.hid hAr
    have HAP := Lib.hid hAP
    have HA' := Lib.hid hA'
    have Hqs := Lib.hid hqs
    have HEr := Lib.hid hEr
    have d1 := j0.cell 1
    simp at d1
    clear hAr hAP hA'
    by_cases hlt : k < D.pend.length
    · obtain ⟨b, o, Bx, d, rfl, e1, e2, e3, e4⟩ := hP k D.pend[k] (List.getElem?_eq_getElem hlt)
      have g1 := cellExt hEr e1
      have g2 := cellExt hEr e2
      have Hby := Lib.hid (e4.ext hEr)
      clear e1 e2 e4 hqs hEr
      have hxr : xo < wr.heap.size := jo.lt
      go_wp2_with fail
      have hS := Lib.hid (fun w' (h : Ext wr w') => (⟨h, (jo.ext h).cell 1, (j0.ext h).cell 1, cellExt h g1, cellExt h g2⟩ : Ext wr w' ∧ w'.cell? ⟨xo, 1, none⟩ = some Pv ∧ w'.cell? ⟨w.heap.size, 1, none⟩ = some (.slice (some ⟨b, o, none⟩) D.pend.length p) ∧ w'.cell? ⟨b, o + k * 2, none⟩ = some (.int .i64 D.pend[k].blk) ∧ w'.cell? ⟨b, o + k * 2 + 1, none⟩ = some (.slice Bx D.pend[k].bs.length d)))
      have hsk := hsm.2.2 D.pend[k] (List.getElem_mem hlt)
      clear g1 g2 d1
      refine wp_region_rel 9 (by kernel_rfl) (by kernel_rfl) (Ext.refl wr).drew ?_
      repeat (apply relW_fix
              · intro vs w' hw hf
                have hc := hS.out w' hw
                unfold okAt
                go_simp
                first | exact ⟨rfl, Ext.refl _⟩ | exact rfl
              · intro vs; go_simp; rfl)
      (apply relW_any (SV.wr wr.heap.size D.pend[k])
       · intro vs w' hw hf
         have hc := hS.out w' hw
         skip
         unfold okAt
         go_simp
         refine ⟨Ext.refl _, ?_⟩; go_at_call 31; refine (copyWrite_any Bx d D.pend[k] _ (Hby.out.ext hw) hsk).mono ?_; rintro e w5 ⟨v, rfl, ⟨A5, c5, h1, h2, h3, h4⟩, h5⟩; exact ⟨_, rfl, ⟨A5, c5, h1, h2, h3, fun a ha => (by have := hw.size; have := h4 a ha; exact ⟨by omega, this.2⟩)⟩, h5⟩
       · intro vs; go_simp; rfl)
      (apply relW_any (SV.box wr.heap.size D.pend[k])
       · intro vs w' hw hf
         have hc := hS.out w' hw
         obtain ⟨A5, c5, e5, q1, q2, q3⟩ := hf.out.1 (by kernel_rfl)
         unfold okAt
         go_simp
         exact ⟨⟨_, A5, c5, rfl, Bk.new _ _ _, q1, q2.ext ((Ext.refl _).alloc _), fun a ha => (by have := q3 a ha; exact ⟨this.1, by simp; omega⟩)⟩, (Ext.refl _).alloc _⟩
       · intro vs; go_simp; rfl)
      refine relW_nil fun vs w6 hw hf => ?_
      obtain ⟨⟨b5, A5, c5, e5, kb, l1, l2, l3⟩, _⟩ := hf
      have hE6 : Ext wr w6 := hw
      have jo6 := jo.ext hE6
      have hPO6 := hPO.ext hE6
      obtain ⟨i0, hi0, hz0, hz1, hz2⟩ := info_parts info_bw
      have hql : qs.length = k := by have := congrArg List.length Hqs.out; simp at this; omega
      have Hql := Lib.hid hql
      have Hkb := Lib.hid kb
      have hB6 : w.heap.size ≤ w6.heap.size := by have := HEr.out.size; have := hE6.size; omega
      clear hql kb
      refine wpList_append_lies (P := Try.prog) w6 rfl (.tmp 18) (.tmp 25) 23 rfl w.heap.size 49 i0 _ 2 32 Try.underlying23 hi0 hz0 hz1 hz2 (by rfl) (by omega) Pv qs.length (rcells qs) (by rfl) hPO6.own ⟨b5, 0, none⟩ 1 1 [.int .i64 D.pend[k].blk, .slice A5 D.pend[k].bs.length c5] ?_ (by rfl) ?_ ?_ (by omega) ?_ ?_ hB6 w6.heap.size rfl ?_
      · exact e5
      · exact World.news_of_block (cs := #[.int .i64 D.pend[k].blk, .slice A5 D.pend[k].bs.length c5]) Hkb.out
      · intro u hu; simp at hu; rcases hu with rfl | rfl <;> rfl
      · have := Hql.out; have := hsm.2.1; simp only [maxLen]; omega
      · have := Hql.out; have := hsm.2.1; omega
      · intro g' cap w7 hown hgrow hat hlt7
        have hoff : ∀ a, A5 = some a → w.heap.size ≤ a.block ∧ a.block < w6.heap.size ∧ (∀ x ∈ [xo, w.heap.size + 1, w.heap.size], a.block ≠ x) ∧ some a.block ≠ Pv.ownBlock := by
          intro a ha
          have h1 := l3 a ha
          have h2 := HEr.out.size
          refine ⟨by omega, h1.2, fun x hx => ?_, fun h => ?_⟩
          · simp only [List.mem_cons, List.not_mem_nil, or_false] at hx
            omega
          · have := (hPO.own.lt a.block h.symm).2
            omega
        have hPO7 := Lib.hid (hPO6.push (q := (D.pend[k], A5, c5)) hown hgrow hat l1 l2 hoff)
        have no3 : (25 : Nat) ≠ 49 := by decide
        have jo7 := jo6.grown hgrow (jo6.not_own hPO6.own no3)
        have j17 := Lib.hid ((j1.ext hE6).grown hgrow ((j1.ext hE6).not_own hPO6.own no3))
        have j07 := Lib.hid ((j0.ext hE6).grown hgrow ((j0.ext hE6).not_own hPO6.own no3))
        have hA7 : Hid (By w7 A' D.bytes) := (HAr.out.ext hE6).grown (fun a ha => HAP.out a ha) hgrow
        have hE7 : Hid (Ext w w7) := Below.grown (HEr.out.trans hE6) hgrow hB6 (fun x hx => (hPO6.own.lt x hx).1)
        have hAP7 : Hid (∀ a, A' = some a → some a.block ≠ (Value.slice (some ⟨g', 0, none⟩) (qs.length + 1) cap).ownBlock) := fun a ha e => by
          simp only [Value.ownBlock, Option.some.injEq] at e
          rcases hat with h | h
          · exact HAP.out a ha (by rw [h, e])
          · have := (HA'.out a ha).2; have := hE6.size; omega
        have o0 := jo7.cell 0
        have o1 := jo7.cell 1
        have f1 := jo7.frozen 1
        simp at o0 o1
        have Hjo := Lib.hid jo7
        clear jo7 hown hgrow hat hoff l3 l2 jo6 hPO6 hS j1 j0 hPO hE6 hw jo
        go_wp2
        go_roundw
        case rel =>
          have hxo2 : w.heap.size + 2 < xo := hx1
          refine ⟨k + 1, by omega, by go_num, Below.setCell hE7.out (by show _ ≤ xo; omega) _, hA7.out.far (fun a ha => by have := (HA'.out a ha).2; show _ ≠ xo; omega) _, HA'.out, j17.out.far (by show _ ≠ xo; omega) _, j07.out.far (by show _ ≠ xo; omega) _, _, qs ++ [(D.pend[k], A5, c5)], Hjo.out.set 1 _, ?_, ?_, hAP7.out⟩
          · exact hPO7.out.far (by simp) (Hjo.out.not_own hPO7.out.own no3) _
          · rw [List.map_append, Hqs.out]
            simp only [List.map_cons, List.map_nil]
            exact (List.take_succ_eq_append_getElem hlt).symm
        case measure => simp [intOf]; omega
    · obtain rfl : k = D.pend.length := by omega
      obtain ⟨PA, pc, rfl, hpc⟩ := hPO.form
      have o0 := jo.cell 0
      have o1 := jo.cell 1
      have r0 := j1.cell 0
      have r1 := j1.cell 1
      have f0 := j1.frozen 0
      have f1 := j1.frozen 1
      simp at o0 o1 r0 r1
      have Hj1 := Lib.hid j1
      have hxr : xo < wr.heap.size := jo.lt
      clear jo j1 j0 hqs hEr
      go_wp2
      have kk := ((Hj1.out.set 0 (.slice A' D.bytes.length c')).set 1 (.slice PA qs.length pc))
      have q0 := kk.cell 0
      have q1 := kk.cell 1
      simp only [Array.setIfInBounds_def] at q0 q1
      have hlo : ∀ a, A' = some a → a.block ≠ w.heap.size + 1 := fun a ha => by have := HA'.out a ha; omega
      refine bodyPost_ret (v := .agg #[.slice A' D.bytes.length c', .slice PA qs.length pc]) (by simp [results, Try.results26, go_sem, q0, q1]) rfl ⟨_, rfl, ⟨A', c', _, qs, rfl, h2, (HAr.out.far hlo _).far hlo _, fun a ha => ?_, ?_, ?_⟩, ?_⟩
      · have := HA'.out a ha
        exact ⟨by omega, by simp; omega, HAP.out a ha⟩
      · have ho1 := Hj1.out.not_own hPO.own (by decide)
        exact ((hPO.far (p := ⟨w.heap.size + 1, 0, none⟩) (by simp) ho1 _).far (p := ⟨w.heap.size + 1, 1, none⟩) (by simp) ho1 _).mono (by simp)
      · rw [Hqs.out]; simp
      · exact (HEr.out.setCell (Nat.le_succ _) _).setCell (Nat.le_succ _) _
end Go.Proofs.Ytdlalmbnkcadfaa
