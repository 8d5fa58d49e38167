/- reference: Fit: words for its walk. -/
import Derived.Test.YtdlalmbnkcadfaaN12
import Derived.Test.YtdlalmbnkcadfaaN14
import Derived.Test.YtdlalmbnkcadfaaM17
namespace Go.Proofs.Ytdlalmbnkcadfaa
open Go.RowKit

theorem rIns_cut (key : Nat → Int) (i : Nat) : ∀ (xs : List Nat) (j : Nat), j ≤ xs.length → (∀ t, t < j → key (xs[t]?.getD 0) ≤ key i) → (j < xs.length → ¬ key (xs[j]?.getD 0) ≤ key i) →
    rIns key xs i = xs.take j ++ i :: xs.drop j
  | [], j, hj, _, _ => by
    have : j = 0 := by simpa using hj
    subst this; rfl
  | x :: xs, 0, _, _, h2 => by
    have h := h2 (by simp)
    simp only [List.getElem?_cons_zero, Option.getD_some] at h
    unfold rIns
    rw [List.takeWhile_cons_of_neg (by simpa using h), List.dropWhile_cons_of_neg (by simpa using h)]
    rfl
  | x :: xs, j + 1, hj, h1, h2 => by
    have h := h1 0 (by omega)
    simp only [List.getElem?_cons_zero, Option.getD_some] at h
    have ih := rIns_cut key i xs j (by simpa using hj) (fun t ht => by have := h1 (t + 1) (by omega); simpa using this) (fun hlt => by have := h2 (by simpa using hlt); simpa using this)
    unfold rIns at ih ⊢
    rw [List.takeWhile_cons_of_pos (by simpa using h), List.dropWhile_cons_of_pos (by simpa using h)]
    simp only [List.cons_append, List.take_succ_cons, List.drop_succ_cons]
    rw [ih]
theorem fPart_lt (xs : List Int) (k : Nat) : fPart xs k < 33 := by unfold fPart; omega
/-- A part of the row behind an append: numbers that lie below N. -/
def SW.low (al : Nat → Option (Nat × Value)) (N : Nat) (h : ∀ b, b < N → al b = none) (xs : List Nat) (n : Nat) : SW (PW.row al) :=
  ⟨fun v _ _ w => ∃ A c, v = .slice A n c ∧ N ≤ w.heap.size ∧ Is w A (xs.map fun n : Nat => (n : Int)) ∧ ∀ a, A = some a → a.block < N,
   fun ⟨A, c, e, hN, hI, hA⟩ r => ⟨A, c, e, Nat.le_trans hN (RowR.size r), Sl.keep hI fun p ⟨a, ha, hp⟩ hl => World.cell?_of_block (RowR.heap r hl (h p.block (by rw [hp]; exact hA a ha))), hA⟩⟩
/-- A new empty row. -/
def SW.zero (al : Nat → Option (Nat × Value)) (N : Nat) : SW (PW.row al) :=
  ⟨fun v _ _ w => ∃ b, v = .slice (some ⟨b, 0, none⟩) 0 0 ∧ N ≤ b ∧ Bk w b #[] 3, fun {v l h w w'} ⟨b, e, hb, k⟩ r => ⟨b, e, hb, by
    rcases RowR.block r b k.lt with h | ⟨cur, t, j, x, h1, h2, h3⟩
    · exact h.trans k
    · have k' : w.heap[b]? = some (.cells #[] 3 (0, 0)) := k
      rw [k'] at h2
      injection h2 with h2
      injection h2 with g1 g2
      subst g1 g2
      exact h3⟩⟩
/-- An own row above N. -/
def SW.own (al : Nat → Option (Nat × Value)) (N : Nat) (n : Nat) (xs : List Nat) (h : ∀ g j x, N ≤ g → al g = some (j, x) → n ≤ j ∨ (ncells xs)[j]? = some x) : SW (PW.row al) :=
  ⟨fun v _ _ w => ∃ g cap, v = .slice (some ⟨g, 0, none⟩) n cap ∧ N ≤ g ∧ w.ownsRow N 3 1 (.slice (some ⟨g, 0, none⟩) n cap) n (ncells xs),
   fun ⟨g, cap, e, hb, ho⟩ r => ⟨g, cap, e, hb, own_row ho (fun g' j x hg hal => by simp only [Value.ownBlock, Option.some.injEq] at hg; subst hg; exact h g j x hb hal) r⟩⟩
/-- One element that stays. -/
def SW.one2 (al : Nat → Option (Nat × Value)) (N : Nat) (z : Nat) (h : ∀ b j x, N ≤ b → al b = some (j, x) → x = .int .i64 (z : Int)) : SW (PW.row al) :=
  ⟨fun v _ _ w => ∃ b, v = .slice (some ⟨b, 0, none⟩) 1 1 ∧ N ≤ b ∧ Bk w b #[.int .i64 (z : Int)] 3, fun {v l h' w w'} ⟨b, e, hb, k⟩ r => ⟨b, e, hb, by
    rcases RowR.block r b k.lt with h0 | ⟨cur, t, j, x, h1, h2, h3⟩
    · exact h0.trans k
    · have k' : w.heap[b]? = some (.cells #[.int .i64 (z : Int)] 3 (0, 0)) := k
      rw [k'] at h2
      injection h2 with h2
      injection h2 with g1 g2
      subst g1 g2
      have hx := h b j x hb h1
      subst hx
      show w'.heap[b]? = _
      rw [h3]
      congr 2
      apply Array.ext'
      rw [Array.toList_setIfInBounds]
      cases j with
      | zero => rfl
      | succ j => rfl⟩⟩
/-- The first append of Fit: a part of a row behind an empty one. -/
theorem app_low (ty : TypeId) (al : Nat → Option (Nat × Value)) (w : World) (N b n c : Nat) (A : Option Addr) (xs : List Nat) (hn : n = xs.length) (hk : Bk w b #[] 3) (hb : N ≤ b) (hN : N ≤ w.heap.size) (hA : Is w A (xs.map fun n : Nat => (n : Int))) (hl : xs.length ≤ 100000) :
    ∃ g cap w', (Builtin.append_ #[32, 32] ty #[.slice (some ⟨b, 0, none⟩) 0 0, .slice A n c]).run Try.prog w = .ok (.slice (some ⟨g, 0, none⟩) n cap) w' ∧ RowR al w w' ∧ N ≤ g ∧
      w'.ownsRow N 3 1 (.slice (some ⟨g, 0, none⟩) n cap) n (ncells xs) := by
  subst hn
  obtain ⟨i0, hi0, hz0, hz1, hz2⟩ := info_parts info_int
  obtain ⟨v', w', h1, h2, h3⟩ := app0 32 3 ty i0 (.int .i64 0) 8 Try.underlying32 hi0 hz0 hz1 hz2 rfl (by omega) w b xs.length c A (ncells xs) (by simp) (by
    have e : icells (xs.map fun n : Nat => (n : Int)) = ncells xs := by simp [icells, ncells]
    have h : Sl w A (icells (xs.map fun n : Nat => (n : Int))) := hA
    rw [e] at h; exact h) hl
  rcases h3 with ⟨h0, rfl, rfl⟩ | ⟨hpos, hown⟩
  · have : xs = [] := List.eq_nil_of_length_eq_zero h0
    subst this
    exact ⟨b, 0, _, h1, .of_ext h2, hb, ⟨by simp, .inr ⟨b, 0, #[], rfl, hb, hk, Nat.le_refl _, by decide, by simp, by simp⟩⟩⟩
  · obtain ⟨g, cap, rfl, q1, q2⟩ := hown.form hpos
    exact ⟨g, cap, w', h1, .of_ext h2, by omega, own_down hown hN⟩
set_option maxRecDepth 100000 in
/-- An append of a part of a row at an own row. -/
theorem app_part (ty : TypeId) (w : World) (B n m c g cap : Nat) (A : Option Addr) (xs ys : List Nat) (hm : m = ys.length) (hn : n = xs.length) (ho : w.ownsRow B 3 1 (.slice (some ⟨g, 0, none⟩) n cap) n (ncells xs)) (hA : Is w A (ys.map fun n : Nat => (n : Int))) (hl : n + m ≤ 100000) (hB : B ≤ w.heap.size) :
    ∃ g' cap' w', (Builtin.append_ #[32, 32] ty #[.slice (some ⟨g, 0, none⟩) n cap, .slice A m c]).run Try.prog w = .ok (.slice (some ⟨g', 0, none⟩) (n + m) cap') w' ∧ w.grownBy w' (some g) ∧ RI w' B (.slice (some ⟨g', 0, none⟩) (n + m) cap') (xs ++ ys) := by
  obtain ⟨i0, hi0, hz0, hz1, hz2⟩ := info_parts info_int
  have hI : Sl w A (ncells ys) := by
    have e : icells (ys.map fun n : Nat => (n : Int)) = ncells ys := by simp [icells, ncells]
    have h : Sl w A (icells (ys.map fun n : Nat => (n : Int))) := hA
    rw [e] at h; exact h
  by_cases h0 : m = 0
  · subst h0
    have : ys = [] := List.eq_nil_of_length_eq_zero hm.symm
    subst this
    refine ⟨g, cap, w, ?_, grown_refl w _, by rw [List.append_nil]; subst hn; exact ho⟩
    obtain ⟨_, hown⟩ := ho
    rcases hown with ⟨hv, _⟩ | ⟨g', cap', cur, hv, _, _, hc, _⟩
    · cases hv
    · injection hv with _ _ hcap
      subst hcap
      rcases A with _ | a
      · simp [Builtin.append_, run_underlying Try.underlying32, sizeOf, typeInfo, hi0, Builtin.lenOf, Builtin.firstCells, storeCells, hc]
      · have hfc := run_firstCells_some (P := Try.prog) w i0.size 0 a 0 c [] (by simp) (by simp)
        simp [Builtin.append_, run_underlying Try.underlying32, sizeOf, typeInfo, hi0, Builtin.lenOf, hfc, storeCells, hc]
  · have hpos : 0 < (ncells ys).length := by rw [List.length_map]; omega
    obtain ⟨ab, ao, rfl, _⟩ := hI 0 (ncells ys)[0] (List.getElem?_eq_getElem hpos)
    obtain ⟨g', cap', w', h1, h2, h3, h4, h5⟩ := run_append_lies (P := Try.prog) w 32 ty B 3 i0 (.int .i64 0) 1 8 Try.underlying32 hi0 hz0 hz1 hz2 rfl (by omega) _ n (ncells xs) ho ⟨ab, ao, none⟩ m c (ncells ys) (by simp; omega)
      (fun j u hj => by
        obtain ⟨b', o', e', hc⟩ := hI j u hj
        simp only [Option.some.injEq, Addr.mk.injEq, and_true] at e'
        obtain ⟨rfl, rfl⟩ := e'
        rw [show (Addr.add ⟨ab, ao, none⟩ j) = ⟨ab, ao + j, none⟩ from by unfold Addr.add; split <;> simp_all]
        exact hc) (fun u hu => by obtain ⟨x, _, rfl⟩ := List.mem_map.1 hu; rfl) (by omega) (by simp only [maxLen]; omega) (by omega) hB w.heap.size rfl
    refine ⟨g', cap', w', h1, h3, ?_⟩
    have e : ncells (xs ++ ys) = ncells xs ++ ncells ys := by simp
    show World.ownsRow _ _ _ _ _ _ _
    rw [e, List.length_append, ← hn, ← hm]
    exact h2
end Go.Proofs.Ytdlalmbnkcadfaa
/- reference: Fit: the cuts of its row. -/
namespace Go.Proofs.Ytdlalmbnkcadfaa
open Go.RowKit

theorem size_int (w : World) : (sizeOf (Try.prog.elem 32)).run Try.prog w = .ok 1 w := by kernel_rfl
theorem und_int : Try.prog.underlying 32 = some (.slice (Try.prog.elem 32)) := by kernel_rfl
theorem OI.cut {w : World} {g cap : Nat} {xs : List Nat} (h : OI w g cap xs) (o n : Nat) : Is w (some ⟨g, o, none⟩) (((xs.drop o).take n).map fun n : Nat => (n : Int)) := fun j v hj => by
  refine ⟨g, o, rfl, ?_⟩
  have hlt : j < n ∧ o + j < xs.length := by
    have := (List.getElem?_eq_some_iff.1 hj).1
    simp at this
    omega
  rw [h.cell hlt.2, ← hj]
  simp only [icells, List.getElem?_map, List.getElem?_take, if_pos hlt.1, List.getElem?_drop, List.getElem?_eq_getElem hlt.2, Option.map_some]
theorem slice_to {w : World} {B : Nat} {v : Value} {xs : List Nat} (h : RI w B v xs) (j : Nat) (hj : j ≤ xs.length) :
    ∃ A c, (∀ w', (Instr.slice 32 v none (some (.int .i64 (j : Int))) none).run Try.prog w' = .ok (.slice A j c) w') ∧ Is w A ((xs.take j).map fun n : Nat => (n : Int)) ∧ ∀ a, A = some a → v.ownBlock = some a.block := by
  rcases h.form with ⟨rfl, rfl⟩ | ⟨g, cap, rfl, _, hc, _, ho⟩
  · have hj0 : j = 0 := by simpa using hj
    subst hj0
    refine ⟨none, 0, fun w' => ?_, Is.nil _ _, fun a ha => by cases ha⟩
    rw [run_slice_h (P := Try.prog) _ _ _ _ _ und_int .i64 _ (by omega) (by omega), size_int]
    rfl
  · refine ⟨some ⟨g, 0, none⟩, cap, fun w' => ?_, ?_, fun a ha => by cases ha; rfl⟩
    · rw [run_slice_h (P := Try.prog) _ _ _ _ _ und_int .i64 _ (by omega) (by omega), size_int]
      simp only [Result.andThen, sliced]
      congr 2
      · split
        · rfl
        · simp [Addr.add]
    · have := ho.cut 0 j
      simpa using this
theorem slice_from {w : World} {B : Nat} {v : Value} {xs : List Nat} (h : RI w B v xs) (j : Nat) (hj : j ≤ xs.length) :
    ∃ A c, (∀ w', (Instr.slice 32 v (some (.int .i64 (j : Int))) none none).run Try.prog w' = .ok (.slice A (xs.length - j) c) w') ∧ Is w A ((xs.drop j).map fun n : Nat => (n : Int)) ∧ ∀ a, A = some a → v.ownBlock = some a.block := by
  rcases h.form with ⟨rfl, rfl⟩ | ⟨g, cap, rfl, _, hc, _, ho⟩
  · have hj0 : j = 0 := by simpa using hj
    subst hj0
    refine ⟨none, 0, fun w' => ?_, Is.nil _ _, fun a ha => by cases ha⟩
    rw [run_slice_l (P := Try.prog) _ _ _ _ _ und_int .i64 _ (by omega) (by simp), size_int]
    rfl
  · by_cases hcj : cap = j
    · refine ⟨some ⟨g, 0, none⟩, cap - j, fun w' => ?_, ?_, fun a ha => by cases ha; rfl⟩
      · rw [run_slice_l (P := Try.prog) _ _ _ _ _ und_int .i64 _ (by omega) (by omega), size_int]
        simp [Result.andThen, sliced, hcj]
      · rw [List.drop_eq_nil_of_le (by omega)]; exact Is.nil _ _
    · refine ⟨some ⟨g, j, none⟩, cap - j, fun w' => ?_, ?_, fun a ha => by cases ha; rfl⟩
      · rw [run_slice_l (P := Try.prog) _ _ _ _ _ und_int .i64 _ (by omega) (by omega), size_int]
        simp [Result.andThen, sliced, hcj]
        unfold Addr.add; split <;> simp_all
      · have := ho.cut j (xs.length - j)
        rwa [List.take_of_length_le (by simp)] at this
theorem tm33 (x : Int) : (wrap64 (x.tmod 33 + 33)).tmod 33 = x % 33 := by
  have h : -33 < x.tmod 33 ∧ x.tmod 33 < 33 ∧ (x.tmod 33 = x % 33 ∨ x.tmod 33 = x % 33 - 33) := by
    rcases Int.le_total 0 x with hx | hx
    · rw [Int.tmod_eq_emod_of_nonneg hx]; omega
    · obtain ⟨y, rfl⟩ : ∃ y : Int, x = -y := ⟨-x, by omega⟩
      rw [Int.neg_tmod, Int.tmod_eq_emod_of_nonneg (by omega)]
      omega
  have hw : wrap64 (x.tmod 33 + 33) = x.tmod 33 + 33 := by unfold wrap64; omega
  rw [hw, Int.tmod_eq_emod_of_nonneg (by omega)]
  omega
theorem grownBy_bk {w w' : World} {g : Nat} {cs : Array Value} {t : TypeId} {row : Option Nat} (h : Bk w g cs t) (hg : w.grownBy w' row) (hne : ∀ k, row = some k → k ≠ g) : Bk w' g cs t := h.grown hg (fun e => hne g e.symm rfl)
end Go.Proofs.Ytdlalmbnkcadfaa
/- reference: Fit. -/
namespace Go.Proofs.Ytdlalmbnkcadfaa
open Go.RowKit

abbrev fkey (F : Ft) : Nat → Int := fun x => atI F.order x 0
/-- Where the call stands at the i-th number. -/
structure FiI (w wr : World) (A P : Option Addr) (c d : Nat) (F : Ft) (Ov Pv : Value) (xs ps : List Nat) : Prop where
  e : Ext w wr
  b : Bk wr w.heap.size #[.slice A F.order.length c, .slice P F.part.length d] 34
  r : Bk wr (w.heap.size + 1) #[.slice none 0 0, .slice none 0 0] 34
  f : Bk wr (w.heap.size + 1 + 1) #[Ov, Pv] 34
  o : RI wr (w.heap.size + 3) Ov xs
  p : RI wr (w.heap.size + 3) Pv ps
  ne : Ov.ownBlock = none ∨ Ov.ownBlock ≠ Pv.ownBlock
theorem FiI.ext {w wr w' : World} {A P : Option Addr} {c d : Nat} {F : Ft} {Ov Pv : Value} {xs ps : List Nat} (h : FiI w wr A P c d F Ov Pv xs ps) (e : Ext wr w') : FiI w w' A P c d F Ov Pv xs ps :=
  ⟨h.e.trans e, h.b.ext e, h.r.ext e, h.f.ext e, h.o.ext e, h.p.ext e, h.ne⟩
theorem cell_last (xs : List Nat) (k j : Nat) (h : xs.length = j) : (ncells (xs ++ [k]))[j]? = some (.int .i64 (k : Int)) := by subst h; simp
/-- What a call hands back. -/
def RetFt (w : World) (er : Int) (o p : List Nat) (e : Ending) (w' : World) : Prop :=
  ∃ A c P d, e = .returned (.tuple #[.agg #[.slice A o.length c, .slice P p.length d], .int .i64 er]) ∧ Ext w w' ∧ Is w' A (o.map fun n : Nat => (n : Int)) ∧ Is w' P (p.map fun n : Nat => (n : Int))
set_option maxRecDepth 100000 in
set_option maxHeartbeats 8000000 in
theorem rFit_ok (A P : Option Addr) (c d n : Nat) (F : Ft) (w : World) (hA : Is w A F.order) (hP : Is w P F.part) (hn : n ≤ 64) :
    Calls Try.prog 23 #[.agg #[.slice A F.order.length c, .slice P F.part.length d], .int .i64 (n : Int)] w (RetFt w 0 (rOrd (fkey F) n) ((List.range n).map (fPart F.part))) := by
  have t1 : decide ((n : Int) < 0) = false := by rw [decide_eq_false_iff_not]; omega
  have t2 : decide (64 < (n : Int)) = false := by rw [decide_eq_false_iff_not]; omega
  go_enter Try.func23, Try.ntmps23
  go_wp2_with fail
  obtain ⟨W, hW, hE, hz, k0, k1, k2⟩ := box3 w #[.slice A F.order.length c, .slice P F.part.length d] #[.slice none 0 0, .slice none 0 0] #[.slice none 0 0, .slice none 0 0] 34 34 34
  try (rw [hW]; clear hW)
  have HE := Lib.hid hE
  have HK0 := Lib.hid k0
  have HK1 := Lib.hid k1
  have HK2 := Lib.hid k2
  clear hE hz k0 k1 k2 t1 t2
  obtain ⟨i0, hi0, hz0, hz1, hz2⟩ := info_parts info_int
  go_loopw [7] (fun vi wr => ∃ (k : Nat) (Ov Pv : Value), k ≤ n ∧ vi = .int .i64 k ∧ Hid (FiI w wr A P c d F Ov Pv (rOrd (fkey F) k) ((List.range k).map (fPart F.part)))) (fun vi _ => n - (intOf vi).toNat)
  case atStart => exact ⟨0, .slice none 0 0, .slice none 0 0, Nat.zero_le _, rfl, ⟨HE.out, HK0.out, HK1.out, HK2.out, World.ownsRow_nil _ _ _ _, World.ownsRow_nil _ _ _ _, .inl rfl⟩⟩
  case round =>
    obtain ⟨k, Ov, Pv, hk, rfl, HI⟩ := hrel
    clear HE HK0 HK1 HK2
    by_cases hlt : k < n
    · have HP1 := Lib.hid (hP.ext HI.out.e)
      have b0 := HI.out.b.cell 0
      have b1 := HI.out.b.cell 1
      simp at b0 b1
      go_upto_if 27 with fail
      go_cut [8] from 18 to 76 (fun s8 wx => s8 = .int .i64 (fPart F.part k : Nat) ∧ wr = wx)
      case first =>
        by_cases h : k < F.part.length
        · obtain ⟨pb, po, rfl, p1⟩ := HP1.out.at h
          have t3 : (k : Int) < (F.part.length : Int) := by omega
          have hr : Hid (((fPart F.part k : Nat) : Int) = F.part[k] % 33) := by show _ = _; unfold fPart atI; rw [List.getElem?_eq_getElem h]; simp; omega
          go_wp2
          go_meet
          exact ⟨by rw [tm33, hr.out], rfl⟩
        · have t3 : ¬ (k : Int) < (F.part.length : Int) := by omega
          have hr : Hid (fPart F.part k = 32) := by show _ = _; unfold fPart atI; rw [List.getElem?_eq_none (by omega)]; rfl
          go_wp2
          go_meet
          exact ⟨by rw [hr.out]; rfl, rfl⟩
      case rest =>
        obtain ⟨rfl, rfl⟩ := hcut
        clear HP1 b0 b1
        obtain ⟨xs, hxs⟩ : ∃ xs, xs = rOrd (fkey F) k := ⟨_, rfl⟩
        obtain ⟨ps, hps⟩ : ∃ ps, ps = (List.range k).map (fPart F.part) := ⟨_, rfl⟩
        have Hxl : Hid (xs.length = k) := by rw [hxs]; exact (rOrd_ok (fkey F) k).len
        have Hpl : Hid (ps.length = k) := by show _ = _; rw [hps]; simp
        have Hxs := Lib.hid hxs
        have Hps := Lib.hid hps
        rw [← hxs, ← hps] at HI
        clear hxs hps
        have f0 := HI.out.f.cell 0
        have f1 := HI.out.f.cell 1
        simp at f0 f1
        obtain ⟨z, hz⟩ : ∃ z, z = fPart F.part k := ⟨_, rfl⟩
        have Hz := Lib.hid hz
        rw [← hz]
        clear hz
        have hE2 : Ext wr (wr.alloc (.cells #[.int .i64 (z : Int)] 3)) := (Ext.refl wr).alloc _
        have hsz : w.heap.size + 3 ≤ wr.heap.size := by have := HI.out.f.lt; omega
        have hpl : ps.length ≤ 64 := by have := Hpl.out; omega
        go_wp2_with (first
          | (at_builtin
             refine wpList_append_lies (P := Try.prog) _ rfl _ _ 32 rfl (w.heap.size + 3) 3 i0 _ 1 8 Try.underlying32 hi0 hz0 hz1 hz2 (by rfl) (by omega) Pv ps.length (ncells ps) (by rfl) (HI.out.p.ext hE2) ⟨wr.heap.size, 0, none⟩ 1 1 [.int .i64 (z : Int)] ?e1 (by rfl) ?e2 ?e3 (by omega) ?e4 ?e5 ?e6 _ rfl ?e7)
          | fail)
        case e1 => rfl
        case e2 => exact World.news_of_block (cs := #[.int .i64 (z : Int)]) (Bk.new _ _ _)
        case e3 => intro u hu; simp at hu; subst hu; rfl
        case e4 => simp only [maxLen]; omega
        case e5 => omega
        case e6 => simp; omega
        case e7 =>
          intro g cap w7 hown hgrow hat hlt7
          have hPo := HI.out.p
          have hkeep : ∀ (x : Nat) cs, Bk wr x cs 34 → Bk w7 x cs 34 := fun x cs h => (h.ext hE2).grown hgrow ((h.ext hE2).not_own (hPo.ext hE2) (by decide))
          have kf := hkeep _ _ HI.out.f
          have kb := hkeep _ _ HI.out.b
          have kr := hkeep _ _ HI.out.r
          have ko := (HI.out.o.ext hE2).kept hgrow HI.out.ne
          have hne7 : Ov.ownBlock = none ∨ Ov.ownBlock ≠ some g := by
            rcases hat with h | h
            · rcases HI.out.ne with h' | h'
              · exact .inl h'
              · exact .inr (by rw [← h]; exact h')
            · by_cases ho : Ov.ownBlock = some g
              · have h1 := (HI.out.o.lt g ho).2
                have h2 : g = wr.heap.size + 1 := by simpa using h
                omega
              · exact .inr ho
          have kp : RI w7 (w.heap.size + 3) (.slice (some ⟨g, 0, none⟩) (ps.length + 1) cap) (ps ++ [z]) := by
            have e : ncells (ps ++ [z]) = ncells ps ++ [.int .i64 (z : Int)] := by simp
            show World.ownsRow _ _ _ _ _ _ _
            rw [e]
            simpa using hown
          have hE7 : Ext w w7 := Below.grown (HI.out.e.trans hE2) hgrow (by simp; omega) (fun x hx => by have := (hPo.lt x hx).1; omega)
          have o0 := kf.cell 0
          have o1 := kf.cell 1
          have q1 := kf.frozen 1
          simp at o0 o1
          have HV : Hid (FiI w (w7.setCell ⟨w.heap.size + 1 + 1, 1, none⟩ (.slice (some ⟨g, 0, none⟩) (ps.length + 1) cap)) A P c d F Ov (.slice (some ⟨g, 0, none⟩) (ps.length + 1) cap) xs (ps ++ [z])) :=
            ⟨hE7.setCell (by show w.heap.size ≤ w.heap.size + 1 + 1; omega) _, kb.far (by show w.heap.size ≠ w.heap.size + 1 + 1; omega) _, kr.far (by show w.heap.size + 1 ≠ w.heap.size + 1 + 1; omega) _, kf.set 1 _, ko.low (by omega) _, kp.low (by omega) _, hne7⟩
          clear hown hgrow hat hE2 hsz hPo hkeep kf kb kr ko hne7 kp hE7 f0 f1 HI
          go_wp2_with fail
          obtain ⟨V, hV⟩ : ∃ V, w7.setCell ⟨w.heap.size + 1 + 1, 1, none⟩ (.slice (some ⟨g, 0, none⟩) (ps.length + 1) cap) = V := ⟨_, rfl⟩
          rw [hV] at HV ⊢
          clear hV o0 o1 q1
          obtain ⟨Pw, hPw⟩ : ∃ Pw, Pw = Value.slice (some ⟨g, 0, none⟩) (ps.length + 1) cap := ⟨_, rfl⟩
          rw [← hPw] at HV
          go_loopw [9] (fun vj wx => ∃ j : Nat, j ≤ k ∧ vj = .int .i64 j ∧ Ext V wx ∧ Hid (∀ t, t < j → fkey F (xs[t]?.getD 0) ≤ fkey F k)) (fun vj _ => k - (intOf vj).toNat)
          case atStart => exact ⟨0, Nat.zero_le _, rfl, Ext.refl _, fun t ht => absurd ht (Nat.not_lt_zero _)⟩
          case round =>
            obtain ⟨j, hj, rfl, hEx, Hj⟩ := hrel
            have HIx := Lib.hid (HV.out.ext hEx)
            have hxl : xs.length ≤ 64 := by have := Hxl.out; omega
            by_cases hjk : j < k
            · have hjx : j < xs.length := by have := Hxl.out; omega
              have hform := HIx.out.o.form
              rcases hform with ⟨_, hnil⟩ | ⟨og, oc, hv, _, _, _, hOI⟩
              · rw [hnil] at hjx; simp at hjx
              have hcell := Lib.hid (fun w' (h : Ext wr w') => (hOI.ext h).cell hjx)
              have hS := Lib.hid (fun w' (h : Ext wr w') => (⟨h, (HIx.out.b.ext h).cell 0, by rw [← hv]; exact (HIx.out.f.ext h).cell 0, hcell.out w' h⟩ : Ext wr w' ∧ w'.cell? ⟨w.heap.size, 0, none⟩ = some (.slice A F.order.length c) ∧ w'.cell? ⟨w.heap.size + 1 + 1, 0, none⟩ = some (.slice (some ⟨og, 0, none⟩) xs.length oc) ∧ w'.cell? ⟨og, j, none⟩ = some (.int .i64 ((xs[j] : Nat) : Int))))
              have HAx := Lib.hid (hA.ext HIx.out.e)
              have t4 : (j : Int) < (k : Int) := by omega
              have t5 : (j : Int) < (xs.length : Int) := by omega
              clear hOI hv
              by_cases hle : atI F.order xs[j] 0 ≤ atI F.order k 0
              · go_wp2_with fail
                refine wp_region_rel 18 (by kernel_rfl) (by kernel_rfl) (Ext.refl wr).drew ?_
                repeat (apply relW_fix
                        · intro vs w' hw hf
                          have hc := hS.out w' hw
                          unfold okAt
                          go_simp
                          first | exact ⟨rfl, Ext.refl _⟩ | exact rfl
                        · intro vs; go_simp; rfl)
                (apply relW_fix
                 · intro vs w' hw hf
                   have hc := hS.out w' hw
                   skip
                   unfold okAt
                   go_simp
                   refine ⟨Ext.refl _, ?_⟩
                   go_at_call 56
                   refine (rNumber_any A c xs[j] F.order w' (HAx.out.ext hw)).mono ?_; rintro e w5 ⟨rfl, rfl⟩; exact ⟨_, rfl, rfl, Ext.refl _⟩
                 · intro vs; go_simp; rfl)
                repeat (apply relW_fix
                        · intro vs w' hw hf
                          have hc := hS.out w' hw
                          unfold okAt
                          go_simp
                          first | exact ⟨rfl, Ext.refl _⟩ | exact rfl
                        · intro vs; go_simp; rfl)
                (apply relW_fix
                 · intro vs w' hw hf
                   have hc := hS.out w' hw
                   skip
                   unfold okAt
                   go_simp
                   refine ⟨Ext.refl _, ?_⟩
                   go_at_call 56
                   refine (rNumber_any A c k F.order w' (HAx.out.ext hw)).mono ?_; rintro e w5 ⟨rfl, rfl⟩; exact ⟨_, rfl, rfl, Ext.refl _⟩
                 · intro vs; go_simp; rfl)
                repeat (apply relW_fix
                        · intro vs w' hw hf
                          have hc := hS.out w' hw
                          unfold okAt
                          go_simp
                          first | exact ⟨rfl, Ext.refl _⟩ | exact rfl
                        · intro vs; go_simp; rfl)
                refine relW_nil fun vs w8 hw hf => ?_
                refine wpList_nil ?_
                clear hS hcell HAx
                have Hj' : Hid (∀ t, t < j + 1 → fkey F (xs[t]?.getD 0) ≤ fkey F k) := fun t ht => by
                  by_cases h : t = j
                  · subst h; rw [List.getElem?_eq_getElem hjx]; exact hle
                  · exact Hj.out t (by omega)
                go_wp2
                go_roundw
                case rel => exact ⟨j + 1, by omega, by go_num, hEx.trans hw, Hj'⟩
                case measure => simp [intOf]; omega
              · have Hle := Lib.hid hle
                have t6 : decide (atI F.order xs[j] 0 ≤ atI F.order k 0) = false := decide_eq_false hle
                clear hle
                go_wp2_with fail
                refine wp_region_rel 18 (by kernel_rfl) (by kernel_rfl) (Ext.refl wr).drew ?_
                repeat (apply relW_fix
                        · intro vs w' hw hf
                          have hc := hS.out w' hw
                          unfold okAt
                          go_simp
                          first | exact ⟨rfl, Ext.refl _⟩ | exact rfl
                        · intro vs; go_simp; rfl)
                (apply relW_fix
                 · intro vs w' hw hf
                   have hc := hS.out w' hw
                   skip
                   unfold okAt
                   go_simp
                   refine ⟨Ext.refl _, ?_⟩
                   go_at_call 56
                   refine (rNumber_any A c xs[j] F.order w' (HAx.out.ext hw)).mono ?_; rintro e w5 ⟨rfl, rfl⟩; exact ⟨_, rfl, rfl, Ext.refl _⟩
                 · intro vs; go_simp; rfl)
                repeat (apply relW_fix
                        · intro vs w' hw hf
                          have hc := hS.out w' hw
                          unfold okAt
                          go_simp
                          first | exact ⟨rfl, Ext.refl _⟩ | exact rfl
                        · intro vs; go_simp; rfl)
                (apply relW_fix
                 · intro vs w' hw hf
                   have hc := hS.out w' hw
                   skip
                   unfold okAt
                   go_simp
                   refine ⟨Ext.refl _, ?_⟩
                   go_at_call 56
                   refine (rNumber_any A c k F.order w' (HAx.out.ext hw)).mono ?_; rintro e w5 ⟨rfl, rfl⟩; exact ⟨_, rfl, rfl, Ext.refl _⟩
                 · intro vs; go_simp; rfl)
                repeat (apply relW_fix
                        · intro vs w' hw hf
                          have hc := hS.out w' hw
                          unfold okAt
                          go_simp
                          first | exact ⟨rfl, Ext.refl _⟩ | exact rfl
                        · intro vs; go_simp; rfl)
                refine relW_nil fun vs w8 hw hf => ?_
                refine wpList_nil ?_
                have HI8 := Lib.hid (HIx.out.ext hw)
                have HC : Hid (rOrd (fkey F) (k + 1) = xs.take j ++ [k] ++ xs.drop j) := by
                  show _ = _
                  rw [rOrd_succ, ← Hxs.out, rIns_cut (fkey F) k xs j (by omega) Hj.out (fun _ => by rw [List.getElem?_eq_getElem hjx]; have := Hle.out; show ¬ (atI F.order xs[j] 0 ≤ atI F.order k 0); omega)]
                  simp
                clear hS hcell HAx hw hf HIx hEx Hj HV Hle t5
                have hjl : j ≤ xs.length := by have := Hxl.out; omega
                obtain ⟨Oa, oca, hsl1, hI1, hA1⟩ := slice_to HI8.out.o j (by have := Hxl.out; omega)
                obtain ⟨Ob, ocb, hsl2, hI2, hA2⟩ := slice_from HI8.out.o j (by have := Hxl.out; omega)
                obtain ⟨al, hal⟩ : ∃ al : Nat → Option (Nat × Value), al = fun b => if w8.heap.size ≤ b then some (j, .int .i64 (k : Int)) else none := ⟨_, rfl⟩
                have hlo : ∀ b, b < w8.heap.size → al b = none := fun b hb => by rw [hal]; exact if_neg (by omega)
                have hhi : ∀ b, w8.heap.size ≤ b → al b = some (j, .int .i64 (k : Int)) := fun b hb => by rw [hal]; exact if_pos hb
                have Hlo := Lib.hid hlo
                have Hhi := Lib.hid hhi
                have HI1 : Hid (∀ w', RowR al w8 w' → Is w' Oa ((xs.take j).map fun n : Nat => (n : Int))) := fun w' r => Sl.keep hI1 fun p ⟨a, ha, hp⟩ hl => World.cell?_of_block (r.heap hl (Hlo.out p.block (by rw [hp]; exact (HI8.out.o.lt a.block (hA1 a ha)).2)))
                have HI2 : Hid (∀ w', RowR al w8 w' → Is w' Ob ((xs.drop j).map fun n : Nat => (n : Int))) := fun w' r => Sl.keep hI2 fun p ⟨a, ha, hp⟩ hl => World.cell?_of_block (r.heap hl (Hlo.out p.block (by rw [hp]; exact (HI8.out.o.lt a.block (hA2 a ha)).2)))
                have hS := Lib.hid (fun w' (h : RowR al w8 w') => (⟨h, (h.bk HI8.out.f (Hlo.out _ HI8.out.f.lt)).cell 0⟩ : RowR al w8 w' ∧ w'.cell? ⟨w.heap.size + 1 + 1, 0, none⟩ = some Ov))
                clear hal hlo hhi hI1 hI2 hA1 hA2
                go_wp2_with fail
                refine wp_region_r2 (PW.row al) 13 (by kernel_rfl) (by kernel_rfl) (RowR.of_ext (Ext.refl w8).drew) ?_
                (apply relW2_any (SW.zero al w8.heap.size)
                 · intro vs iv w' hw hf
                   have hc := hS.out w' hw
                   skip
                   unfold okAt2
                   go_simp
                   exact ⟨⟨_, rfl, RowR.size hw, Bk.new _ _ _⟩, RowR.of_ext ((Ext.refl _).alloc _)⟩
                 · intro vs; go_simp; rfl)
                (apply relW2_fix
                 · intro vs iv w' hw hf
                   have hc := hS.out w' hw
                   unfold okAt2
                   go_simp
                   first | exact ⟨rfl, PW.refl _ _⟩ | exact rfl
                 · intro vs; go_simp; rfl)
                (apply relW2_fix
                 · intro vs iv w' hw hf
                   have hc := hS.out w' hw
                   unfold okAt2
                   go_simp
                   first | exact ⟨rfl, PW.refl _ _⟩ | exact rfl
                 · intro vs; go_simp; rfl)
                (apply relW2_fix
                 · intro vs iv w' hw hf
                   have hc := hS.out w' hw
                   unfold okAt2
                   go_simp
                   first | exact ⟨rfl, PW.refl _ _⟩ | exact rfl
                 · intro vs; go_simp; rfl)
                (apply relW2_fix
                 · intro vs iv w' hw hf
                   have hc := hS.out w' hw
                   unfold okAt2
                   go_simp
                   first | exact ⟨rfl, PW.refl _ _⟩ | exact rfl
                 · intro vs; go_simp; rfl)
                (apply relW2_any (SW.own al w8.heap.size j (xs.take j) (fun g j' x hg hj => .inl (by rw [Hhi.out g hg] at hj; have := (Prod.mk.inj (Option.some.inj hj)).1; omega)))
                 · intro vs iv w' hw hf
                   obtain ⟨b, eb, hb1, hb2⟩ := hf.out.1 (by kernel_rfl)
                   obtain ⟨g, cap, w2, h1, h2, h3, h4⟩ := app_low 32 al w' w8.heap.size b j oca Oa (xs.take j) (by simp; omega) hb2 hb1 (RowR.size hw) (HI1.out w' hw) (by simp; omega)
                   exact okAt2_app rfl _ _ _ rfl _ _ _ (by exact eb) rfl h1 ⟨g, cap, rfl, h3, h4⟩ h2
                 · intro vs; go_simp; rfl)
                (apply relW2_fix
                 · intro vs iv w' hw hf
                   have hc := hS.out w' hw
                   unfold okAt2
                   go_simp
                   first | exact ⟨rfl, PW.refl _ _⟩ | exact rfl
                 · intro vs; go_simp; rfl)
                (apply relW2_any (SW.one2 al w8.heap.size k (fun b j' x hb hj => (by rw [Hhi.out b hb] at hj; exact (Prod.mk.inj (Option.some.inj hj)).2.symm)))
                 · intro vs iv w' hw hf
                   have hc := hS.out w' hw
                   skip
                   unfold okAt2
                   go_simp
                   exact ⟨⟨_, rfl, RowR.size hw, Bk.new _ _ _⟩, RowR.of_ext ((Ext.refl _).alloc _)⟩
                 · intro vs; go_simp; rfl)
                (apply relW2_any (SW.own al w8.heap.size (j + 1) (xs.take j ++ [k]) (fun g j' x hg hj => .inr (by rw [Hhi.out g hg] at hj; obtain ⟨rfl, rfl⟩ := Prod.mk.inj (Option.some.inj hj); exact cell_last _ k _ (by simp; omega))))
                 · intro vs iv w' hw hf
                   obtain ⟨b, eb, hb1, hb2⟩ := hf.out.1 (by kernel_rfl)
                   obtain ⟨g, cap, eg, hg1, hg2⟩ := hf.out.2.1 (by kernel_rfl)
                   have hlj : (xs.take j).length = j := by simp; omega
                   obtain ⟨g', cap', w2, h1, h2, h3, h4⟩ := app_one 32 3 32 i0 (.int .i64 0) 8 Try.underlying32 hi0 hz0 hz1 hz2 rfl (by omega) al w' w8.heap.size j _ (.int .i64 (k : Int)) (ncells (xs.take j)) hg2 b 3 hb2 rfl (by omega) (RowR.size hw) (fun q hq => (by
                     simp only [Value.ownBlock, Option.some.injEq] at hq; subst hq; exact Hhi.out g hg1))
                   have e : ncells (xs.take j) ++ [.int .i64 (k : Int)] = ncells (xs.take j ++ [k]) := by simp
                   rw [e] at h3
                   refine okAt2_app rfl _ _ _ rfl _ _ _ (by exact eg) (by exact eb) h1 ⟨g', cap', rfl, ?_, h3⟩ h2
                   rcases h4 with h4 | h4
                   · simp only [Value.ownBlock, Option.some.injEq] at h4; omega
                   · have := RowR.size hw; omega
                 · intro vs; go_simp; rfl)
                (apply relW2_fix
                 · intro vs iv w' hw hf
                   have hc := hS.out w' hw
                   unfold okAt2
                   go_simp
                   first | exact ⟨rfl, PW.refl _ _⟩ | exact rfl
                 · intro vs; go_simp; rfl)
                (apply relW2_fix
                 · intro vs iv w' hw hf
                   have hc := hS.out w' hw
                   unfold okAt2
                   go_simp
                   first | exact ⟨rfl, PW.refl _ _⟩ | exact rfl
                 · intro vs; go_simp; rfl)
                (apply relW2_fix
                 · intro vs iv w' hw hf
                   have hc := hS.out w' hw
                   unfold okAt2
                   go_simp
                   first | exact ⟨rfl, PW.refl _ _⟩ | exact rfl
                 · intro vs; go_simp; rfl)
                (apply relW2_fix
                 · intro vs iv w' hw hf
                   have hc := hS.out w' hw
                   unfold okAt2
                   go_simp
                   first | exact ⟨rfl, PW.refl _ _⟩ | exact rfl
                 · intro vs; go_simp; rfl)
                refine relW2_nil fun vs iv w9 hw hf hap => ?_
                obtain ⟨⟨g9, cap9, e9, hg9, ho9⟩, -⟩ := hf
                have hw : RowR al w8 w9 := hw
                have hlj : (xs.take j).length = j := by simp; omega
                obtain ⟨g', cap', w10, h1, h2, h3⟩ := app_part 32 w9 w8.heap.size (j + 1) (xs.length - j) ocb g9 cap9 Ob (xs.take j ++ [k]) (xs.drop j) (by simp) (by simp; omega) ho9 (HI2.out w9 hw) (by omega) hw.size
                have hg' := (World.ownsRow.lt h3 g' rfl).1
                have hfl := HI8.out.f.lt
                have nf : ∀ b, b < w8.heap.size → some b ≠ some g9 := fun b hb e => by have := Option.some.inj e; omega
                have kf := (hw.bk HI8.out.f (Hlo.out _ hfl)).grown h2 (nf _ hfl)
                have kb := (hw.bk HI8.out.b (Hlo.out _ HI8.out.b.lt)).grown h2 (nf _ HI8.out.b.lt)
                have kr := (hw.bk HI8.out.r (Hlo.out _ HI8.out.r.lt)).grown h2 (nf _ HI8.out.r.lt)
                have kp : RI w10 (w.heap.size + 3) Pw (ps ++ [z]) := (own_row HI8.out.p (fun g j' x hg hj => by rw [Hlo.out g (HI8.out.p.lt g hg).2] at hj; cases hj) hw).kept h2 (by
                  by_cases hp : Pw.ownBlock = some g9
                  · have := (HI8.out.p.lt g9 hp).2; omega
                  · exact .inr hp)
                have hE10 : Ext w w10 := Below.grown (Below.trans HI8.out.e (hw.below HI8.out.e.size (fun b hb => Hlo.out b (by have := HI8.out.e.size; omega)))) h2 (by have := HI8.out.e.size; have := hw.size; omega) (fun x hx => by have := Option.some.inj hx; have := HI8.out.e.size; omega)
                have o0 := kf.cell 0
                have q0 := kf.frozen 0
                simp at o0
                have Kf := Lib.hid kf
                have Kb := Lib.hid kb
                have Kr := Lib.hid kr
                have Kp := Lib.hid kp
                have HE10 := Lib.hid hE10
                have HO : Hid (RI w10 (w.heap.size + 3) (.slice (some ⟨g', 0, none⟩) (j + 1 + (xs.length - j)) cap') (rOrd (fkey F) (k + 1))) := by
                  show RI _ _ _ _
                  rw [HC.out]
                  exact RI.down h3 (by omega)
                have hNe : Hid (some g' ≠ Pw.ownBlock) := fun e => by have := (HI8.out.p.lt g' e.symm).2; omega
                refine wpList_app rfl (.tmp 70) (.tmp 74) 32 rfl _ _ _ (by exact e9) (by rfl) h1 ?_
                clear h1 h2 h3 hg' hfl nf kf kb kr kp hE10 hw hlj HI1 HI2 hS hsl1 hsl2 HI8 hap ho9
                go_wp2
                go_roundw
                case rel =>
                  have hl1 := Hxl.out
                  refine ⟨k + 1, .slice (some ⟨g', 0, none⟩) (j + 1 + (xs.length - j)) cap', Pw, by omega, by go_num, ⟨HE10.out.setCell (by show w.heap.size ≤ w.heap.size + 1 + 1; omega) _, Kb.out.far (by show w.heap.size ≠ w.heap.size + 1 + 1; omega) _, Kr.out.far (by show w.heap.size + 1 ≠ w.heap.size + 1 + 1; omega) _, Kf.out.set 0 _, HO.out.low (by omega) _, ?_, .inr hNe.out⟩⟩
                  have hq : (List.range (k + 1)).map (fPart F.part) = ps ++ [z] := by rw [List.range_succ, List.map_append, ← Hps.out, Hz.out]; rfl
                  rw [hq]
                  exact Kp.out.low (by omega) _
                case measure => simp [intOf]; omega
            · have t4 : ¬ (j : Int) < (k : Int) := by omega
              have hS := Lib.hid (fun w' (h : Ext wr w') => (⟨h, trivial⟩ : Ext wr w' ∧ True))
              go_wp2_with fail
              refine wp_region_rel 18 (by kernel_rfl) (by kernel_rfl) (Ext.refl wr).drew ?_
              repeat (apply relW_fix
                      · intro vs w' hw hf
                        have hc := hS.out w' hw
                        unfold okAt
                        go_simp
                        first | exact ⟨rfl, Ext.refl _⟩ | exact rfl
                      · intro vs; go_simp; rfl)
              refine relW_nil fun vs w8 hw hf => ?_
              refine wpList_nil ?_
              have HI8 := Lib.hid (HIx.out.ext hw)
              have HC : Hid (rOrd (fkey F) (k + 1) = xs.take j ++ [k] ++ xs.drop j) := by
                show _ = _
                rw [rOrd_succ, ← Hxs.out, rIns_cut (fkey F) k xs j (by have := Hxl.out; omega) Hj.out (fun h => by have := Hxl.out; omega)]
                simp
              clear hS hw hf HIx hEx Hj HV
              have hjl : j ≤ xs.length := by have := Hxl.out; omega
              obtain ⟨Oa, oca, hsl1, hI1, hA1⟩ := slice_to HI8.out.o j (by have := Hxl.out; omega)
              obtain ⟨Ob, ocb, hsl2, hI2, hA2⟩ := slice_from HI8.out.o j (by have := Hxl.out; omega)
              obtain ⟨al, hal⟩ : ∃ al : Nat → Option (Nat × Value), al = fun b => if w8.heap.size ≤ b then some (j, .int .i64 (k : Int)) else none := ⟨_, rfl⟩
              have hlo : ∀ b, b < w8.heap.size → al b = none := fun b hb => by rw [hal]; exact if_neg (by omega)
              have hhi : ∀ b, w8.heap.size ≤ b → al b = some (j, .int .i64 (k : Int)) := fun b hb => by rw [hal]; exact if_pos hb
              have Hlo := Lib.hid hlo
              have Hhi := Lib.hid hhi
              have HI1 : Hid (∀ w', RowR al w8 w' → Is w' Oa ((xs.take j).map fun n : Nat => (n : Int))) := fun w' r => Sl.keep hI1 fun p ⟨a, ha, hp⟩ hl => World.cell?_of_block (r.heap hl (Hlo.out p.block (by rw [hp]; exact (HI8.out.o.lt a.block (hA1 a ha)).2)))
              have HI2 : Hid (∀ w', RowR al w8 w' → Is w' Ob ((xs.drop j).map fun n : Nat => (n : Int))) := fun w' r => Sl.keep hI2 fun p ⟨a, ha, hp⟩ hl => World.cell?_of_block (r.heap hl (Hlo.out p.block (by rw [hp]; exact (HI8.out.o.lt a.block (hA2 a ha)).2)))
              have hS := Lib.hid (fun w' (h : RowR al w8 w') => (⟨h, (h.bk HI8.out.f (Hlo.out _ HI8.out.f.lt)).cell 0⟩ : RowR al w8 w' ∧ w'.cell? ⟨w.heap.size + 1 + 1, 0, none⟩ = some Ov))
              clear hal hlo hhi hI1 hI2 hA1 hA2
              go_wp2_with fail
              refine wp_region_r2 (PW.row al) 13 (by kernel_rfl) (by kernel_rfl) (RowR.of_ext (Ext.refl w8).drew) ?_
              (apply relW2_any (SW.zero al w8.heap.size)
               · intro vs iv w' hw hf
                 have hc := hS.out w' hw
                 skip
                 unfold okAt2
                 go_simp
                 exact ⟨⟨_, rfl, RowR.size hw, Bk.new _ _ _⟩, RowR.of_ext ((Ext.refl _).alloc _)⟩
               · intro vs; go_simp; rfl)
              (apply relW2_fix
               · intro vs iv w' hw hf
                 have hc := hS.out w' hw
                 unfold okAt2
                 go_simp
                 first | exact ⟨rfl, PW.refl _ _⟩ | exact rfl
               · intro vs; go_simp; rfl)
              (apply relW2_fix
               · intro vs iv w' hw hf
                 have hc := hS.out w' hw
                 unfold okAt2
                 go_simp
                 first | exact ⟨rfl, PW.refl _ _⟩ | exact rfl
               · intro vs; go_simp; rfl)
              (apply relW2_fix
               · intro vs iv w' hw hf
                 have hc := hS.out w' hw
                 unfold okAt2
                 go_simp
                 first | exact ⟨rfl, PW.refl _ _⟩ | exact rfl
               · intro vs; go_simp; rfl)
              (apply relW2_fix
               · intro vs iv w' hw hf
                 have hc := hS.out w' hw
                 unfold okAt2
                 go_simp
                 first | exact ⟨rfl, PW.refl _ _⟩ | exact rfl
               · intro vs; go_simp; rfl)
              (apply relW2_any (SW.own al w8.heap.size j (xs.take j) (fun g j' x hg hj => .inl (by rw [Hhi.out g hg] at hj; have := (Prod.mk.inj (Option.some.inj hj)).1; omega)))
               · intro vs iv w' hw hf
                 obtain ⟨b, eb, hb1, hb2⟩ := hf.out.1 (by kernel_rfl)
                 obtain ⟨g, cap, w2, h1, h2, h3, h4⟩ := app_low 32 al w' w8.heap.size b j oca Oa (xs.take j) (by simp; omega) hb2 hb1 (RowR.size hw) (HI1.out w' hw) (by simp; omega)
                 exact okAt2_app rfl _ _ _ rfl _ _ _ (by exact eb) rfl h1 ⟨g, cap, rfl, h3, h4⟩ h2
               · intro vs; go_simp; rfl)
              (apply relW2_fix
               · intro vs iv w' hw hf
                 have hc := hS.out w' hw
                 unfold okAt2
                 go_simp
                 first | exact ⟨rfl, PW.refl _ _⟩ | exact rfl
               · intro vs; go_simp; rfl)
              (apply relW2_any (SW.one2 al w8.heap.size k (fun b j' x hb hj => (by rw [Hhi.out b hb] at hj; exact (Prod.mk.inj (Option.some.inj hj)).2.symm)))
               · intro vs iv w' hw hf
                 have hc := hS.out w' hw
                 skip
                 unfold okAt2
                 go_simp
                 exact ⟨⟨_, rfl, RowR.size hw, Bk.new _ _ _⟩, RowR.of_ext ((Ext.refl _).alloc _)⟩
               · intro vs; go_simp; rfl)
              (apply relW2_any (SW.own al w8.heap.size (j + 1) (xs.take j ++ [k]) (fun g j' x hg hj => .inr (by rw [Hhi.out g hg] at hj; obtain ⟨rfl, rfl⟩ := Prod.mk.inj (Option.some.inj hj); exact cell_last _ k _ (by simp; omega))))
               · intro vs iv w' hw hf
                 obtain ⟨b, eb, hb1, hb2⟩ := hf.out.1 (by kernel_rfl)
                 obtain ⟨g, cap, eg, hg1, hg2⟩ := hf.out.2.1 (by kernel_rfl)
                 have hlj : (xs.take j).length = j := by simp; omega
                 obtain ⟨g', cap', w2, h1, h2, h3, h4⟩ := app_one 32 3 32 i0 (.int .i64 0) 8 Try.underlying32 hi0 hz0 hz1 hz2 rfl (by omega) al w' w8.heap.size j _ (.int .i64 (k : Int)) (ncells (xs.take j)) hg2 b 3 hb2 rfl (by omega) (RowR.size hw) (fun q hq => (by
                   simp only [Value.ownBlock, Option.some.injEq] at hq; subst hq; exact Hhi.out g hg1))
                 have e : ncells (xs.take j) ++ [.int .i64 (k : Int)] = ncells (xs.take j ++ [k]) := by simp
                 rw [e] at h3
                 refine okAt2_app rfl _ _ _ rfl _ _ _ (by exact eg) (by exact eb) h1 ⟨g', cap', rfl, ?_, h3⟩ h2
                 rcases h4 with h4 | h4
                 · simp only [Value.ownBlock, Option.some.injEq] at h4; omega
                 · have := RowR.size hw; omega
               · intro vs; go_simp; rfl)
              (apply relW2_fix
               · intro vs iv w' hw hf
                 have hc := hS.out w' hw
                 unfold okAt2
                 go_simp
                 first | exact ⟨rfl, PW.refl _ _⟩ | exact rfl
               · intro vs; go_simp; rfl)
              (apply relW2_fix
               · intro vs iv w' hw hf
                 have hc := hS.out w' hw
                 unfold okAt2
                 go_simp
                 first | exact ⟨rfl, PW.refl _ _⟩ | exact rfl
               · intro vs; go_simp; rfl)
              (apply relW2_fix
               · intro vs iv w' hw hf
                 have hc := hS.out w' hw
                 unfold okAt2
                 go_simp
                 first | exact ⟨rfl, PW.refl _ _⟩ | exact rfl
               · intro vs; go_simp; rfl)
              (apply relW2_fix
               · intro vs iv w' hw hf
                 have hc := hS.out w' hw
                 unfold okAt2
                 go_simp
                 first | exact ⟨rfl, PW.refl _ _⟩ | exact rfl
               · intro vs; go_simp; rfl)
              refine relW2_nil fun vs iv w9 hw hf hap => ?_
              obtain ⟨⟨g9, cap9, e9, hg9, ho9⟩, -⟩ := hf
              have hw : RowR al w8 w9 := hw
              have hlj : (xs.take j).length = j := by simp; omega
              obtain ⟨g', cap', w10, h1, h2, h3⟩ := app_part 32 w9 w8.heap.size (j + 1) (xs.length - j) ocb g9 cap9 Ob (xs.take j ++ [k]) (xs.drop j) (by simp) (by simp; omega) ho9 (HI2.out w9 hw) (by omega) hw.size
              have hg' := (World.ownsRow.lt h3 g' rfl).1
              have hfl := HI8.out.f.lt
              have nf : ∀ b, b < w8.heap.size → some b ≠ some g9 := fun b hb e => by have := Option.some.inj e; omega
              have kf := (hw.bk HI8.out.f (Hlo.out _ hfl)).grown h2 (nf _ hfl)
              have kb := (hw.bk HI8.out.b (Hlo.out _ HI8.out.b.lt)).grown h2 (nf _ HI8.out.b.lt)
              have kr := (hw.bk HI8.out.r (Hlo.out _ HI8.out.r.lt)).grown h2 (nf _ HI8.out.r.lt)
              have kp : RI w10 (w.heap.size + 3) Pw (ps ++ [z]) := (own_row HI8.out.p (fun g j' x hg hj => by rw [Hlo.out g (HI8.out.p.lt g hg).2] at hj; cases hj) hw).kept h2 (by
                by_cases hp : Pw.ownBlock = some g9
                · have := (HI8.out.p.lt g9 hp).2; omega
                · exact .inr hp)
              have hE10 : Ext w w10 := Below.grown (Below.trans HI8.out.e (hw.below HI8.out.e.size (fun b hb => Hlo.out b (by have := HI8.out.e.size; omega)))) h2 (by have := HI8.out.e.size; have := hw.size; omega) (fun x hx => by have := Option.some.inj hx; have := HI8.out.e.size; omega)
              have o0 := kf.cell 0
              have q0 := kf.frozen 0
              simp at o0
              have Kf := Lib.hid kf
              have Kb := Lib.hid kb
              have Kr := Lib.hid kr
              have Kp := Lib.hid kp
              have HE10 := Lib.hid hE10
              have HO : Hid (RI w10 (w.heap.size + 3) (.slice (some ⟨g', 0, none⟩) (j + 1 + (xs.length - j)) cap') (rOrd (fkey F) (k + 1))) := by
                show RI _ _ _ _
                rw [HC.out]
                exact RI.down h3 (by omega)
              have hNe : Hid (some g' ≠ Pw.ownBlock) := fun e => by have := (HI8.out.p.lt g' e.symm).2; omega
              refine wpList_app rfl (.tmp 70) (.tmp 74) 32 rfl _ _ _ (by exact e9) (by rfl) h1 ?_
              clear h1 h2 h3 hg' hfl nf kf kb kr kp hE10 hw hlj HI1 HI2 hS hsl1 hsl2 HI8 hap ho9
              go_wp2
              go_roundw
              case rel =>
                have hl1 := Hxl.out
                refine ⟨k + 1, .slice (some ⟨g', 0, none⟩) (j + 1 + (xs.length - j)) cap', Pw, by omega, by go_num, ⟨HE10.out.setCell (by show w.heap.size ≤ w.heap.size + 1 + 1; omega) _, Kb.out.far (by show w.heap.size ≠ w.heap.size + 1 + 1; omega) _, Kr.out.far (by show w.heap.size + 1 ≠ w.heap.size + 1 + 1; omega) _, Kf.out.set 0 _, HO.out.low (by omega) _, ?_, .inr hNe.out⟩⟩
                have hq : (List.range (k + 1)).map (fPart F.part) = ps ++ [z] := by rw [List.range_succ, List.map_append, ← Hps.out, Hz.out]; rfl
                rw [hq]
                exact Kp.out.low (by omega) _
              case measure => simp [intOf]; omega
    · obtain rfl : k = n := by omega
      have o0 := HI.out.f.cell 0
      have o1 := HI.out.f.cell 1
      have r0 := HI.out.r.cell 0
      have r1 := HI.out.r.cell 1
      have f0 := HI.out.r.frozen 0
      have f1 := HI.out.r.frozen 1
      simp at o0 o1 r0 r1
      obtain ⟨A', c', rfl, hA'⟩ := HI.out.o.is
      obtain ⟨P', d', rfl, hP'⟩ := HI.out.p.is
      have HA' := Lib.hid hA'
      have HP' := Lib.hid hP'
      have hlo : Hid ((∀ a, A' = some a → a.block ≠ w.heap.size + 1) ∧ (∀ a, P' = some a → a.block ≠ w.heap.size + 1)) := by
        refine ⟨fun a ha => ?_, fun a ha => ?_⟩
        · have := HI.out.o.lt a.block (by rw [ha]; rfl); omega
        · have := HI.out.p.lt a.block (by rw [ha]; rfl); omega
      clear hA' hP'
      obtain ⟨o, ho⟩ : ∃ o, o = rOrd (fkey F) k := ⟨_, rfl⟩
      obtain ⟨q, hq⟩ : ∃ q, q = (List.range k).map (fPart F.part) := ⟨_, rfl⟩
      rw [← ho] at HA' o0 HI ⊢
      rw [← hq] at HP' o1 HI ⊢
      have Ho := Lib.hid ho
      have Hq := Lib.hid hq
      clear ho hq
      go_wp2
      have kk := (HI.out.r.set 0 (.slice A' o.length c')).set 1 (.slice P' q.length d')
      have q0 := kk.cell 0
      have q1 := kk.cell 1
      simp only [Array.setIfInBounds_def] at q0 q1
      refine bodyPost_ret (v := .tuple #[.agg #[.slice A' o.length c', .slice P' q.length d'], .int .i64 0]) (by simp [results, Try.results23, go_sem, q0, q1]) rfl ⟨A', c', P', d', by rw [← Ho.out, ← Hq.out], (HI.out.e.setCell (by show w.heap.size ≤ w.heap.size + 1; omega) _).setCell (by show w.heap.size ≤ w.heap.size + 1; omega) _, ?_, ?_⟩
      · rw [← Ho.out]; exact (HA'.out.far hlo.out.1 _).far hlo.out.1 _
      · rw [← Hq.out]; exact (HP'.out.far hlo.out.2 _).far hlo.out.2 _
end Go.Proofs.Ytdlalmbnkcadfaa
