/- For every device and all operations DeviceRuns returns true, and both read as before. No condition. -/
import Derived.Test.YtdlalmbnkcadfaaN26
import Derived.Deep.Strs
namespace Go.Proofs.Ytdlalmbnkcadfaa
open Go.ChangeShapes Go.WideShapes Go.ChangeAt Go.RowKit Go.Joins Go.Deep

section
variable {H : Type} {enc : TypeId × Value → H} {w : World} {base : Nat} {spare : Nat → Bool} {held : Bool} {n : Nat}
set_option maxRecDepth 100000 in
theorem op_open {cs : List Value} {x : DataW H × List MemPlace} (h : DataW.trod enc Try.prog w base spare held n 70 cs = some x) :
    ∃ (y : Op) (A : Option Addr) (c : Nat), cs = [.int .u8 y.1, .int .i64 y.2.blk, .slice A y.2.bs.length c] ∧ By w A y.2.bs ∧ y.2.bs.length ≤ c := by
  obtain ⟨y0, y1, y2, m, rfl, hl, h0, h1, h2⟩ := trod_struct3 Try.underlying70 h
  have hc : Try.prog.cellsOf 70 = 3 := by kernel_rfl
  have hc0 : Try.prog.cellsOf 5 = 1 := by kernel_rfl
  have hc1 : Try.prog.cellsOf 3 = 1 := by kernel_rfl
  have hc2 : Try.prog.cellsOf 22 = 1 := by kernel_rfl
  rw [hc] at hl
  match cs, hl with
  | [c0, c1, c2], _ =>
    simp [hc0, hc1, hc2] at h0 h1 h2
    obtain ⟨k, e0, _, _⟩ := DataW.trod_int Try.underlying5 h0
    obtain ⟨z, e1, _, _⟩ := DataW.trod_int Try.underlying3 h1
    obtain ⟨A, c, bs, e2, hb, hbc⟩ := bytes_open h2
    simp only [List.cons.injEq, and_true] at e0 e1
    subst e0 e1 e2
    exact ⟨(k, ⟨z, bs⟩), A, c, rfl, hb, hbc⟩
theorem cells3 {a : Addr} {cs : List Value} (h : w.cells? base a 3 = some cs) : ∃ x y z, cs = [x, y, z] ∧ w.cell? (a.add 0) = some x ∧ w.cell? (a.add 1) = some y ∧ w.cell? (a.add 2) = some z := by
  unfold World.cells? at h
  split at h
  · cases h0 : w.cell? (a.add 0) with
    | none => simp [List.range_succ, h0] at h
    | some x =>
      cases h1 : w.cell? (a.add 1) with
      | none => simp [List.range_succ, h0, h1] at h
      | some y =>
        cases h2 : w.cell? (a.add 2) with
        | none => simp [List.range_succ, h0, h1, h2] at h
        | some z =>
          simp [List.range_succ, h0, h1, h2] at h
          exact ⟨x, y, z, h.symm, rfl, rfl, rfl⟩
  · cases h
set_option maxRecDepth 100000 in
theorem os_open {v : Value} {x : DataW H × List MemPlace} (h : DataW.trod enc Try.prog w base spare held n 62 [v] = some x) :
    ∃ (P : Option Addr) (p : Nat) (os : List Op), v = .slice P os.length p ∧ Os w P os := by
  have hc : Try.prog.cellsOf 70 = 3 := by kernel_rfl
  rcases open_slice Try.underlying62 h with ⟨hcs, _⟩ | ⟨a, len, cap, m, n', D, Pl, hcs, _, hl, _, hm, _, hel⟩
  · simp only [List.cons.injEq, and_true] at hcs
    exact ⟨none, 0, [], hcs, Os.nil _ _⟩
  · simp only [List.cons.injEq, and_true] at hcs
    have hlm : len ≤ m := by rw [hm]; split <;> omega
    rw [hc] at hel
    have key : ∀ i, i < len → ∃ y : Op, ∃ B c, a = ⟨a.block, a.off, none⟩ ∧ w.cell? ⟨a.block, a.off + i * 3, none⟩ = some (.int .u8 y.1) ∧ w.cell? ⟨a.block, a.off + i * 3 + 1, none⟩ = some (.int .i64 y.2.blk) ∧ w.cell? ⟨a.block, a.off + i * 3 + 2, none⟩ = some (.slice B y.2.bs.length c) ∧ y.2.bs.length ≤ c ∧ By w B y.2.bs := by
      intro i hi
      obtain ⟨cs0, hg0, _⟩ := hel 0 (by omega)
      obtain ⟨_, _, _, _, ha0, _⟩ := cells3 hg0
      obtain ⟨b, o, s⟩ := a
      have hs : s = none := by simpa [Addr.add] using World.cell?_spot ha0
      subst hs
      obtain ⟨cs', hg, ht⟩ := hel i (by omega)
      obtain ⟨x0, x1, x2, rfl, g0, g1, g2⟩ := cells3 hg
      rw [add_two] at g0 g1 g2
      obtain ⟨y, B, c, e, hb, hbc⟩ := op_open ht
      simp only [List.cons.injEq, and_true] at e
      obtain ⟨rfl, rfl, rfl⟩ := e
      exact ⟨y, B, c, rfl, g0, g1, g2, hbc, hb⟩
    refine ⟨some a, cap, (List.range len).map fun i => if hi : i < len then (key i hi).choose else default, by simpa using hcs, ?_⟩
    intro j y hj
    have hjl : j < len := by
      have := (List.getElem?_eq_some_iff.1 hj).1
      simpa using this
    rw [List.getElem?_map, List.getElem?_range hjl] at hj
    simp only [Option.map_some, Option.some.injEq, dif_pos hjl] at hj
    subst hj
    obtain ⟨B, c, ha, h1, h2, h3, h4, h5⟩ := (key j hjl).choose_spec
    exact ⟨a.block, a.off, B, c, by rw [← ha], h1, h2, h3, h4, h5⟩
set_option maxRecDepth 100000 in
theorem ops_open {r : Reach} {b0 : Nat} {v : Value} {d : DataW H} {p : List MemPlace} (hv : Value.okWide Try.prog w r b0 64 v) (h : DataW.Trod enc Try.prog w base spare held 64 v d p) :
    ∃ (L FA FQ : Option Addr) (lc fc fd : Nat) (os : List Op) (fuse : Int) (F : Ft), v = .agg #[.slice L os.length lc, .int .i64 fuse, .slice FA F.order.length fc, .slice FQ F.part.length fd] ∧ Os w L os ∧ Is w FA F.order ∧ Is w FQ F.part := by
  obtain ⟨cs, rfl, hsz⟩ := okWide_struct Try.underlying64 hv
  obtain ⟨fuel, hf⟩ := h
  obtain ⟨y0, y1, y2, m, _, hl, h0, h1, h2⟩ := trod_struct3 Try.underlying64 hf
  have hc : Try.prog.cellsOf 64 = 4 := by kernel_rfl
  have hc0 : Try.prog.cellsOf 62 = 1 := by kernel_rfl
  have hc1 : Try.prog.cellsOf 3 = 1 := by kernel_rfl
  have hc2 : Try.prog.cellsOf 34 = 2 := by kernel_rfl
  have hc3 : Try.prog.cellsOf 32 = 1 := by kernel_rfl
  rw [hc] at hsz
  obtain ⟨l⟩ := cs
  match l, hsz with
  | [c0, c1, c2, c3], _ =>
    simp [hc0, hc1, hc2, Value.cells] at h0 h1 h2
    obtain ⟨L, lc, os, rfl, hL⟩ := os_open h0
    obtain ⟨z, e1, _, _⟩ := DataW.trod_int Try.underlying3 h1
    obtain ⟨u0, u1, m2, _, _, g0, g1⟩ := trod_struct2 Try.underlying34 h2
    simp [hc3] at g0 g1
    obtain ⟨FA, fc, xs, rfl, hA, _⟩ := ints_open g0
    obtain ⟨FQ, fd, ys, rfl, hQ, _⟩ := ints_open g1
    simp only [List.cons.injEq, and_true] at e1
    subst e1
    exact ⟨L, FA, FQ, lc, fc, fd, os, z, ⟨xs, ys⟩, rfl, hL, hA, hQ⟩
end
set_option maxRecDepth 100000 in
theorem runs_lifted (os : Go.Os) (started : os.Started) (H : Type) (enc : TypeId × Value → H) :
    ReturnsInHanded {} Try.checked os 12 .any (Rows.deviceRunsSpec.pre6 enc Try.prog Try.f12 Rows.deviceRunsRow.domain false) (Rows.deviceRunsSpec.post enc Try.prog Try.f12 false true false false) := by
  refine returnsInHanded_of_change (C := Try.checked) own started (by kernel_rfl) Try.func12
    (ChangeSpec.witness6 (enc := enc) (C := Try.checked) false ⟨#[], #[.agg #[.slice none 0 0, .slice none 0 0], .agg #[.slice none 0 0, .int .i64 0, .slice none 0 0, .slice none 0 0]], []⟩ 8 (by kernel_rfl) (by kernel_rfl) (by kernel_rfl) (by kernel_rfl)) ?_
  intro W base args ds gs before hval0 hW hcnd _
  have hval : ∀ (j : Nat) t v, Try.f12.params[j]? = some t → args[j]? = some v → Value.okWide Try.prog W .any base t v := hval0
  have hW' := hW
  obtain ⟨p, q, hA0, hV, rfl, hfz, hnd⟩ := hW
  have hA : DataW.TrodAll enc Try.prog W 0 (fun _ => true) true Try.f12.params.toList args.toList ds p := hA0
  rw [Try.params12] at hA hval
  obtain ⟨v0, vs0, d0, ds0, p0, q0, hargs, rfl, rfl, h0, r0⟩ := trodAll_cons hA
  obtain ⟨v1, vs1, d1, ds1, p1, q1, rfl, rfl, rfl, h1, r1⟩ := trodAll_cons r0
  obtain ⟨rfl, rfl, rfl⟩ := trodAll_nil r1
  obtain rfl : args = #[v0, v1] := by cases args; simp_all
  obtain ⟨rfl, rfl⟩ := trodVars_none hV
  obtain ⟨L, FA, FQ, lc, fc, fd, ol, fuse, F, rfl, hL, hFA, hFQ⟩ := ops_open (hval 1 64 v1 rfl rfl) h1
  obtain ⟨A, P, c, m, D, rfl, hBy, hWs⟩ := dk_open (hval 0 25 v0 rfl rfl) h0
  clear hA0 hval0
  have hlt : ∀ x ∈ p0, x.block < W.heap.size := fun x hx => by simpa using hW'.lt x (by simp [hx])
  have hlt1 : ∀ x ∈ p1, x.block < W.heap.size := fun x hx => by simpa using hW'.lt x (by simp [hx])
  refine (runs_any A P L FA FQ c m lc fc fd D ol fuse F W hBy hWs hL hFA hFQ).mono fun e W' ⟨he, hg⟩ => ?_
  subst he
  exact ⟨_, rfl, post_ext (pv := []) hW' (trodAll_cons_mk (shut_bool Try.underlying4 _) trodAll_mk0) (trodAll_cons_mk (Below.trod laidOut (by kernel_rfl) (of_decide_eq_true (by kernel_rfl)) h0 hg hlt) (trodAll_cons_mk (Below.trod laidOut (by kernel_rfl) (of_decide_eq_true (by kernel_rfl)) h1 hg hlt1) trodAll_mk0)) rfl hg⟩

theorem deviceRuns : Rows.DeviceRunsSaid :=
  OpenClaim.holds_of_wide 12 Try.f12 rfl rfl rfl rfl rfl rfl rfl ⟨rfl, rfl, rfl, rfl, rfl⟩ rfl rfl rfl rfl rfl (by kernel_rfl) Try.func12 (by kernel_rfl)
    (of_decide_eq_true (by kernel_rfl)) (by unfold Func.isWrapper; first | (rw [if_pos (by decide +kernel)]; kernel_rfl) | (rw [if_neg (by decide +kernel)]; exact ⟨rfl, rfl⟩))
    (fun os started H enc _ => runs_lifted os started H enc)
#print axioms deviceRuns
end Go.Proofs.Ytdlalmbnkcadfaa
