/- How a row's arguments are opened: bytes, numbers, writes, a device, a fate. -/
import Derived.Test.YtdlalmbnkcadfaaM25
import Derived.Test.YtdlalmbnkcadfaaM01
import Derived.Deep.Slices
import Derived.Lib.SmallJoins
import Derived.Test.YtdlalmbnkcadfaaN01
namespace Go.Proofs.Ytdlalmbnkcadfaa
open Go.ChangeShapes Go.WideShapes Go.ChangeAt Go.RowKit Go.Joins Go.Deep

theorem laidOut : laidOutB Try.prog = true := by kernel_rfl
section
variable {H : Type} {enc : TypeId × Value → H} {w : World} {base : Nat} {spare : Nat → Bool} {held : Bool} {n : Nat}
theorem add_none {a : Addr} {j : Nat} {v0 v : Value} (h0 : w.cell? (a.add 0) = some v0) (h : w.cell? (a.add j) = some v) : a = ⟨a.block, a.off, none⟩ ∧ w.cell? ⟨a.block, a.off + j, none⟩ = some v := by
  obtain ⟨b, o, s⟩ := a
  have hs : s = none := by simpa [Addr.add] using World.cell?_spot h0
  subst hs
  refine ⟨rfl, ?_⟩
  rw [show (Addr.add ⟨b, o, none⟩ j) = ⟨b, o + j, none⟩ from by unfold Addr.add; split <;> simp_all] at h
  exact h
theorem u8_back {z : Int} (h : (Lit.int .u8 z).wf = true) : ((UInt8.ofNat z.toNat).toNat : Int) = z := by
  have hb : 0 ≤ z ∧ z < 256 := by
    simp [Lit.wf, IntKind.min, IntKind.max, IntKind.signed, IntKind.bits] at h
    omega
  have e : (UInt8.ofNat z.toNat).toNat = z.toNat := by
    rw [UInt8.toNat_ofNat']
    omega
  rw [e]
  omega
theorem bytes_open {v : Value} {x : DataW H × List MemPlace} (h : DataW.trod enc Try.prog w base spare held n 22 [v] = some x) :
    ∃ A c bs, v = .slice A (List.length (α := UInt8) bs) c ∧ By w A bs ∧ bs.length ≤ c := by
  rcases open_ints Try.underlying22 Try.underlying5 (by kernel_rfl) h with ⟨hcs, _⟩ | ⟨a, len, cap, zs, hcs, _, hl, hm, hz, _, hcell, hwz⟩
  · simp only [List.cons.injEq, and_true] at hcs
    exact ⟨none, 0, [], hcs, By.nil _ _, Nat.le_refl _⟩
  · simp only [List.cons.injEq, and_true] at hcs
    have hlz : len ≤ zs.length := by rw [hz]; split <;> omega
    have hlen : ((zs.take len).map fun z => UInt8.ofNat z.toNat).length = len := by simp; omega
    refine ⟨some a, cap, (zs.take len).map fun z => UInt8.ofNat z.toNat, by rw [hlen]; exact hcs, ?_, by rw [hlen]; exact hl⟩
    intro j u hj
    have hjl : j < len := by
      have := (List.getElem?_eq_some_iff.1 hj).1
      simp at this
      omega
    have hjz : j < zs.length := by omega
    have hc := hcell j hjz
    obtain ⟨ha, hc'⟩ := add_none (hcell 0 (by omega)) hc
    refine ⟨a.block, a.off, by rw [← ha], ?_⟩
    rw [hc', ← hj]
    simp only [bcells, List.getElem?_map, List.getElem?_take, if_pos hjl]
    rw [List.getElem?_eq_getElem hjz]
    simp only [Option.map_some, List.getD_eq_getElem?_getD, List.getElem?_eq_getElem hjz, Option.getD_some]
    rw [u8_back (hwz _ (List.getElem_mem hjz))]
theorem ints_open {v : Value} {x : DataW H × List MemPlace} (h : DataW.trod enc Try.prog w base spare held n 32 [v] = some x) :
    ∃ A c xs, v = .slice A (List.length (α := Int) xs) c ∧ Is w A xs ∧ xs.length ≤ c := by
  rcases open_ints Try.underlying32 Try.underlying3 (by kernel_rfl) h with ⟨hcs, _⟩ | ⟨a, len, cap, zs, hcs, _, hl, hm, hz, _, hcell, hwz⟩
  · simp only [List.cons.injEq, and_true] at hcs
    exact ⟨none, 0, [], hcs, Is.nil _ _, Nat.le_refl _⟩
  · simp only [List.cons.injEq, and_true] at hcs
    have hlz : len ≤ zs.length := by rw [hz]; split <;> omega
    have hlen : (zs.take len).length = len := by simp; omega
    refine ⟨some a, cap, zs.take len, by rw [hlen]; exact hcs, ?_, by rw [hlen]; exact hl⟩
    intro j u hj
    have hjl : j < len := by
      have := (List.getElem?_eq_some_iff.1 hj).1
      simp at this
      omega
    have hjz : j < zs.length := by omega
    have hc := hcell j hjz
    obtain ⟨ha, hc'⟩ := add_none (hcell 0 (by omega)) hc
    refine ⟨a.block, a.off, by rw [← ha], ?_⟩
    rw [hc', ← hj]
    simp only [icells, List.getElem?_map, List.getElem?_take, if_pos hjl]
    rw [List.getElem?_eq_getElem hjz]
    simp only [Option.map_some, List.getD_eq_getElem?_getD, List.getElem?_eq_getElem hjz, Option.getD_some]
set_option maxRecDepth 100000 in
theorem write_open {cs : List Value} {x : DataW H × List MemPlace} (h : DataW.trod enc Try.prog w base spare held n 49 cs = some x) :
    ∃ (y : Wr) (A : Option Addr) (c : Nat), cs = [.int .i64 y.blk, .slice A y.bs.length c] ∧ By w A y.bs ∧ y.bs.length ≤ c := by
  obtain ⟨y0, y1, m, rfl, hl, h0, h1⟩ := trod_struct2 Try.underlying49 h
  have hc : Try.prog.cellsOf 49 = 2 := by kernel_rfl
  have hc1 : Try.prog.cellsOf 3 = 1 := by kernel_rfl
  have hc2 : Try.prog.cellsOf 22 = 1 := by kernel_rfl
  rw [hc] at hl
  match cs, hl with
  | [c0, c1], _ =>
    simp [hc1, hc2] at h0 h1
    obtain ⟨z, e0, _, _⟩ := DataW.trod_int Try.underlying3 h0
    obtain ⟨A, c, bs, e1, hb, hbc⟩ := bytes_open h1
    simp only [List.cons.injEq, and_true] at e0
    subst e0 e1
    exact ⟨⟨z, bs⟩, A, c, rfl, hb, hbc⟩
theorem cells2 {a : Addr} {cs : List Value} (h : w.cells? base a 2 = some cs) : ∃ x y, cs = [x, y] ∧ w.cell? (a.add 0) = some x ∧ w.cell? (a.add 1) = some y := by
  unfold World.cells? at h
  split at h
  · cases h0 : w.cell? (a.add 0) with
    | none => simp [List.range_succ, h0] at h
    | some x =>
      cases h1 : w.cell? (a.add 1) with
      | none => simp [List.range_succ, h0, h1] at h
      | some y =>
        simp [List.range_succ, h0, h1] at h
        exact ⟨x, y, h.symm, rfl, rfl⟩
  · cases h
theorem add_two {b o i j : Nat} : (Addr.add (Addr.add ⟨b, o, none⟩ i) j) = ⟨b, o + i + j, none⟩ := by
  unfold Addr.add; repeat' split
  all_goals simp_all
set_option maxRecDepth 100000 in
theorem ws_open {v : Value} {x : DataW H × List MemPlace} (h : DataW.trod enc Try.prog w base spare held n 23 [v] = some x) :
    ∃ (P : Option Addr) (p : Nat) (ws : List Wr), v = .slice P ws.length p ∧ Ws w P ws ∧ ws.length ≤ p := by
  have hc : Try.prog.cellsOf 49 = 2 := by kernel_rfl
  rcases open_slice Try.underlying23 h with ⟨hcs, _⟩ | ⟨a, len, cap, m, n', D, Pl, hcs, _, hl, _, hm, _, hel⟩
  · simp only [List.cons.injEq, and_true] at hcs
    exact ⟨none, 0, [], hcs, Ws.nil _ _, Nat.le_refl _⟩
  · simp only [List.cons.injEq, and_true] at hcs
    have hlm : len ≤ m := by rw [hm]; split <;> omega
    rw [hc] at hel
    have key : ∀ i, i < len → ∃ y : Wr, ∃ B c, a = ⟨a.block, a.off, none⟩ ∧ w.cell? ⟨a.block, a.off + i * 2, none⟩ = some (.int .i64 y.blk) ∧ w.cell? ⟨a.block, a.off + i * 2 + 1, none⟩ = some (.slice B y.bs.length c) ∧ y.bs.length ≤ c ∧ By w B y.bs := by
      intro i hi
      obtain ⟨cs0, hg0, _⟩ := hel 0 (by omega)
      obtain ⟨_, _, _, ha0, _⟩ := cells2 hg0
      obtain ⟨b, o, s⟩ := a
      have hs : s = none := by simpa [Addr.add] using World.cell?_spot ha0
      subst hs
      obtain ⟨cs', hg, ht⟩ := hel i (by omega)
      obtain ⟨x0, x1, rfl, g0, g1⟩ := cells2 hg
      rw [add_two] at g0 g1
      obtain ⟨y, B, c, e, hb, hbc⟩ := write_open ht
      simp only [List.cons.injEq, and_true] at e
      obtain ⟨rfl, rfl⟩ := e
      exact ⟨y, B, c, rfl, g0, g1, hbc, hb⟩
    refine ⟨some a, cap, (List.range len).map fun i => if hi : i < len then (key i hi).choose else default, by simpa using hcs, ?_, by simpa using hl⟩
    intro j y hj
    have hjl : j < len := by
      have := (List.getElem?_eq_some_iff.1 hj).1
      simpa using this
    rw [List.getElem?_map, List.getElem?_range hjl] at hj
    simp only [Option.map_some, Option.some.injEq, dif_pos hjl] at hj
    subst hj
    obtain ⟨B, c, ha, h1, h2, h3, h4⟩ := (key j hjl).choose_spec
    exact ⟨a.block, a.off, B, c, by rw [← ha], h1, h2, h3, h4⟩
set_option maxRecDepth 100000 in
theorem dk_open {r : Reach} {b0 : Nat} {v : Value} {d : DataW H} {p : List MemPlace} (hv : Value.okWide Try.prog w r b0 25 v) (h : DataW.Trod enc Try.prog w base spare held 25 v d p) :
    ∃ (A P : Option Addr) (c q : Nat) (D : Dk), v = .agg #[.slice A D.bytes.length c, .slice P D.pend.length q] ∧ By w A D.bytes ∧ Ws w P D.pend := by
  obtain ⟨v0, v1, y0, y1, n, rfl, _, _, h0, h1⟩ := open_agg2 Try.underlying25 (by kernel_rfl) (by kernel_rfl) hv h
  obtain ⟨A, c, bs, rfl, hb, _⟩ := bytes_open h0
  obtain ⟨P, q, ws, rfl, hw, _⟩ := ws_open h1
  exact ⟨A, P, c, q, ⟨bs, ws⟩, rfl, hb, hw⟩
set_option maxRecDepth 100000 in
theorem fate_open {r : Reach} {b0 : Nat} {v : Value} {d : DataW H} {p : List MemPlace} (hv : Value.okWide Try.prog w r b0 34 v) (h : DataW.Trod enc Try.prog w base spare held 34 v d p) :
    ∃ (A P : Option Addr) (c q : Nat) (F : Ft), v = .agg #[.slice A F.order.length c, .slice P F.part.length q] ∧ Is w A F.order ∧ Is w P F.part := by
  obtain ⟨v0, v1, y0, y1, n, rfl, _, _, h0, h1⟩ := open_agg2 Try.underlying34 (by kernel_rfl) (by kernel_rfl) hv h
  obtain ⟨A, c, xs, rfl, hb, _⟩ := ints_open h0
  obtain ⟨P, q, ys, rfl, hw, _⟩ := ints_open h1
  exact ⟨A, P, c, q, ⟨xs, ys⟩, rfl, hb, hw⟩
set_option maxRecDepth 100000 in
theorem wr_open {r : Reach} {b0 : Nat} {v : Value} {d : DataW H} {p : List MemPlace} (hv : Value.okWide Try.prog w r b0 49 v) (h : DataW.Trod enc Try.prog w base spare held 49 v d p) :
    ∃ (A : Option Addr) (c : Nat) (y : Wr), v = .agg #[.int .i64 y.blk, .slice A y.bs.length c] ∧ By w A y.bs := by
  obtain ⟨v0, v1, y0, y1, n, rfl, _, _, h0, h1⟩ := open_agg2 Try.underlying49 (by kernel_rfl) (by kernel_rfl) hv h
  obtain ⟨z, e0, _, _⟩ := DataW.trod_int Try.underlying3 h0
  obtain ⟨A, c, bs, rfl, hb, _⟩ := bytes_open h1
  simp only [List.cons.injEq, and_true] at e0
  subst e0
  exact ⟨A, c, ⟨z, bs⟩, rfl, hb⟩
end
end Go.Proofs.Ytdlalmbnkcadfaa
/- DeviceReads: the walk. -/
namespace Go.Proofs.Ytdlalmbnkcadfaa
open Go.RowKit

theorem thin_small {D : Dk} (h : pThin D = true) : Small D := by
  unfold pThin at h
  simp only [Bool.and_eq_true, decide_eq_true_eq, List.all_eq_true] at h
  exact ⟨by omega, by omega, fun x hx => by have := h.2 x hx; omega⟩
theorem copy_dv (A P : Option Addr) (c p : Nat) (D : Dk) (w : World) (hA : By w A D.bytes) (hP : Ws w P D.pend) (hsm : Small D) :
    Calls Try.prog 26 #[.agg #[.slice A D.bytes.length c, .slice P D.pend.length p]] w fun e w' => ∃ A' c' P' p', e = .returned (.agg #[.slice A' D.bytes.length c', .slice P' D.pend.length p']) ∧ Ext w w' ∧ By w' A' D.bytes ∧ Ws w' P' D.pend := by
  refine (copy_any A P c p D w hA hP hsm).mono ?_
  rintro e w' ⟨v, rfl, hv, hE⟩
  obtain ⟨A', c', P', p', rfl, _, h2, _, h4⟩ := hv.dkv
  exact ⟨A', c', P', p', rfl, hE, h2, h4⟩
/-- Where a law stands: the argument's box (block x), the copy's box (block g). -/
structure LSt (w w' : World) (x g : Nat) (A P B Q : Option Addr) (c p cb cq : Nat) (D : Dk) : Prop where
  ext : Ext w w'
  k : Bk w' x #[.slice A D.bytes.length c, .slice P D.pend.length p] 25
  kg : Bk w' g #[.slice B D.bytes.length cb, .slice Q D.pend.length cq] 25
  a : By w' A D.bytes
  p : Ws w' P D.pend
  b : By w' B D.bytes
  q : Ws w' Q D.pend
theorem LSt.to {w w' w'' : World} {x g : Nat} {A P B Q : Option Addr} {c p cb cq : Nat} {D : Dk} (h : LSt w w' x g A P B Q c p cb cq D) (e : Ext w' w'') : LSt w w'' x g A P B Q c p cb cq D :=
  ⟨h.ext.trans e, h.k.ext e, h.kg.ext e, h.a.ext e, h.p.ext e, h.b.ext e, h.q.ext e⟩
theorem LSt.cells {w w' : World} {x g : Nat} {A P B Q : Option Addr} {c p cb cq : Nat} {D : Dk} (h : LSt w w' x g A P B Q c p cb cq D) :
    w'.cell? ⟨x, 0, none⟩ = some (.slice A D.bytes.length c) ∧ w'.cell? ⟨x, 1, none⟩ = some (.slice P D.pend.length p) ∧ w'.cell? ⟨g, 0, none⟩ = some (.slice B D.bytes.length cb) ∧ w'.cell? ⟨g, 1, none⟩ = some (.slice Q D.pend.length cq) :=
  ⟨h.k.cell 0, h.k.cell 1, h.kg.cell 0, h.kg.cell 1⟩
theorem LSt.cellsA {w w' : World} {x g : Nat} {A P B Q : Option Addr} {c p cb cq : Nat} {D : Dk} (h : LSt w w' x g A P B Q c p cb cq D) (o : Obj) :
    (w'.alloc o).cell? ⟨x, 0, none⟩ = some (.slice A D.bytes.length c) ∧ (w'.alloc o).cell? ⟨x, 1, none⟩ = some (.slice P D.pend.length p) ∧ (w'.alloc o).cell? ⟨g, 0, none⟩ = some (.slice B D.bytes.length cb) ∧ (w'.alloc o).cell? ⟨g, 1, none⟩ = some (.slice Q D.pend.length cq) :=
  (h.to ((Ext.refl _).alloc o)).cells
set_option maxRecDepth 100000 in
set_option maxHeartbeats 8000000 in
theorem reads_any (A P : Option Addr) (c p : Nat) (D : Dk) (n : Int) (w : World) (hA : By w A D.bytes) (hP : Ws w P D.pend) :
    Calls Try.prog 11 #[.agg #[.slice A D.bytes.length c, .slice P D.pend.length p], .int .i64 n] w fun e w' => e = .returned (.bool true) ∧ Ext w w' := by
  obtain ⟨W, hW, hE, hz, k0⟩ := box1 w #[.slice A D.bytes.length c, .slice P D.pend.length p] 25
  have HP := Lib.hid (hP.ext hE)
  have HA := Lib.hid (hA.ext hE)
  have HE := Lib.hid hE
  have HK := Lib.hid k0
  have d0 := k0.cell 0
  have d1 := k0.cell 1
  simp at d0 d1
  clear hE hP hA k0 hz
  go_enter Try.func11, Try.ntmps11
  go_wp2_with fail
  refine (thin_any A P c p D W HP.out).mono ?_
  rintro e w1 ⟨rfl, hE1⟩
  have K1 := HK.out.ext hE1
  have d0 := K1.cell 0
  have d1 := K1.cell 1
  simp at d0 d1
  have HP1 := Lib.hid (HP.out.ext hE1)
  have HA1 := Lib.hid (HA.out.ext hE1)
  have HE1 := Lib.hid (HE.out.trans hE1)
  have HK1 := Lib.hid K1
  clear hE1 K1 HP HA HE HK hW
  by_cases ht : pThin D = true
  · have Hsm := Lib.hid (thin_small ht)
    rw [ht]
    clear ht
    go_wp2_with fail
    refine (copy_dv A P c p D w1 HA1.out HP1.out Hsm.out).mono ?_
    rintro e w2 ⟨B, cb, Q, cq, rfl, hE2, hB, hQ⟩
    have K2 := HK1.out.ext hE2
    have c0 : ∀ o, (w2.alloc o).cell? ⟨w.heap.size, 0, none⟩ = some (.slice A D.bytes.length c) := fun o => (K2.ext ((Ext.refl _).alloc o)).cell 0
    have c1 : ∀ o, (w2.alloc o).cell? ⟨w.heap.size, 1, none⟩ = some (.slice P D.pend.length p) := fun o => (K2.ext ((Ext.refl _).alloc o)).cell 1
    go_wp2_with fail
    obtain ⟨V2, hV2, hE3, hz2, kg⟩ := box1 w2 #[.slice B D.bytes.length cb, .slice Q D.pend.length cq] 25
    rw [hV2]; clear hV2
    have S2 : LSt w V2 w.heap.size w2.heap.size A P B Q c p cb cq D := ⟨(HE1.out.trans hE2).trans hE3, K2.ext hE3, kg, (HA1.out.ext hE2).ext hE3, (HP1.out.ext hE2).ext hE3, hB.ext hE3, hQ.ext hE3⟩
    have HS2 := Lib.hid S2
    clear S2 hE2 hE3 hB hQ K2 c0 c1 kg HK1 HA1 HP1 HE1 d0 d1 hz2
    refine (check_any B Q cb cq D V2 HS2.out.b HS2.out.q Hsm.out).mono ?_
    rintro e w3 ⟨rfl, hE3⟩
    have HS3 := Lib.hid (HS2.out.to hE3)
    have hc := HS3.out.cells
    clear hE3 HS2
    go_wp2_with fail
    refine (read_any B Q cb cq D n w3 HS3.out.b HS3.out.q Hsm.out).mono ?_
    rintro e w4 ⟨R, r, rfl, hE4, hr, hR⟩
    have HS4 := Lib.hid (HS3.out.to hE4)
    have hc := HS4.out.cells
    have HR := Lib.hid hR
    clear hE4 HS3 hR hr
    go_wp2_with fail
    refine (rRead_any A P c p D n w4 HS4.out.a HS4.out.p Hsm.out).mono ?_
    rintro e w5 ⟨R', r', rfl, hE5, hr, hR⟩
    have HS5 := Lib.hid (HS4.out.to hE5)
    have hc := HS5.out.cells
    have HR1 := Lib.hid (HR.out.ext hE5)
    have HR2 := Lib.hid hR
    clear hE5 HS4 hR hr HR
    go_wp2_with fail
    refine (rCheck_any A P c p D w5 HS5.out.p Hsm.out).mono ?_
    rintro e w6 ⟨rfl, hE6⟩
    have HS6 := Lib.hid (HS5.out.to hE6)
    have hc := HS6.out.cells
    have cv1 := conv_by (HR1.out.ext hE6) r
    have cv2 := conv_by (HR2.out.ext hE6) r'
    have ts := strB_toList
    clear hE6 HS5 HR1 HR2
    go_wp2_with fail
    have hl := Hsm.out.2.1
    refine (same_any B Q A P cb cq c p D D w6 HS6.out.b HS6.out.q HS6.out.a HS6.out.p (by omega)).mono ?_
    rintro e w7 ⟨rfl, hE7⟩
    have HS7 := Lib.hid (HS6.out.to hE7)
    clear hE7 HS6 cv1 cv2 ts hc
    simp only [decide_true]
    go_wp2_with fail
    refine (awake_any w7).mono ?_
    rintro e w8 ⟨rfl, hE8⟩
    have HE' := Lib.hid (HS7.out.ext.trans hE8)
    clear hE8
    go_wp2_with fail
    go_ret
    exact ⟨rfl, HE'.out⟩
  · rw [show pThin D = false by simpa using ht]
    clear ht
    go_wp2_with fail
    refine (awake_any w1).mono ?_
    rintro e w4 ⟨rfl, hE6⟩
    have HE' := Lib.hid (HE1.out.trans hE6)
    clear hE6
    go_wp2_with fail
    go_ret
    exact ⟨rfl, HE'.out⟩
end Go.Proofs.Ytdlalmbnkcadfaa
