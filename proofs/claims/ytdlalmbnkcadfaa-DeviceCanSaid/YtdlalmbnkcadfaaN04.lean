/- DevicePuts: the walk. -/
import Derived.Test.YtdlalmbnkcadfaaN03
import Derived.Test.YtdlalmbnkcadfaaN02
namespace Go.Proofs.Ytdlalmbnkcadfaa
open Go.RowKit

/-- A new box of some type. -/
def SV.al (B : Nat) (zs : Array Value) (t : TypeId) : SV := ⟨fun v w => ∃ b, v = .pointer (some ⟨b, 0, none⟩) ∧ Bk w b zs t ∧ B ≤ b, fun ⟨b, h1, h2, h3⟩ e => ⟨b, h1, h2.ext e, h3⟩⟩
/-- A device in a box. -/
structure DBx (w : World) (b : Nat) (A P : Option Addr) (c p : Nat) (D : Dk) : Prop where
  k : Bk w b #[.slice A D.bytes.length c, .slice P D.pend.length p] 25
  a : By w A D.bytes
  p : Ws w P D.pend
theorem DBx.ext {w w' : World} {b : Nat} {A P : Option Addr} {c p : Nat} {D : Dk} (h : DBx w b A P c p D) (e : Ext w w') : DBx w' b A P c p D := ⟨h.k.ext e, h.a.ext e, h.p.ext e⟩
theorem DBx.cells {w : World} {b : Nat} {A P : Option Addr} {c p : Nat} {D : Dk} (h : DBx w b A P c p D) : w.cell? ⟨b, 0, none⟩ = some (.slice A D.bytes.length c) ∧ w.cell? ⟨b, 1, none⟩ = some (.slice P D.pend.length p) := ⟨h.k.cell 0, h.k.cell 1⟩
theorem DBx.cellsA {w : World} {b : Nat} {A P : Option Addr} {c p : Nat} {D : Dk} (h : DBx w b A P c p D) (o : Obj) : (w.alloc o).cell? ⟨b, 0, none⟩ = some (.slice A D.bytes.length c) ∧ (w.alloc o).cell? ⟨b, 1, none⟩ = some (.slice P D.pend.length p) := (h.ext ((Ext.refl _).alloc o)).cells
/-- A write in a box. -/
structure WBx (w : World) (b : Nat) (A : Option Addr) (c : Nat) (x : Wr) : Prop where
  k : Bk w b #[.int .i64 x.blk, .slice A x.bs.length c] 49
  a : By w A x.bs
theorem WBx.ext {w w' : World} {b : Nat} {A : Option Addr} {c : Nat} {x : Wr} (h : WBx w b A c x) (e : Ext w w') : WBx w' b A c x := ⟨h.k.ext e, h.a.ext e⟩
theorem WBx.cells {w : World} {b : Nat} {A : Option Addr} {c : Nat} {x : Wr} (h : WBx w b A c x) : w.cell? ⟨b, 0, none⟩ = some (.int .i64 x.blk) ∧ w.cell? ⟨b, 1, none⟩ = some (.slice A x.bs.length c) := ⟨h.k.cell 0, h.k.cell 1⟩
theorem WBx.cellsA {w : World} {b : Nat} {A : Option Addr} {c : Nat} {x : Wr} (h : WBx w b A c x) (o : Obj) : (w.alloc o).cell? ⟨b, 0, none⟩ = some (.int .i64 x.blk) ∧ (w.alloc o).cell? ⟨b, 1, none⟩ = some (.slice A x.bs.length c) := (h.ext ((Ext.refl _).alloc o)).cells
/-- Writes whose bytes are never at nil. -/
def Ws2 (w : World) (A : Option Addr) (ws : List Wr) : Prop :=
  ∀ j x, ws[j]? = some x → ∃ b o a c, A = some ⟨b, o, none⟩ ∧ w.cell? ⟨b, o + j * 2, none⟩ = some (.int .i64 x.blk) ∧
    w.cell? ⟨b, o + j * 2 + 1, none⟩ = some (.slice (some a) x.bs.length c) ∧ x.bs.length ≤ c ∧ By w (some a) x.bs
theorem Ws2.ws {w : World} {A : Option Addr} {ws : List Wr} (h : Ws2 w A ws) : Ws w A ws := fun j x hj => by
  obtain ⟨b, o, a, c, h1, h2, h3, h4, h5⟩ := h j x hj
  exact ⟨b, o, some a, c, h1, h2, h3, h4, h5⟩
theorem Ws2.ext {w w' : World} {A : Option Addr} {ws : List Wr} (h : Ws2 w A ws) (e : Ext w w') : Ws2 w' A ws := fun j x hj => by
  obtain ⟨b, o, B, c, rfl, h1, h2, h3, h4⟩ := h j x hj
  exact ⟨b, o, B, c, rfl, cellExt e h1, cellExt e h2, h3, h4.ext e⟩
theorem PO.ws2 {w : World} {B : Nat} {X : List Nat} {Pv : Value} {qs : List Rec} {pend : List Wr} (h : PO w B X Pv qs) (hq : qs.map Prod.fst = pend) (hn : ∀ q ∈ qs, q.2.1 ≠ none) : ∃ P c, Pv = .slice P pend.length c ∧ Ws2 w P pend := by
  obtain ⟨P, c, e, hc⟩ := h.form
  have hl : qs.length = pend.length := by rw [← hq]; simp
  refine ⟨P, c, by rw [e, hl], fun j x hj => ?_⟩
  have hlt : j < qs.length := by have := (List.getElem?_eq_some_iff.1 hj).1; omega
  obtain ⟨r, pc, e1, hB, c1, c2⟩ := h.at hlt
  obtain ⟨q1, q2, q3⟩ := h.one qs[j] (List.getElem_mem hlt)
  have hx : qs[j].1 = x := by
    rw [← hq, List.getElem?_map, List.getElem?_eq_getElem hlt] at hj
    simpa using hj
  obtain ⟨a, ha⟩ := Option.ne_none_iff_exists'.1 (hn qs[j] (List.getElem_mem hlt))
  rw [e1] at e
  injection e with e2 e3 e4
  rw [ha] at c2 q2
  refine ⟨r, 0, a, qs[j].2.2, by rw [← e2], ?_, ?_, by rw [← hx]; exact q1, by rw [← hx]; exact q2⟩
  · rw [Nat.zero_add, c1, hx]
  · rw [Nat.zero_add, c2, hx]
def Clean (zs : Array Value) : Prop := ∀ (i : Nat) (v : Value), zs[i]? = some v → (∀ z, v ≠ .int .u8 z) ∧ ∀ a n c, v ≠ .slice (some a) n c
theorem clean_disk : Clean #[.slice none 0 0, .slice none 0 0] := fun i v h => by
  match i, h with
  | 0, h => simp at h; subst h; simp
  | 1, h => simp at h; subst h; simp
  | n + 2, h => simp at h
theorem clean_write : Clean #[.int .i64 0, .slice none 0 0] := fun i v h => by
  match i, h with
  | 0, h => simp at h; subst h; simp
  | 1, h => simp at h; subst h; simp
  | n + 2, h => simp at h
section
variable {w V : World} {b b' : Nat} {zs zs' : Array Value} {t t' : TypeId}
theorem By.off {A : Option Addr} {bs : BL} (h : By w A bs) (hk : Bk w b zs t) (hk' : Bk w b' zs' t') (hz : Clean zs) (hz' : Clean zs') (hV : ∀ k, k ≠ b → k ≠ b' → V.heap[k]? = w.heap[k]?) : By V A bs := fun j v hj => by
  obtain ⟨ab, ao, rfl, hc⟩ := h j v hj
  have hv : ∃ z, v = .int .u8 z := by
    obtain ⟨x, _, rfl⟩ := List.mem_map.1 (List.mem_of_getElem? hj)
    exact ⟨_, rfl⟩
  obtain ⟨z, rfl⟩ := hv
  have h1 : ab ≠ b := fun e => by subst e; rw [hk.cell] at hc; exact (hz _ _ hc).1 z rfl
  have h2 : ab ≠ b' := fun e => by subst e; rw [hk'.cell] at hc; exact (hz' _ _ hc).1 z rfl
  exact ⟨ab, ao, rfl, (World.cell?_of_block (hV ab h1 h2)).trans hc⟩
theorem Ws2.off {A : Option Addr} {ws : List Wr} (h : Ws2 w A ws) (hk : Bk w b zs t) (hk' : Bk w b' zs' t') (hz : Clean zs) (hz' : Clean zs') (hV : ∀ k, k ≠ b → k ≠ b' → V.heap[k]? = w.heap[k]?) : Ws2 V A ws := fun j x hj => by
  obtain ⟨ab, o, a, c, rfl, g1, g2, g3, g4⟩ := h j x hj
  have h1 : ab ≠ b := fun e => by subst e; rw [hk.cell] at g2; exact (hz _ _ g2).2 _ _ _ rfl
  have h2 : ab ≠ b' := fun e => by subst e; rw [hk'.cell] at g2; exact (hz' _ _ g2).2 _ _ _ rfl
  exact ⟨ab, o, a, c, rfl, (World.cell?_of_block (hV ab h1 h2)).trans g1, (World.cell?_of_block (hV ab h1 h2)).trans g2, g3, g4.off hk hk' hz hz' hV⟩
end
def SV.cd (D : Dk) : SV := ⟨fun v w => ∃ A P c p, v = .agg #[.slice A D.bytes.length c, .slice P D.pend.length p] ∧ By w A D.bytes ∧ Ws2 w P D.pend, fun ⟨A, P, c, p, h1, h2, h3⟩ e => ⟨A, P, c, p, h1, h2.ext e, h3.ext e⟩⟩
theorem copy_dv2 (A P : Option Addr) (c p : Nat) (D : Dk) (w : World) (hA : By w A D.bytes) (hP : Ws w P D.pend) (hsm : Small D) :
    Calls Try.prog 26 #[.agg #[.slice A D.bytes.length c, .slice P D.pend.length p]] w fun e w' => ∃ A' c' P' p', e = .returned (.agg #[.slice A' D.bytes.length c', .slice P' D.pend.length p']) ∧ Ext w w' ∧ By w' A' D.bytes ∧ Ws2 w' P' D.pend := by
  refine (copy_any2 A P c p D w hA hP hsm).mono ?_
  rintro e w' ⟨v, rfl, hv, hE⟩
  obtain ⟨A', c', Pv, qs, rfl, _, h2, _, h4, h5, h6⟩ := hv
  obtain ⟨P', p', rfl, h7⟩ := h4.ws2 h5 h6
  exact ⟨A', c', P', p', rfl, hE, h2, h7⟩
def SV.cw (x : Wr) : SV := ⟨fun v w => ∃ A c, v = .agg #[.int .i64 x.blk, .slice A x.bs.length c] ∧ By w A x.bs, fun ⟨A, c, h1, h2⟩ e => ⟨A, c, h1, h2.ext e⟩⟩
theorem two_boxes {w : World} {b b' : Nat} {x y x' y' : Value} {t t' : TypeId} (h : Bk w b #[x, y] t) (h' : Bk w b' #[x', y'] t') (hne : t ≠ t') {B : Nat} (hB : B ≤ b) (hB' : B ≤ b') (u0 u1 v0 v1 : Value) :
    ∃ V, (((w.setCell ⟨b, 0, none⟩ u0).setCell ⟨b, 1, none⟩ u1).setCell ⟨b', 0, none⟩ v0).setCell ⟨b', 1, none⟩ v1 = V ∧ Below B w V ∧ Bk V b #[u0, u1] t ∧ Bk V b' #[v0, v1] t' ∧ ∀ k, k ≠ b → k ≠ b' → V.heap[k]? = w.heap[k]? := by
  have hbb := Bk.ne h h' hne
  refine ⟨_, rfl, ((((Below.refl B w).setCell hB _).setCell hB _).setCell hB' _).setCell hB' _, ?_, ?_, fun k h1 h2 => ?_⟩
  · simpa using ((((h.set 0 u0).set 1 u1).far (p := ⟨b', 0, none⟩) hbb v0).far (p := ⟨b', 1, none⟩) hbb v1)
  · simpa using ((((h'.far (p := ⟨b, 0, none⟩) hbb.symm u0).far (p := ⟨b, 1, none⟩) hbb.symm u1).set 0 v0).set 1 v1)
  · rw [Below.heap_setCell _ _ _ _ h2, Below.heap_setCell _ _ _ _ h2, Below.heap_setCell _ _ _ _ h1, Below.heap_setCell _ _ _ _ h1]
set_option maxRecDepth 100000 in
set_option maxHeartbeats 8000000 in
theorem puts_any (A P Ax : Option Addr) (c p dx : Nat) (D : Dk) (x : Wr) (w : World) (hA : By w A D.bytes) (hP : Ws w P D.pend) (hx : By w Ax x.bs) :
    Calls Try.prog 7 #[.agg #[.slice A D.bytes.length c, .slice P D.pend.length p], .agg #[.int .i64 x.blk, .slice Ax x.bs.length dx]] w fun e w' => e = .returned (.bool true) ∧ Ext w w' := by
  obtain ⟨W, hW, hE, hz, k0, k1⟩ := box2 w #[.slice A D.bytes.length c, .slice P D.pend.length p] #[.int .i64 x.blk, .slice Ax x.bs.length dx] 25 49
  have HD : Hid (DBx W w.heap.size A P c p D) := ⟨k0, hA.ext hE, hP.ext hE⟩
  have HX : Hid (WBx W (w.heap.size + 1) Ax dx x) := ⟨k1, hx.ext hE⟩
  have HE := Lib.hid hE
  have hc := HD.out.cells
  clear hE hP hA hx k0 k1 hz
  go_enter Try.func7, Try.ntmps7
  go_wp2_with fail
  refine (thin_any A P c p D W HD.out.p).mono ?_
  rintro e w1 ⟨rfl, hE1⟩
  have HD1 := Lib.hid (HD.out.ext hE1)
  have HX1 := Lib.hid (HX.out.ext hE1)
  have HE1 := Lib.hid (HE.out.trans hE1)
  have hc := HD1.out.cells
  have hd := HX1.out.cells
  clear hE1 HD HX HE hW
  by_cases ht : pThin D = true
  · have Hsm := Lib.hid (thin_small ht)
    rw [ht]
    clear ht
    by_cases hl : x.bs.length ≤ 40
    · have Hl := Lib.hid hl
      have t1 : decide ((40 : Int) < (x.bs.length : Int)) = false := by simp; omega
      clear hl
      go_wp2_with fail
      have hS := Lib.hid (fun w' (h : Ext w1 w') => (⟨h, (HD1.out.ext h).cells.1, (HD1.out.ext h).cells.2, (HX1.out.ext h).cells.1, (HX1.out.ext h).cells.2⟩ : Ext w1 w' ∧ w'.cell? ⟨w.heap.size, 0, none⟩ = some (.slice A D.bytes.length c) ∧ w'.cell? ⟨w.heap.size, 1, none⟩ = some (.slice P D.pend.length p) ∧ w'.cell? ⟨w.heap.size + 1, 0, none⟩ = some (.int .i64 x.blk) ∧ w'.cell? ⟨w.heap.size + 1, 1, none⟩ = some (.slice Ax x.bs.length dx)))
      refine wp_region_rel 6 (by kernel_rfl) (by kernel_rfl) (Ext.refl w1).drew ?_
      (apply relW_fix
       · intro vs w' hw hf
         have hc := hS.out w' hw
         unfold okAt
         go_simp
         first | exact ⟨rfl, Ext.refl _⟩ | exact rfl
       · intro vs; go_simp; rfl)
      (apply relW_any (SV.cd D)
       · intro vs w' hw hf
         have hc := hS.out w' hw
         skip
         unfold okAt
         go_simp
         refine ⟨Ext.refl _, ?_⟩; go_at_call 26; refine (copy_dv2 A P c p D w' (HD1.out.a.ext hw) (HD1.out.p.ext hw) Hsm.out).mono ?_; rintro e w5 ⟨A', c', P', p', rfl, h1, h2, h3⟩; exact ⟨_, rfl, ⟨A', P', c', p', rfl, h2, h3⟩, h1⟩
       · intro vs; go_simp; rfl)
      (apply relW_fix
       · intro vs w' hw hf
         have hc := hS.out w' hw
         unfold okAt
         go_simp
         first | exact ⟨rfl, Ext.refl _⟩ | exact rfl
       · intro vs; go_simp; rfl)
      (apply relW_any (SV.cw x)
       · intro vs w' hw hf
         have hc := hS.out w' hw
         skip
         unfold okAt
         go_simp
         refine ⟨Ext.refl _, ?_⟩; go_at_call 31; refine (copyWrite_any Ax dx x w' (HX1.out.a.ext hw) (by have := Hl.out; omega)).mono ?_; rintro e w5 ⟨v, rfl, ⟨A5, c5, h1, h2, h3, h4⟩, h5⟩; exact ⟨_, rfl, ⟨A5, c5, h1, h3⟩, h5⟩
       · intro vs; go_simp; rfl)
      (apply relW_any (SV.al w1.heap.size #[.slice none 0 0, .slice none 0 0] 25)
       · intro vs w' hw hf
         have hc := hS.out w' hw
         skip
         unfold okAt
         go_simp
         exact ⟨⟨_, rfl, Bk.new _ _ _, hw.size⟩, (Ext.refl _).alloc _⟩
       · intro vs; go_simp; rfl)
      (apply relW_any (SV.al w1.heap.size #[.int .i64 0, .slice none 0 0] 49)
       · intro vs w' hw hf
         have hc := hS.out w' hw
         skip
         unfold okAt
         go_simp
         exact ⟨⟨_, rfl, Bk.new _ _ _, hw.size⟩, (Ext.refl _).alloc _⟩
       · intro vs; go_simp; rfl)
      refine relW_nil fun vs w2 hw hf => ?_
      obtain ⟨⟨b6, e6, kb6, hb6⟩, ⟨b5, e5, kb5, hb5⟩, ⟨C, cc, e3, hC⟩, ⟨B, Q, cb, cq, e1, hB, hQ⟩, _⟩ := hf
      have hE2 : Ext w1 w2 := hw
      have hne := Bk.ne kb5 kb6 (by decide)
      have hne' := hne.symm
      have g0 := kb5.cell 0
      have g1 := kb5.cell 1
      have g2 := kb6.cell 0
      have g3 := kb6.cell 1
      have g4 := kb5.frozen 0
      have g5 := kb5.frozen 1
      have g6 := kb6.frozen 0
      have g7 := kb6.frozen 1
      simp at g0 g1 g2 g3
      have hf' : Hid True := trivial
      clear hf' hS
      go_upto_region 4 with fail
      obtain ⟨V, hV, hVb, kb, kc, hoff⟩ := two_boxes (B := w1.heap.size) kb5 kb6 (by decide) hb5 hb6 (.slice B D.bytes.length cb) (.slice Q D.pend.length cq) (.int .i64 x.blk) (.slice C x.bs.length cc)
      rw [hV]; clear hV
      have hEV : Ext w1 V := Below.trans hE2 hVb
      have HB : Hid (DBx V b5 B Q cb cq D) := ⟨kb, hB.off kb5 kb6 clean_disk clean_write hoff, (hQ.off kb5 kb6 clean_disk clean_write hoff).ws⟩
      have HC : Hid (WBx V b6 C cc x) := ⟨kc, hC.off kb5 kb6 clean_disk clean_write hoff⟩
      have HDV := Lib.hid (HD1.out.ext hEV)
      have HXV := Lib.hid (HX1.out.ext hEV)
      have HEV := Lib.hid (HE1.out.trans hEV)
      clear hE2 hne hne' g0 g1 g2 g3 g4 g5 g6 g7 hVb kb kc hoff hEV hB hQ hC kb5 kb6 hb5 hb6 hw HD1 HX1 HE1 hc hd e1 e3 e5 e6
      have hc := HB.out.cells
      have hd := HC.out.cells
      have HE := HEV
      clear HEV
      have hxs : x.bs.length ≤ 100000 := by have := Hl.out; omega
      have Hxs := Lib.hid hxs
      obtain ⟨E7, hE7⟩ : ∃ E, resD (pPut D x) (pDoD D 1 x) = E := ⟨_, rfl⟩
      obtain ⟨E9, hE9⟩ : ∃ E, resD (pFlush D) (pFlushD D) = E := ⟨_, rfl⟩
      have HE7 := Lib.hid hE7
      have HE9 := Lib.hid hE9
      clear hE7 hE9 hxs
      go_wp2_with fail
      refine (putF_any B Q C cb cq cc D x V HB.out.a HB.out.p HC.out.a Hsm.out Hxs.out).mono ?_
      rintro e w3 hr
      obtain ⟨v, rfl, hE3, h3⟩ := hr.retV
      rw [HE7.out] at h3
      obtain ⟨A7, c7, P7, p7, rfl, _, hA7, _, hP7⟩ := h3
      clear hr hc hd
      have Hq := Lib.hid (HB.out.ext hE3)
      clear HB
      have HB := Hq
      clear Hq
      have Hq := Lib.hid (HC.out.ext hE3)
      clear HC
      have HC := Hq
      clear Hq
      have Hq := Lib.hid (HDV.out.ext hE3)
      clear HDV
      have HDV := Hq
      clear Hq
      have Hq := Lib.hid (HXV.out.ext hE3)
      clear HXV
      have HXV := Hq
      clear Hq
      have Hq := Lib.hid (HE.out.trans hE3)
      clear HE
      have HE := Hq
      clear Hq
      clear hE3
      have hc := HB.out.cellsA
      go_wp2_with fail
      obtain ⟨V3, hV3, hE4, hz3, k7⟩ := box1 w3 #[.slice A7 E7.bytes.length c7, .slice P7 E7.pend.length p7] 25
      rw [hV3]; clear hV3 hz3
      have H7 : Hid (DBx V3 w3.heap.size A7 P7 c7 p7 E7) := ⟨k7, hA7.ext hE4, hP7.ext hE4⟩
      have Hq := Lib.hid (HB.out.ext hE4)
      clear HB
      have HB := Hq
      clear Hq
      have Hq := Lib.hid (HC.out.ext hE4)
      clear HC
      have HC := Hq
      clear Hq
      have Hq := Lib.hid (HDV.out.ext hE4)
      clear HDV
      have HDV := Hq
      clear Hq
      have Hq := Lib.hid (HXV.out.ext hE4)
      clear HXV
      have HXV := Hq
      clear Hq
      have Hq := Lib.hid (HE.out.trans hE4)
      clear HE
      have HE := Hq
      clear Hq
      clear hE4 k7 hA7 hP7 hc
      refine (flushF_any B Q cb cq D V3 HB.out.a HB.out.p Hsm.out).mono ?_
      rintro e w4 hr
      obtain ⟨v, rfl, hE4, h4⟩ := hr.retV
      rw [HE9.out] at h4
      obtain ⟨A9, c9, P9, p9, rfl, _, hA9, _, hP9⟩ := h4
      clear hr
      have Hq := Lib.hid (HB.out.ext hE4)
      clear HB
      have HB := Hq
      clear Hq
      have Hq := Lib.hid (HC.out.ext hE4)
      clear HC
      have HC := Hq
      clear Hq
      have Hq := Lib.hid (HDV.out.ext hE4)
      clear HDV
      have HDV := Hq
      clear Hq
      have Hq := Lib.hid (HXV.out.ext hE4)
      clear HXV
      have HXV := Hq
      clear Hq
      have Hq := Lib.hid (H7.out.ext hE4)
      clear H7
      have H7 := Hq
      clear Hq
      have Hq := Lib.hid (HE.out.trans hE4)
      clear HE
      have HE := Hq
      clear Hq
      clear hE4
      have hc := HDV.out.cellsA
      have hd := HXV.out.cellsA
      go_wp2_with fail
      obtain ⟨V4, hV4, hE5, hz4, k9⟩ := box1 w4 #[.slice A9 E9.bytes.length c9, .slice P9 E9.pend.length p9] 25
      rw [hV4]; clear hV4 hz4
      have H9 : Hid (DBx V4 w4.heap.size A9 P9 c9 p9 E9) := ⟨k9, hA9.ext hE5, hP9.ext hE5⟩
      have Hq := Lib.hid (HB.out.ext hE5)
      clear HB
      have HB := Hq
      clear Hq
      have Hq := Lib.hid (HC.out.ext hE5)
      clear HC
      have HC := Hq
      clear Hq
      have Hq := Lib.hid (HDV.out.ext hE5)
      clear HDV
      have HDV := Hq
      clear Hq
      have Hq := Lib.hid (HXV.out.ext hE5)
      clear HXV
      have HXV := Hq
      clear Hq
      have Hq := Lib.hid (H7.out.ext hE5)
      clear H7
      have H7 := Hq
      clear Hq
      have Hq := Lib.hid (HE.out.trans hE5)
      clear HE
      have HE := Hq
      clear Hq
      clear hE5 k9 hA9 hP9 hc hd
      refine (rPut_any A P Ax c p dx D x V4 HDV.out.a HDV.out.p HXV.out.a Hsm.out Hxs.out).mono ?_
      rintro e w5 ⟨v, rfl, hE5, h5⟩
      rw [HE7.out] at h5
      obtain ⟨A11, c11, P11, p11, rfl, _, hA11, _, hP11⟩ := h5
      have Hq := Lib.hid (HB.out.ext hE5)
      clear HB
      have HB := Hq
      clear Hq
      have Hq := Lib.hid (HC.out.ext hE5)
      clear HC
      have HC := Hq
      clear Hq
      have Hq := Lib.hid (HDV.out.ext hE5)
      clear HDV
      have HDV := Hq
      clear Hq
      have Hq := Lib.hid (HXV.out.ext hE5)
      clear HXV
      have HXV := Hq
      clear Hq
      have Hq := Lib.hid (H7.out.ext hE5)
      clear H7
      have H7 := Hq
      clear Hq
      have Hq := Lib.hid (H9.out.ext hE5)
      clear H9
      have H9 := Hq
      clear Hq
      have Hq := Lib.hid (HE.out.trans hE5)
      clear HE
      have HE := Hq
      clear Hq
      clear hE5
      have hc := HDV.out.cellsA
      go_wp2_with fail
      obtain ⟨V5, hV5, hE6, hz5, k11⟩ := box1 w5 #[.slice A11 E7.bytes.length c11, .slice P11 E7.pend.length p11] 25
      rw [hV5]; clear hV5 hz5
      have H11 : Hid (DBx V5 w5.heap.size A11 P11 c11 p11 E7) := ⟨k11, hA11.ext hE6, hP11.ext hE6⟩
      have Hq := Lib.hid (HB.out.ext hE6)
      clear HB
      have HB := Hq
      clear Hq
      have Hq := Lib.hid (HC.out.ext hE6)
      clear HC
      have HC := Hq
      clear Hq
      have Hq := Lib.hid (HDV.out.ext hE6)
      clear HDV
      have HDV := Hq
      clear Hq
      have Hq := Lib.hid (HXV.out.ext hE6)
      clear HXV
      have HXV := Hq
      clear Hq
      have Hq := Lib.hid (H7.out.ext hE6)
      clear H7
      have H7 := Hq
      clear Hq
      have Hq := Lib.hid (H9.out.ext hE6)
      clear H9
      have H9 := Hq
      clear Hq
      have Hq := Lib.hid (HE.out.trans hE6)
      clear HE
      have HE := Hq
      clear Hq
      clear hE6 k11 hA11 hP11 hc
      refine (rFlush_any A P c p D V5 HDV.out.a HDV.out.p Hsm.out).mono ?_
      rintro e w6 ⟨v, rfl, hE6, h6⟩
      rw [HE9.out] at h6
      obtain ⟨A13, c13, P13, p13, rfl, _, hA13, _, hP13⟩ := h6
      have Hq := Lib.hid (HB.out.ext hE6)
      clear HB
      have HB := Hq
      clear Hq
      have Hq := Lib.hid (HC.out.ext hE6)
      clear HC
      have HC := Hq
      clear Hq
      have Hq := Lib.hid (HDV.out.ext hE6)
      clear HDV
      have HDV := Hq
      clear Hq
      have Hq := Lib.hid (HXV.out.ext hE6)
      clear HXV
      have HXV := Hq
      clear Hq
      have Hq := Lib.hid (H7.out.ext hE6)
      clear H7
      have H7 := Hq
      clear Hq
      have Hq := Lib.hid (H9.out.ext hE6)
      clear H9
      have H9 := Hq
      clear Hq
      have Hq := Lib.hid (H11.out.ext hE6)
      clear H11
      have H11 := Hq
      clear Hq
      have Hq := Lib.hid (HE.out.trans hE6)
      clear HE
      have HE := Hq
      clear Hq
      clear hE6
      have h7 := H7.out.cellsA
      have h11 := H11.out.cellsA
      go_wp2_with fail
      obtain ⟨V6, hV6, hE7, hz6, k13⟩ := box1 w6 #[.slice A13 E9.bytes.length c13, .slice P13 E9.pend.length p13] 25
      rw [hV6]; clear hV6 hz6
      have H13 : Hid (DBx V6 w6.heap.size A13 P13 c13 p13 E9) := ⟨k13, hA13.ext hE7, hP13.ext hE7⟩
      have Hq := Lib.hid (HB.out.ext hE7)
      clear HB
      have HB := Hq
      clear Hq
      have Hq := Lib.hid (HC.out.ext hE7)
      clear HC
      have HC := Hq
      clear Hq
      have Hq := Lib.hid (HDV.out.ext hE7)
      clear HDV
      have HDV := Hq
      clear Hq
      have Hq := Lib.hid (HXV.out.ext hE7)
      clear HXV
      have HXV := Hq
      clear Hq
      have Hq := Lib.hid (H7.out.ext hE7)
      clear H7
      have H7 := Hq
      clear Hq
      have Hq := Lib.hid (H9.out.ext hE7)
      clear H9
      have H9 := Hq
      clear Hq
      have Hq := Lib.hid (H11.out.ext hE7)
      clear H11
      have H11 := Hq
      clear Hq
      have Hq := Lib.hid (HE.out.trans hE7)
      clear HE
      have HE := Hq
      clear Hq
      clear hE7 k13 hA13 hP13 h7 h11
      refine (same_any A7 P7 A11 P11 c7 p7 c11 p11 E7 E7 V6 H7.out.a H7.out.p H11.out.a H11.out.p ?_).mono ?_
      · rw [← HE7.out]
        have := Hsm.out.2.1
        unfold resD pDoD pPutD
        repeat' split
        all_goals (simp; try omega)
      rintro e w7 ⟨rfl, hE8⟩
      have Hq := Lib.hid (HB.out.ext hE8)
      clear HB
      have HB := Hq
      clear Hq
      have Hq := Lib.hid (HC.out.ext hE8)
      clear HC
      have HC := Hq
      clear Hq
      have Hq := Lib.hid (HDV.out.ext hE8)
      clear HDV
      have HDV := Hq
      clear Hq
      have Hq := Lib.hid (HXV.out.ext hE8)
      clear HXV
      have HXV := Hq
      clear Hq
      have Hq := Lib.hid (H9.out.ext hE8)
      clear H9
      have H9 := Hq
      clear Hq
      have Hq := Lib.hid (H13.out.ext hE8)
      clear H13
      have H13 := Hq
      clear Hq
      have Hq := Lib.hid (HE.out.trans hE8)
      clear HE
      have HE := Hq
      clear Hq
      clear hE8 H7 H11
      have h9 := H9.out.cells
      have h13 := H13.out.cells
      simp only [decide_true]
      go_wp2_with fail
      refine (same_any A9 P9 A13 P13 c9 p9 c13 p13 E9 E9 w7 H9.out.a H9.out.p H13.out.a H13.out.p ?_).mono ?_
      · rw [← HE9.out]
        unfold resD pFlushD
        split <;> simp
      rintro e w8 ⟨rfl, hE9⟩
      have Hq := Lib.hid (HB.out.ext hE9)
      clear HB
      have HB := Hq
      clear Hq
      have Hq := Lib.hid (HC.out.ext hE9)
      clear HC
      have HC := Hq
      clear Hq
      have Hq := Lib.hid (HDV.out.ext hE9)
      clear HDV
      have HDV := Hq
      clear Hq
      have Hq := Lib.hid (HXV.out.ext hE9)
      clear HXV
      have HXV := Hq
      clear Hq
      have Hq := Lib.hid (HE.out.trans hE9)
      clear HE
      have HE := Hq
      clear Hq
      clear hE9 H9 H13 h9 h13
      have hb := HB.out.cells
      have hd := HDV.out.cells
      simp only [decide_true]
      go_wp2_with fail
      refine (same_any B Q A P cb cq c p D D w8 HB.out.a HB.out.p HDV.out.a HDV.out.p (by have := Hsm.out.2.1; omega)).mono ?_
      rintro e w9 ⟨rfl, hE10⟩
      have cv1 := conv_by (HC.out.a.ext hE10) cc
      have cv2 := conv_by (HXV.out.a.ext hE10) dx
      have hx1 := (HC.out.ext hE10).cells
      have hx2 := (HXV.out.ext hE10).cells
      have ts := strB_toList
      have Hq := Lib.hid (HE.out.trans hE10)
      clear HE
      have HE := Hq
      clear Hq
      clear hE10 HB HDV HC HXV hb hd
      simp only [decide_true]
      go_wp2_with fail
      refine (awake_any _).mono ?_
      rintro e w4 ⟨rfl, hE6⟩
      have HE' := Lib.hid (HE.out.trans hE6)
      clear hE6
      go_wp2_with fail
      go_ret
      exact ⟨rfl, HE'.out⟩
    · have t1 : decide ((40 : Int) < (x.bs.length : Int)) = true := by simp; omega
      clear hl
      go_wp2_with fail
      refine (awake_any _).mono ?_
      rintro e w4 ⟨rfl, hE6⟩
      have HE' := Lib.hid (HE1.out.trans hE6)
      clear hE6
      go_wp2_with fail
      go_ret
      exact ⟨rfl, HE'.out⟩
  · rw [show pThin D = false by simpa using ht]
    clear ht
    go_wp2_with fail
    refine (awake_any _).mono ?_
    rintro e w4 ⟨rfl, hE6⟩
    have HE' := Lib.hid (HE1.out.trans hE6)
    clear hE6
    go_wp2_with fail
    go_ret
    exact ⟨rfl, HE'.out⟩
end Go.Proofs.Ytdlalmbnkcadfaa
