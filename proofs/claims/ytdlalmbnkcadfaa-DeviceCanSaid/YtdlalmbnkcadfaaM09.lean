/- device: do. -/
import Derived.Test.YtdlalmbnkcadfaaM08
import Derived.Laws.EntriesVeiled
namespace Go.Proofs.Ytdlalmbnkcadfaa
open Go.RowKit

def pDoE (D : Dk) (kd : Int) (x : Wr) : Int := if kd = 1 then pPutE D x else if kd = 2 then 0 else 2
def pDoD (D : Dk) (kd : Int) (x : Wr) : Dk := if kd = 1 then pPutD D x else if kd = 2 then ⟨pFl D.bytes D.pend, []⟩ else D

theorem LD.box {w : World} {B xb : Nat} {D : Dk} (h : LD w B xb D) : ∃ A c P e, Bk w xb #[.slice A D.bytes.length c, .slice P D.pend.length e] 84 := by
  obtain ⟨g, c, Pv, qs, h1, h2, h3, h4, h5⟩ := h
  obtain ⟨P, e, rfl, _⟩ := h3.form
  have : qs.length = D.pend.length := by rw [← h4]; simp
  rw [this] at h1
  exact ⟨_, _, _, _, h1⟩
theorem pFl_len {D : Dk} (hok : ∀ x ∈ D.pend, okWr (D.bytes.length / 32) x = true) : (pFl D.bytes D.pend).length = D.bytes.length := pFl_length _ _ _ (by omega) hok

theorem put_any (xb B : Nat) (D : Dk) (kd : Int) (x : Wr) (A : Option Addr) (d : Nat) (w : World) (hL : LD w B xb D) (hB : B ≤ w.heap.size) (hA : By w A x.bs) (hsm : Small D) (hxs : x.bs.length ≤ 100000) (hp : D.pend.length ≤ 64) :
    Calls Try.prog 101 #[.pointer (some ⟨xb, 0, none⟩), .agg #[.int .u8 kd, .int .i64 x.blk, .slice A x.bs.length d]] w fun e w' =>
      e = .returned (.int .i64 (pPutE D x)) ∧ LD w' B xb (pPutD D x) ∧ Below B w w' := by
  by_cases hok : okWr (D.bytes.length / 32) x = true
  · by_cases hf : D.pend.length = 64
    · have e1 : pPutE D x = 8 := by unfold pPutE; rw [if_pos hok, if_pos hf]
      have e2 : pPutD D x = D := by unfold pPutD; rw [e1]; simp
      rw [e1, e2]
      refine (put_full xb B D kd x A d w hL hsm hxs hok hf).mono ?_
      rintro e w' ⟨h1, h2⟩
      exact ⟨h1, hL.ext h2, Below.mono h2 hB⟩
    · have e1 : pPutE D x = 0 := by unfold pPutE; rw [if_pos hok, if_neg hf]
      have e2 : pPutD D x = { D with pend := D.pend ++ [x] } := by unfold pPutD; rw [e1]; simp
      rw [e1, e2]
      exact put_ok xb B D kd x A d w hL hB hA hsm hxs hok (by omega)
  · have e1 : pPutE D x = 2 := by unfold pPutE; rw [if_neg hok]
    have e2 : pPutD D x = D := by unfold pPutD; rw [e1]; simp
    rw [e1, e2]
    refine (put_bad xb B D kd x A d w hL hsm hxs (by simpa using hok)).mono ?_
    rintro e w' ⟨h1, h2⟩
    exact ⟨h1, hL.ext h2, Below.mono h2 hB⟩

theorem flush_ld (xb B : Nat) (D : Dk) (w : World) (hL : LD w B xb D) (hB : B ≤ w.heap.size) (hsm : Small D) (hok : ∀ x ∈ D.pend, okWr (D.bytes.length / 32) x = true) :
    Calls Try.prog 71 #[.pointer (some ⟨xb, 0, none⟩)] w fun e w' =>
      e = .returned (.tuple #[]) ∧ LD w' B xb ⟨pFl D.bytes D.pend, []⟩ ∧ Below B w w' := by
  obtain ⟨g, c, Pv, qs, h1, h2, h3, h4, h5, h6, h7⟩ := hL
  have hq : qs.length = D.pend.length := by rw [← h4]; simp
  refine (flush_any xb g c B Pv qs D.bytes w h1 h2 h3 h6 h5 hB hsm.1 (by rw [hq]; exact hsm.2.1) (fun q hq => hok q.1 (by rw [← h4]; exact List.mem_map_of_mem hq))).mono ?_
  rintro e w' ⟨e1, e2, e3, e4⟩
  rw [h4] at e4
  refine ⟨e1, ⟨g, c, .slice none 0 0, [], ?_, e4, PO.nil _ _ _, rfl, h5, h6, ?_⟩, e2⟩
  · rw [pFl_len hok]; exact e3
  · rw [pFl_len hok]; exact h7

set_option maxRecDepth 100000 in
set_option maxHeartbeats 1000000 in
theorem op2_any (xb B : Nat) (D : Dk) (kd : Int) (x : Wr) (A : Option Addr) (d : Nat) (w : World) (hL : LD w B xb D) (hB : B ≤ w.heap.size) (hsm : Small D) (hok : ∀ x ∈ D.pend, okWr (D.bytes.length / 32) x = true) :
    Calls Try.prog 102 #[.pointer (some ⟨xb, 0, none⟩), .agg #[.int .u8 kd, .int .i64 x.blk, .slice A x.bs.length d]] w fun e w' =>
      e = .returned (.int .i64 0) ∧ LD w' B xb ⟨pFl D.bytes D.pend, []⟩ ∧ Below B w w' := by
  go_enter Try.func102, Try.ntmps102
  go_wp2_with fail
  obtain ⟨W, hW, hE, hz, k0⟩ := box1 w #[.int .u8 kd, .int .i64 x.blk, .slice A x.bs.length d] 70
  rw [hW]; clear hW
  refine (flush_ld xb B D W (hL.ext hE) (by have := hE.size; omega) hsm hok).mono ?_
  rintro e w1 ⟨rfl, h1, h2⟩
  have H1 := Lib.hid h1
  have H2 : Hid (Below B w w1) := (Below.mono hE hB).trans h2
  clear h1 h2 hL hE hz k0
  go_wp2
  go_ret
  exact ⟨rfl, H1.out, H2.out⟩

/-- A new box. -/
def SV.new (B : Nat) (cs : Array Value) (t : TypeId) : SV := ⟨fun v w => ∃ b, v = .pointer (some ⟨b, 0, none⟩) ∧ B ≤ b ∧ Bk w b cs t, fun ⟨b, h1, h2, h3⟩ e => ⟨b, h1, h2, h3.ext e⟩⟩
def SV.ops : SV := ⟨fun v w => ∃ r, v = .map (some r) ∧ w.heap[r]? = some (.map opMap 2), fun ⟨r, h1, h2⟩ e => ⟨r, h1, (e.block r (Array.getElem?_eq_some_iff.1 h2).1).trans h2⟩⟩

/-- A store into a block that is newer. -/
theorem Ext.newer {w w' : World} (e : Ext w w') {p : Addr} (hp : w.heap.size ≤ p.block) (u : Value) : Ext w (w'.setCell p u) := Below.setCell e hp u
theorem LD.newer {w w' : World} {B xb : Nat} {D : Dk} (h : LD w B xb D) (e : Ext w w') {p : Addr} (hp : w.heap.size ≤ p.block) (u : Value) : LD (w'.setCell p u) B xb D := h.ext (e.newer hp u)
theorem By.newer {w w' : World} {A : Option Addr} {bs : BL} (h : By w A bs) (e : Ext w w') {p : Addr} (hp : w.heap.size ≤ p.block) (u : Value) : By (w'.setCell p u) A bs := By.ext h (e.newer hp u)

set_option maxRecDepth 100000 in
set_option maxHeartbeats 1000000 in
theorem do_put (xb B : Nat) (D : Dk) (x : Wr) (A : Option Addr) (d : Nat) (kd : Int) (hkd : kd = 1) (w : World) (hL : LD w B xb D) (hB : B ≤ w.heap.size) (hA : By w A x.bs) (hsm : Small D) (hxs : x.bs.length ≤ 100000) (hp : D.pend.length ≤ 64) :
    Calls Try.prog 72 #[.pointer (some ⟨xb, 0, none⟩), .agg #[.int .u8 kd, .int .i64 x.blk, .slice A x.bs.length d]] w fun e w' =>
      e = .returned (.int .i64 (pPutE D x)) ∧ LD w' B xb (pPutD D x) ∧ Below B w w' := by
  have Hkd := Lib.hid hkd
  clear hkd
  go_enter Try.func72, Try.ntmps72
  go_wp2_with fail
  obtain ⟨W, hW, hE, hz, k0⟩ := box1 w #[.int .u8 kd, .int .i64 x.blk, .slice A x.bs.length d] 70
  rw [hW]; clear hW
  have hS := Lib.hid (fun w' (h : Ext W w') => (⟨h, (k0.ext h).cell 0⟩ : Ext W w' ∧ w'.cell? ⟨w.heap.size, 0, none⟩ = some (.int .u8 kd)))
  refine wp_region_rell 8 (by kernel_rfl) (by kernel_rfl) (fun _ _ _ _ _ h => h) (Ext.refl W).drew ?_
  (apply relW_any SV.ops
   · intro vs w' hw hf
     have hc := hS.out w' hw
     skip
     unfold okAt
     go_simp
     refine ⟨Ext.refl _, ?_⟩; go_at_call 91; refine (operations_any _).mono ?_; rintro e w2 ⟨r, rfl, h1, h2⟩; exact ⟨_, rfl, ⟨r, rfl, h1⟩, h2⟩
   · intro vs; go_simp; rfl)
  (apply relW_fix
   · intro vs w' hw hf
     have hc := hS.out w' hw
     unfold okAt
     go_simp
     first | exact ⟨rfl, Ext.refl _⟩ | exact rfl
   · intro vs; go_simp; rfl)
  (apply relW_fix
   · intro vs w' hw hf
     have hc := hS.out w' hw
     unfold okAt
     go_simp
     first | exact ⟨rfl, Ext.refl _⟩ | exact rfl
   · intro vs; go_simp; rfl)
  (apply relW_fix
   · intro vs w' hw hf
     obtain ⟨r, er, hr⟩ := hf.out.1 (by kernel_rfl)
     have hl := lookup_op w' r kd hr (.agg #[.func (.func 101) #[] #[]]) true (.inl (by rw [Hkd.out]; rfl)) (by simp)
     unfold okAt
     go_simp
     exact ⟨rfl, Ext.refl _⟩
   · intro vs; go_simp; rfl)
  (apply relW_fix
   · intro vs w' hw hf
     have hc := hS.out w' hw
     unfold okAt
     go_simp
     first | exact ⟨rfl, Ext.refl _⟩ | exact rfl
   · intro vs; go_simp; rfl)
  (apply relW_fix
   · intro vs w' hw hf
     have hc := hS.out w' hw
     unfold okAt
     go_simp
     first | exact ⟨rfl, Ext.refl _⟩ | exact rfl
   · intro vs; go_simp; rfl)
  (apply relW_fix
   · intro vs w' hw hf
     have hc := hS.out w' hw
     unfold okAt
     go_simp
     first | exact ⟨rfl, Ext.refl _⟩ | exact rfl
   · intro vs; go_simp; rfl)
  (apply relW_any (SV.new W.heap.size #[.nilFunc] 124)
   · intro vs w' hw hf
     have hc := hS.out w' hw
     skip
     unfold okAt
     go_simp
     exact ⟨⟨_, rfl, hw.size, Bk.new _ _ _⟩, (Ext.refl _).alloc _⟩
   · intro vs; go_simp; rfl)
  refine relW_nil fun vs w6 hw hf => ?_
  obtain ⟨⟨b, eb, hb1, hb2⟩, _, _⟩ := hf
  have b0 := hb2.cell 0
  have bf := hb2.frozen 0
  have kb := (k0.ext hw).far (p := ⟨b, 0, none⟩) (by show w.heap.size ≠ b; have := hz.out; omega) (.func (.func 101) #[] #[])
  have kx := hb2.set 0 (.func (.func 101) #[] #[])
  have c0 := kb.cell 0
  have c1 := kb.cell 1
  have c2 := kb.cell 2
  have d0 := kx.cell 0
  simp at b0 c0 c1 c2 d0
  have hE6 : Ext w w6 := hE.trans hw
  have hL6 := Lib.hid (hL.newer hE6 (p := ⟨b, 0, none⟩) (by show w.heap.size ≤ b; have := hz.out; omega) (.func (.func 101) #[] #[]))
  have hA6 := Lib.hid (hA.newer hE6 (p := ⟨b, 0, none⟩) (by show w.heap.size ≤ b; have := hz.out; omega) (.func (.func 101) #[] #[]))
  have hB6 : Hid (Below B w (w6.setCell ⟨b, 0, none⟩ (.func (.func 101) #[] #[]))) := (Below.mono hE6 hB).setCell (by show B ≤ b; have := hz.out; omega) _
  have hs6 : Hid (w.heap.size ≤ w6.heap.size) := hE6.size
  clear hw hE6 hE kb kx hb2 hL hA k0 hS hz
  simp only [List.drop]
  go_wp2_with fail
  refine (put_any xb B D kd x A d _ hL6.out (by have := hB6.out.size; omega) hA6.out hsm hxs hp).mono ?_
  rintro e w7 ⟨rfl, h1, h2⟩
  have H1 := Lib.hid h1
  have H2 : Hid (Below B w w7) := hB6.out.trans h2
  clear h1 h2 hL6 hA6 hB6 c0 c1 c2 d0 b0 bf
  go_wp2
  go_ret
  exact ⟨rfl, H1.out, H2.out⟩

set_option maxRecDepth 100000 in
set_option maxHeartbeats 1000000 in
theorem do_flush (xb B : Nat) (D : Dk) (x : Wr) (A : Option Addr) (d : Nat) (kd : Int) (hkd : kd = 2) (w : World) (hL : LD w B xb D) (hB : B ≤ w.heap.size) (hsm : Small D) (hok : ∀ x ∈ D.pend, okWr (D.bytes.length / 32) x = true) :
    Calls Try.prog 72 #[.pointer (some ⟨xb, 0, none⟩), .agg #[.int .u8 kd, .int .i64 x.blk, .slice A x.bs.length d]] w fun e w' =>
      e = .returned (.int .i64 0) ∧ LD w' B xb ⟨pFl D.bytes D.pend, []⟩ ∧ Below B w w' := by
  have Hkd := Lib.hid hkd
  clear hkd
  go_enter Try.func72, Try.ntmps72
  go_wp2_with fail
  obtain ⟨W, hW, hE, hz, k0⟩ := box1 w #[.int .u8 kd, .int .i64 x.blk, .slice A x.bs.length d] 70
  rw [hW]; clear hW
  have hS := Lib.hid (fun w' (h : Ext W w') => (⟨h, (k0.ext h).cell 0⟩ : Ext W w' ∧ w'.cell? ⟨w.heap.size, 0, none⟩ = some (.int .u8 kd)))
  refine wp_region_rell 8 (by kernel_rfl) (by kernel_rfl) (fun _ _ _ _ _ h => h) (Ext.refl W).drew ?_
  (apply relW_any SV.ops
   · intro vs w' hw hf
     have hc := hS.out w' hw
     skip
     unfold okAt
     go_simp
     refine ⟨Ext.refl _, ?_⟩; go_at_call 91; refine (operations_any _).mono ?_; rintro e w2 ⟨r, rfl, h1, h2⟩; exact ⟨_, rfl, ⟨r, rfl, h1⟩, h2⟩
   · intro vs; go_simp; rfl)
  (apply relW_fix
   · intro vs w' hw hf
     have hc := hS.out w' hw
     unfold okAt
     go_simp
     first | exact ⟨rfl, Ext.refl _⟩ | exact rfl
   · intro vs; go_simp; rfl)
  (apply relW_fix
   · intro vs w' hw hf
     have hc := hS.out w' hw
     unfold okAt
     go_simp
     first | exact ⟨rfl, Ext.refl _⟩ | exact rfl
   · intro vs; go_simp; rfl)
  (apply relW_fix
   · intro vs w' hw hf
     obtain ⟨r, er, hr⟩ := hf.out.1 (by kernel_rfl)
     have hl := lookup_op w' r kd hr (.agg #[.func (.func 102) #[] #[]]) true (.inr (by rw [Hkd.out]; rfl)) (by simp)
     unfold okAt
     go_simp
     exact ⟨rfl, Ext.refl _⟩
   · intro vs; go_simp; rfl)
  (apply relW_fix
   · intro vs w' hw hf
     have hc := hS.out w' hw
     unfold okAt
     go_simp
     first | exact ⟨rfl, Ext.refl _⟩ | exact rfl
   · intro vs; go_simp; rfl)
  (apply relW_fix
   · intro vs w' hw hf
     have hc := hS.out w' hw
     unfold okAt
     go_simp
     first | exact ⟨rfl, Ext.refl _⟩ | exact rfl
   · intro vs; go_simp; rfl)
  (apply relW_fix
   · intro vs w' hw hf
     have hc := hS.out w' hw
     unfold okAt
     go_simp
     first | exact ⟨rfl, Ext.refl _⟩ | exact rfl
   · intro vs; go_simp; rfl)
  (apply relW_any (SV.new W.heap.size #[.nilFunc] 124)
   · intro vs w' hw hf
     have hc := hS.out w' hw
     skip
     unfold okAt
     go_simp
     exact ⟨⟨_, rfl, hw.size, Bk.new _ _ _⟩, (Ext.refl _).alloc _⟩
   · intro vs; go_simp; rfl)
  refine relW_nil fun vs w6 hw hf => ?_
  obtain ⟨⟨b, eb, hb1, hb2⟩, _, _⟩ := hf
  have b0 := hb2.cell 0
  have bf := hb2.frozen 0
  have kb := (k0.ext hw).far (p := ⟨b, 0, none⟩) (by show w.heap.size ≠ b; have := hz.out; omega) (.func (.func 102) #[] #[])
  have kx := hb2.set 0 (.func (.func 102) #[] #[])
  have c0 := kb.cell 0
  have c1 := kb.cell 1
  have c2 := kb.cell 2
  have d0 := kx.cell 0
  simp at b0 c0 c1 c2 d0
  have hE6 : Ext w w6 := hE.trans hw
  have hL6 := Lib.hid (hL.newer hE6 (p := ⟨b, 0, none⟩) (by show w.heap.size ≤ b; have := hz.out; omega) (.func (.func 102) #[] #[]))
  have hB6 : Hid (Below B w (w6.setCell ⟨b, 0, none⟩ (.func (.func 102) #[] #[]))) := (Below.mono hE6 hB).setCell (by show B ≤ b; have := hz.out; omega) _
  have hs6 : Hid (w.heap.size ≤ w6.heap.size) := hE6.size
  clear hw hE6 hE kb kx hb2 hL k0 hS hz
  simp only [List.drop]
  go_wp2_with fail
  refine (op2_any xb B D kd x A d _ hL6.out (by have := hB6.out.size; omega) hsm hok).mono ?_
  rintro e w7 ⟨rfl, h1, h2⟩
  have H1 := Lib.hid h1
  have H2 : Hid (Below B w w7) := hB6.out.trans h2
  clear h1 h2 hL6 hB6 c0 c1 c2 d0 b0 bf
  go_wp2
  go_ret
  exact ⟨rfl, H1.out, H2.out⟩

theorem noOp (k : Int) (h1 : k ≠ 1) (h2 : k ≠ 2) : Instr.findNow (.int .u8) (.int .u8 k) opMap.toList 0 = some none := by
  have e : ∀ j : Int, k ≠ j → Instr.sameNow (.int .u8) (.int .u8 k) (.int .u8 j) = some false := fun j hj => by simp [Instr.sameNow, hj]
  simp [opMap, Instr.findNow, e 1 h1, e 2 h2]
set_option maxRecDepth 100000 in
set_option maxHeartbeats 1000000 in
theorem do_none (xb B : Nat) (D : Dk) (x : Wr) (A : Option Addr) (d : Nat) (kd : Int) (h1 : kd ≠ 1) (h2 : kd ≠ 2) (w : World) (hL : LD w B xb D) (hB : B ≤ w.heap.size) :
    Calls Try.prog 72 #[.pointer (some ⟨xb, 0, none⟩), .agg #[.int .u8 kd, .int .i64 x.blk, .slice A x.bs.length d]] w fun e w' =>
      e = .returned (.int .i64 2) ∧ LD w' B xb D ∧ Below B w w' := by
  have hno := Lib.hid (noOp kd h1 h2)
  clear h1 h2
  go_enter Try.func72, Try.ntmps72
  go_wp2_with fail
  obtain ⟨W, hW, hE, hz, k0⟩ := box1 w #[.int .u8 kd, .int .i64 x.blk, .slice A x.bs.length d] 70
  rw [hW]; clear hW
  have hS := Lib.hid (fun w' (h : Ext W w') => (⟨h, (k0.ext h).cell 0⟩ : Ext W w' ∧ w'.cell? ⟨w.heap.size, 0, none⟩ = some (.int .u8 kd)))
  refine wp_region_rell 8 (by kernel_rfl) (by kernel_rfl) (fun _ _ _ _ _ h => h) (Ext.refl W).drew ?_
  (apply relW_any SV.ops
   · intro vs w' hw hf
     have hc := hS.out w' hw
     skip
     unfold okAt
     go_simp
     refine ⟨Ext.refl _, ?_⟩; go_at_call 91; refine (operations_any _).mono ?_; rintro e w2 ⟨r, rfl, h1, h2⟩; exact ⟨_, rfl, ⟨r, rfl, h1⟩, h2⟩
   · intro vs; go_simp; rfl)
  (apply relW_fix
   · intro vs w' hw hf
     have hc := hS.out w' hw
     unfold okAt
     go_simp
     first | exact ⟨rfl, Ext.refl _⟩ | exact rfl
   · intro vs; go_simp; rfl)
  (apply relW_fix
   · intro vs w' hw hf
     have hc := hS.out w' hw
     unfold okAt
     go_simp
     first | exact ⟨rfl, Ext.refl _⟩ | exact rfl
   · intro vs; go_simp; rfl)
  (apply relW_fix
   · intro vs w' hw hf
     obtain ⟨r, er, hr⟩ := hf.out.1 (by kernel_rfl)
     have hl := lookup_op w' r kd hr (.agg #[.nilFunc]) false (.inl hno.out) (fun _ => rfl)
     unfold okAt
     go_simp
     exact ⟨rfl, Ext.refl _⟩
   · intro vs; go_simp; rfl)
  (apply relW_fix
   · intro vs w' hw hf
     have hc := hS.out w' hw
     unfold okAt
     go_simp
     first | exact ⟨rfl, Ext.refl _⟩ | exact rfl
   · intro vs; go_simp; rfl)
  (apply relW_fix
   · intro vs w' hw hf
     have hc := hS.out w' hw
     unfold okAt
     go_simp
     first | exact ⟨rfl, Ext.refl _⟩ | exact rfl
   · intro vs; go_simp; rfl)
  (apply relW_fix
   · intro vs w' hw hf
     have hc := hS.out w' hw
     unfold okAt
     go_simp
     first | exact ⟨rfl, Ext.refl _⟩ | exact rfl
   · intro vs; go_simp; rfl)
  (apply relW_any (SV.new W.heap.size #[.nilFunc] 124)
   · intro vs w' hw hf
     have hc := hS.out w' hw
     skip
     unfold okAt
     go_simp
     exact ⟨⟨_, rfl, hw.size, Bk.new _ _ _⟩, (Ext.refl _).alloc _⟩
   · intro vs; go_simp; rfl)
  refine relW_nil fun vs w6 hw hf => ?_
  obtain ⟨⟨b, eb, hb1, hb2⟩, _, _⟩ := hf
  have b0 := hb2.cell 0
  have bf := hb2.frozen 0
  have kb := (k0.ext hw).far (p := ⟨b, 0, none⟩) (by show w.heap.size ≠ b; have := hz.out; omega) (.nilFunc)
  have kx := hb2.set 0 (.nilFunc)
  have c0 := kb.cell 0
  have c1 := kb.cell 1
  have c2 := kb.cell 2
  have d0 := kx.cell 0
  simp at b0 c0 c1 c2 d0
  have hE6 : Ext w w6 := hE.trans hw
  have hL6 := Lib.hid (hL.newer hE6 (p := ⟨b, 0, none⟩) (by show w.heap.size ≤ b; have := hz.out; omega) .nilFunc)
  have hB6 : Hid (Below B w (w6.setCell ⟨b, 0, none⟩ .nilFunc)) := (Below.mono hE6 hB).setCell (by show B ≤ b; have := hz.out; omega) _
  clear hw hE6 hE kb kx hb2 hL k0 hS hz
  simp only [List.drop]
  go_wp2
  go_ret
  exact ⟨rfl, hL6.out, hB6.out⟩

theorem do_any (xb B : Nat) (D : Dk) (x : Wr) (A : Option Addr) (d : Nat) (kd : Int) (w : World) (hL : LD w B xb D) (hB : B ≤ w.heap.size) (hA : By w A x.bs) (hsm : Small D) (hxs : x.bs.length ≤ 100000) (hc : pCheck D = 0) :
    Calls Try.prog 72 #[.pointer (some ⟨xb, 0, none⟩), .agg #[.int .u8 kd, .int .i64 x.blk, .slice A x.bs.length d]] w fun e w' =>
      e = .returned (.int .i64 (pDoE D kd x)) ∧ LD w' B xb (pDoD D kd x) ∧ Below B w w' := by
  obtain ⟨-, -, -, hp, hok⟩ := pCheck_ok hc
  by_cases h1 : kd = 1
  · unfold pDoE pDoD
    rw [if_pos h1, if_pos h1]
    exact do_put xb B D x A d kd h1 w hL hB hA hsm hxs hp
  · by_cases h2 : kd = 2
    · unfold pDoE pDoD
      rw [if_neg h1, if_neg h1, if_pos h2, if_pos h2]
      exact do_flush xb B D x A d kd h2 w hL hB hsm hok
    · unfold pDoE pDoD
      rw [if_neg h1, if_neg h1, if_neg h2, if_neg h2]
      exact do_none xb B D x A d kd h1 h2 w hL hB
end Go.Proofs.Ytdlalmbnkcadfaa
