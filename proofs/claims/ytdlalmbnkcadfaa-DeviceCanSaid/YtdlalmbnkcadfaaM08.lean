/- device: flush. -/
import Derived.Test.YtdlalmbnkcadfaaM07
import Derived.RangeFuncRecord
namespace Go.Proofs.Ytdlalmbnkcadfaa
open Go.RowKit

/-- The bytes behind a flush. -/
def pFl (bytes : BL) (ws : List Wr) : BL := ws.foldl (fun b x => put1 b x.blk.toNat x.bs 32) bytes
theorem pFl_snoc (bytes : BL) (ws : List Wr) (x : Wr) : pFl bytes (ws ++ [x]) = put1 (pFl bytes ws) x.blk.toNat x.bs 32 := by simp [pFl]
theorem pFl_length (nb : Nat) : ∀ (ws : List Wr) (bytes : BL), nb * 32 ≤ bytes.length → (∀ x ∈ ws, okWr nb x = true) → (pFl bytes ws).length = bytes.length
  | [], _, _, _ => rfl
  | x :: r, bytes, hn, h => by
    obtain ⟨k, hk, hlt, hl⟩ := okWr_iff (h x (by simp))
    have h1 : (put1 bytes x.blk.toNat x.bs 32).length = bytes.length := put1_length _ _ _ _ (by omega) (by rw [hk]; simp; omega)
    have := pFl_length nb r (put1 bytes x.blk.toNat x.bs 32) (by omega) fun y hy => h y (by simp [hy])
    show (pFl (put1 bytes x.blk.toNat x.bs 32) r).length = _
    rw [this, h1]

def FlInv (w wr : World) (B xb g c n : Nat) (Pv : Value) (qs : List Rec) (bytes : BL) (k : Nat) : Prop :=
  Below B w wr ∧ Bk wr xb #[.slice (some ⟨g, 0, none⟩) n c, Pv] 84 ∧ OB wr g c (pFl bytes ((qs.take k).map Prod.fst)) ∧ PO wr B [g, xb] Pv qs

set_option maxRecDepth 100000 in
set_option maxHeartbeats 2000000 in
theorem flush_any (xb g c B : Nat) (Pv : Value) (qs : List Rec) (bytes : BL) (w : World) (hx : Bk w xb #[.slice (some ⟨g, 0, none⟩) bytes.length c, Pv] 84) (hO : OB w g c bytes) (hPO : PO w B [g, xb] Pv qs)
    (hBx : B ≤ xb) (hBg : B ≤ g) (hB : B ≤ w.heap.size) (hsm : bytes.length ≤ 100000) (hq : qs.length ≤ 100000) (hok : ∀ q ∈ qs, okWr (bytes.length / 32) q.1 = true) :
    Calls Try.prog 71 #[.pointer (some ⟨xb, 0, none⟩)] w fun e w' => e = .returned (.tuple #[]) ∧ Below B w w' ∧
      Bk w' xb #[.slice (some ⟨g, 0, none⟩) bytes.length c, .slice none 0 0] 84 ∧ OB w' g c (pFl bytes (qs.map Prod.fst)) := by
  obtain ⟨PA, pc, rfl, hpc⟩ := hPO.form
  have x0 := hx.cell 0
  have x1 := hx.cell 1
  simp at x0 x1
  go_enter Try.func71, Try.ntmps71
  go_wp2_with fail
  go_loopw [10] (fun i wr => ∃ k : Nat, k ≤ qs.length ∧ i = .int .i64 k ∧ FlInv w wr B xb g c bytes.length (.slice PA qs.length pc) qs bytes k) (fun i _ => qs.length - (intOf i).toNat)
  case atStart => exact ⟨0, Nat.zero_le _, rfl, Below.refl _ _, hx, hO, hPO⟩
  case round =>
    obtain ⟨k, hk, rfl, hEr, jx, hOr, hPr⟩ := hrel
    clear x0 x1
    by_cases hlt : k < qs.length
    · obtain ⟨r, pc', hv, hBr, e1, e2⟩ := hPr.at hlt
      simp only [Value.slice.injEq, true_and] at hv
      obtain ⟨rfl, rfl⟩ := hv
      have x0 := jx.cell 0
      have x1 := jx.cell 1
      simp at x0 x1
      have HEr := Lib.hid hEr
      clear hEr
      go_wp2_with fail
      obtain ⟨V, hV, hEV, hzV, kx⟩ := box1 wr #[.int .i64 qs[k].1.blk, .slice qs[k].2.1 qs[k].1.bs.length qs[k].2.2] 49
      rw [hV]; clear hV
      have jx' := jx.ext hEV
      have hS := Lib.hid (fun w' (h : Ext V w') => (⟨h, (jx'.ext h).cell 0, (jx'.ext h).cell 1, (kx.ext h).cell 0, (kx.ext h).cell 1⟩ : Ext V w' ∧ w'.cell? ⟨xb, 0, none⟩ = some (.slice (some ⟨g, 0, none⟩) bytes.length c) ∧ w'.cell? ⟨xb, 1, none⟩ = some (.slice (some ⟨r, 0, none⟩) qs.length pc) ∧ w'.cell? ⟨wr.heap.size, 0, none⟩ = some (.int .i64 qs[k].1.blk) ∧ w'.cell? ⟨wr.heap.size, 1, none⟩ = some (.slice qs[k].2.1 qs[k].1.bs.length qs[k].2.2)))
      refine wp_region_rel 4 (by kernel_rfl) (by kernel_rfl) (Ext.refl V).drew ?_
      repeat (apply relW_fix
              · intro vs w' hw hf
                have hc := hS.out w' hw
                unfold okAt
                go_simp
                first | exact ⟨rfl, Ext.refl _⟩ | exact rfl
              · intro vs; go_simp; rfl)
      refine relW_nil fun vs w6 hw hf => ?_
      obtain ⟨kb, hkb, hkn, hbl⟩ := okWr_iff (hok qs[k] (List.getElem_mem hlt))
      have hE6 : Ext wr w6 := hEV.trans hw
      obtain ⟨hq1, hq2, hq3⟩ := hPr.one qs[k] (List.getElem_mem hlt)
      have hlen : (pFl bytes ((qs.take k).map Prod.fst)).length = bytes.length := pFl_length (bytes.length / 32) _ _ (by omega) (fun x hx => by
        obtain ⟨q, hq, rfl⟩ := List.mem_map.1 hx
        exact hok q (List.mem_of_mem_take hq))
      have Hlen := Lib.hid hlen
      have Hkb := Lib.hid hkb
      have Hbl := Lib.hid hbl
      clear hlen hkb hbl x0 x1 e1 e2
      have hgo := Lib.hid (reach_int g c (.slice (some ⟨r, 0, none⟩) qs.length pc) (pFl bytes ((qs.take k).map Prod.fst)) qs[k].1.bs qs[k].2.1 qs[k].2.2 qs[k].1.blk 32 w6 (hOr.ext hE6) (by rw [Hlen.out]; exact hsm) (hq2.ext hE6)
        (by rw [Hkb.out]; omega) (by rw [Hkb.out, Hlen.out]; simp; omega) (by omega) (by rw [Hbl.out]; simp) (by omega) hq1)
      rw [Hlen.out] at hgo
      go_wp2_with fail
      refine hgo.out.mono ?_
      rintro e w7 ⟨rfl, hO7, hg7⟩
      have nX : (84 : Nat) ≠ 5 := by decide
      have hbg : ∃ cur, Bk wr g cur 5 := by obtain ⟨m, _, h⟩ := hOr; exact ⟨_, h⟩
      obtain ⟨cur, hcur⟩ := hbg
      have hPO7 := Lib.hid ((hPr.ext hE6).grown hg7 (by simp) (hcur.not_own hPr.own (by decide)))
      have hx7 := Lib.hid ((jx.ext hE6).grown hg7 (fun e => Bk.ne jx hcur nX (Option.some.inj e)))
      have hE7 : Hid (Below B w w7) := (HEr.out.trans (Below.mono hE6 (by have := HEr.out.size; omega))).grown hg7 (by have := HEr.out.size; have := hE6.size; omega) (fun k hk => by obtain rfl := Option.some.inj hk; exact hBg)
      have hO7' := Lib.hid hO7
      clear hO7 hg7 hcur hgo hPr jx jx' kx hS hE6 hw hEV hOr hq1 hq2 hq3
      go_wp2
      go_roundw
      case rel =>
        refine ⟨k + 1, by omega, by go_num, hE7.out, hx7.out, ?_, hPO7.out⟩
        rw [List.take_succ_eq_append_getElem hlt, List.map_append]
        simp only [List.map_cons, List.map_nil]
        rw [pFl_snoc]
        exact hO7'.out
      case measure => simp [intOf]; omega
    · obtain rfl : k = qs.length := by omega
      have x0 := jx.cell 0
      have x1 := jx.cell 1
      have f1 := jx.frozen 1
      simp at x0 x1
      have Hjx := Lib.hid jx
      have HEr := Lib.hid hEr
      clear jx hEr
      go_wp2
      go_end0
      have hne : g ≠ xb := by obtain ⟨m, _, h⟩ := hOr; exact Bk.ne h Hjx.out (by decide)
      refine ⟨rfl, HEr.out.setCell (by exact hBx) _, Hjx.out.set 1 _, ?_⟩
      rw [List.take_length] at hOr
      exact hOr.far hne _
end Go.Proofs.Ytdlalmbnkcadfaa
/- device: operations. -/
namespace Go.Proofs.Ytdlalmbnkcadfaa
open Go.RowKit

def opMap : Array MapEntry := #[{ key := .int .u8 1, val := .agg #[.func (.func 101) #[] #[]], born := 0 }, { key := .int .u8 2, val := .agg #[.func (.func 102) #[] #[]], born := 1 }]
theorem heap_new (w : World) (o : Obj) : (w.alloc o).heap[w.heap.size]? = some o := by show (w.heap.push o)[w.heap.size]? = _; simp
theorem ck8 (e : Bool) (k : Int) (w : World) : (Instr.checkKey e 10000 5 (.int .u8 k)).run Try.prog w = .ok () w := by
  show (Instr.checkKey e (9999 + 1) 5 (.int .u8 k)).run Try.prog w = _
  unfold Instr.checkKey
  simp only [Sem.run_bind, run_underlying Try.underlying5, Result.andThen]
  rfl
theorem gmap {w : World} {r c : Nat} {es : Array MapEntry} (h : w.heap[r]? = some (.map es c)) : (getObj r).run Try.prog w = .ok (.map es c) w := by simp [getObj, Sem.run, h]
theorem smap {w : World} {r c : Nat} {es : Array MapEntry} {o' : Obj} (h : w.heap[r]? = some (.map es c)) : (setObj r o').run Try.prog w = .ok () (w.putObj r o') := by simp [setObj, Sem.run, h, World.putObj]
theorem mu (w : World) (r c : Nat) (es : Array MapEntry) (k : Int) (V : Value) (h : w.heap[r]? = some (.map es c)) (hf : Instr.findNow (.int .u8) (.int .u8 k) es.toList 0 = some none) :
    (Instr.mapUpdate 126 (.map (some r)) (.int .u8 k) V).run Try.prog w = .ok () (w.putObj r (.map (es.push { key := .int .u8 k, val := V, born := c }) (c + 1))) := by
  unfold Instr.mapUpdate Instr.findKey
  simp only [Sem.run_bind, run_underlying Try.underlying126, run_underlying Try.underlying5, Result.andThen, gmap h, ck8, hf, Sem.run_pure, smap h]
theorem Ext.trans2 {a b c : World} (h : Ext a b) (k : Below a.heap.size b c) : Ext a c := Below.trans h k
theorem ext_putObj {w w' : World} {r : Nat} {o : Obj} (h : Ext w w') (hr : w.heap.size ≤ r) : Ext w (w'.putObj r o) :=
  Ext.trans2 h ⟨rfl, rfl, rfl, by simp [World.putObj], fun k hk => by simp only [World.putObj]; rw [Array.getElem?_setIfInBounds_ne (by omega)]⟩
set_option maxRecDepth 100000 in
set_option maxHeartbeats 1000000 in
theorem operations_any (w : World) :
    Calls Try.prog 91 #[] w fun e w' => ∃ r, e = .returned (.map (some r)) ∧ w'.heap[r]? = some (.map opMap 2) ∧ Ext w w' := by
  have hmm := @run_makeMap Try.prog
  have h0 : (w.alloc (.map #[] 0)).heap[w.heap.size]? = some (.map #[] 0) := heap_new w _
  have m1 := mu (w.alloc (.map #[] 0)) w.heap.size 0 #[] 1 (.agg #[.func (.func 101) #[] #[]]) h0 rfl
  obtain ⟨W1, hW1⟩ : ∃ W1, W1 = (w.alloc (.map #[] 0)).putObj w.heap.size (.map (#[].push { key := .int .u8 1, val := .agg #[.func (.func 101) #[] #[]], born := 0 }) (0 + 1)) := ⟨_, rfl⟩
  have h1 : W1.heap[w.heap.size]? = some (.map #[{ key := .int .u8 1, val := .agg #[.func (.func 101) #[] #[]], born := 0 }] 1) := by rw [hW1]; exact World.putObj_heap_same (by simp)
  have m2 := mu W1 w.heap.size 1 _ 2 (.agg #[.func (.func 102) #[] #[]]) h1 rfl
  rw [← hW1] at m1
  obtain ⟨W2, hW2⟩ : ∃ W2, W2 = W1.putObj w.heap.size (.map (#[{ key := .int .u8 1, val := .agg #[.func (.func 101) #[] #[]], born := 0 }].push { key := .int .u8 2, val := .agg #[.func (.func 102) #[] #[]], born := 1 }) (1 + 1)) := ⟨_, rfl⟩
  rw [← hW2] at m2
  have h2 : Hid (W2.heap[w.heap.size]? = some (.map opMap 2)) := by rw [hW2]; exact World.putObj_heap_same (Array.getElem?_eq_some_iff.1 h1).1
  have hE : Hid (Ext w W2) := by rw [hW2, hW1]; exact ext_putObj (ext_putObj ((Ext.refl w).alloc _) (Nat.le_refl _)) (Nat.le_refl _)
  clear hW1 hW2 h0 h1
  go_enter Try.func91, Try.ntmps91
  go_wp2
  go_ret
  exact ⟨_, rfl, h2.out, hE.out⟩

theorem lookup_op (w : World) (r : Nat) (k : Int) (h : w.heap[r]? = some (.map opMap 2)) (V : Value) (is : Bool)
    (hf : Instr.findNow (.int .u8) (.int .u8 k) opMap.toList 0 = some (if is then some (0, V) else none) ∨ Instr.findNow (.int .u8) (.int .u8 k) opMap.toList 0 = some (if is then some (1, V) else none)) (hV : is = false → V = .agg #[.nilFunc]) :
    (Instr.lookup 126 (.map (some r)) (.int .u8 k) true).run Try.prog w = .ok (.tuple #[V, .bool is]) w := by
  have hz : (zeroValue 124).run Try.prog w = .ok (.agg #[.nilFunc]) w := by kernel_rfl
  unfold Instr.lookup Instr.findKey
  cases is with
  | true =>
    rcases hf with hf | hf <;>
    simp only [Sem.run_bind, run_underlying Try.underlying126, run_underlying Try.underlying5, Result.andThen, gmap h, ck8, hf, Sem.run_pure, if_true]
  | false =>
    obtain rfl := hV rfl
    rcases hf with hf | hf <;>
    simp only [Sem.run_bind, run_underlying Try.underlying126, run_underlying Try.underlying5, Result.andThen, gmap h, ck8, hf, Sem.run_pure, hz, Bool.false_eq_true, if_false, if_true]
end Go.Proofs.Ytdlalmbnkcadfaa
/- device: put. -/
namespace Go.Proofs.Ytdlalmbnkcadfaa
open Go.RowKit

/-- A device at work, in the box xb. -/
def LD (w : World) (B xb : Nat) (D : Dk) : Prop := ∃ g c Pv qs, Bk w xb #[.slice (some ⟨g, 0, none⟩) D.bytes.length c, Pv] 84 ∧ OB w g c D.bytes ∧ PO w B [g, xb] Pv qs ∧ qs.map Prod.fst = D.pend ∧ B ≤ g ∧ B ≤ xb ∧ D.bytes.length ≤ c
theorem LD.ext {w w' : World} {B xb : Nat} {D : Dk} (h : LD w B xb D) (e : Ext w w') : LD w' B xb D := by
  obtain ⟨g, c, Pv, qs, h1, h2, h3, h4⟩ := h
  exact ⟨g, c, Pv, qs, h1.ext e, h2.ext e, h3.ext e, h4⟩

/-- A write that is put. -/
def pPutE (D : Dk) (x : Wr) : Int := if okWr (D.bytes.length / 32) x = true then if D.pend.length = 64 then 8 else 0 else 2
def pPutD (D : Dk) (x : Wr) : Dk := if pPutE D x = 0 then { D with pend := D.pend ++ [x] } else D

set_option maxRecDepth 100000 in
set_option maxHeartbeats 2000000 in
theorem put_bad (xb B : Nat) (D : Dk) (kd : Int) (x : Wr) (A : Option Addr) (d : Nat) (w : World) (hL : LD w B xb D) (hsm : Small D) (hxs : x.bs.length ≤ 100000) (hbad : okWr (D.bytes.length / 32) x = false) :
    Calls Try.prog 101 #[.pointer (some ⟨xb, 0, none⟩), .agg #[.int .u8 kd, .int .i64 x.blk, .slice A x.bs.length d]] w fun e w' => e = .returned (.int .i64 2) ∧ Ext w w' := by
  have hs1 := hsm.1
  have Hbad := Lib.hid hbad
  obtain ⟨g, c, Pv, qs, jx, hO, hPO, hqs, hBg, hBx, hc⟩ := hL
  obtain ⟨PA, pc, rfl, hpc⟩ := hPO.form
  have Hqs := Lib.hid hqs
  have hql : qs.length = D.pend.length := by rw [← hqs]; simp
  have Hql := Lib.hid hql
  have hxl : xb < w.heap.size := jx.lt
  clear hqs hql
  go_enter Try.func101, Try.ntmps101
  go_wp2_with fail
  obtain ⟨W, hW, hE, hz, k0, k1⟩ := box2 w #[.int .u8 kd, .int .i64 x.blk, .slice A x.bs.length d] #[.int .i64 x.blk, .slice A x.bs.length d] 70 49
  rw [hW]; clear hW
  have hS := Lib.hid (fun w' (h : Ext W w') => (⟨h, (jx.ext (hE.trans h)).cell 0, (jx.ext (hE.trans h)).cell 1, (k1.ext h).cell 0, (k1.ext h).cell 1⟩ : Ext W w' ∧ w'.cell? ⟨xb, 0, none⟩ = some (.slice (some ⟨g, 0, none⟩) D.bytes.length c) ∧ w'.cell? ⟨xb, 1, none⟩ = some (.slice PA qs.length pc) ∧ w'.cell? ⟨w.heap.size + 1, 0, none⟩ = some (.int .i64 x.blk) ∧ w'.cell? ⟨w.heap.size + 1, 1, none⟩ = some (.slice A x.bs.length d)))
  clear hbad
  refine wp_region_rel 7 (by kernel_rfl) (by kernel_rfl) (Ext.refl W).drew ?_
  repeat (apply relW_fix
          · intro vs w' hw hf
            have hc := hS.out w' hw
            unfold okAt
            go_simp
            first | exact ⟨rfl, Ext.refl _⟩ | exact rfl
          · intro vs; go_simp; rfl)
  (apply relW_fix
   · intro vs w' hw hf
     have hc := hS.out w' hw
     skip
     unfold okAt
     go_simp
     refine ⟨Ext.refl _, ?_⟩
     go_at_call 82
     refine (isWrite_any (some ⟨g, 0, none⟩) PA A D.bytes.length c qs.length pc d x _ (by omega) (by omega)).mono ?_; rintro e w2 ⟨rfl, hb⟩; rw [Hbad.out]; exact ⟨_, rfl, rfl, hb⟩
   · intro vs; go_simp; rfl)
  repeat (apply relW_fix
          · intro vs w' hw hf
            have hc := hS.out w' hw
            unfold okAt
            go_simp
            first | exact ⟨rfl, Ext.refl _⟩ | exact rfl
          · intro vs; go_simp; rfl)
  refine relW_nil fun vs w' hw hf => ?_
  refine wpList_nil ?_
  go_wp2
  go_ret
  exact ⟨rfl, hE.trans hw⟩

set_option maxRecDepth 100000 in
set_option maxHeartbeats 2000000 in
theorem put_full (xb B : Nat) (D : Dk) (kd : Int) (x : Wr) (A : Option Addr) (d : Nat) (w : World) (hL : LD w B xb D) (hsm : Small D) (hxs : x.bs.length ≤ 100000) (hok : okWr (D.bytes.length / 32) x = true) (hfull : D.pend.length = 64) :
    Calls Try.prog 101 #[.pointer (some ⟨xb, 0, none⟩), .agg #[.int .u8 kd, .int .i64 x.blk, .slice A x.bs.length d]] w fun e w' => e = .returned (.int .i64 8) ∧ Ext w w' := by
  have hs1 := hsm.1
  have Hok := Lib.hid hok
  have Hfull := Lib.hid hfull
  clear hok hfull
  obtain ⟨g, c, Pv, qs, jx, hO, hPO, hqs, hBg, hBx, hc⟩ := hL
  obtain ⟨PA, pc, rfl, hpc⟩ := hPO.form
  have Hqs := Lib.hid hqs
  have hql : qs.length = D.pend.length := by rw [← hqs]; simp
  have Hql := Lib.hid hql
  have hxl : xb < w.heap.size := jx.lt
  clear hqs hql
  go_enter Try.func101, Try.ntmps101
  go_wp2_with fail
  obtain ⟨W, hW, hE, hz, k0, k1⟩ := box2 w #[.int .u8 kd, .int .i64 x.blk, .slice A x.bs.length d] #[.int .i64 x.blk, .slice A x.bs.length d] 70 49
  rw [hW]; clear hW
  have hS := Lib.hid (fun w' (h : Ext W w') => (⟨h, (jx.ext (hE.trans h)).cell 0, (jx.ext (hE.trans h)).cell 1, (k1.ext h).cell 0, (k1.ext h).cell 1⟩ : Ext W w' ∧ w'.cell? ⟨xb, 0, none⟩ = some (.slice (some ⟨g, 0, none⟩) D.bytes.length c) ∧ w'.cell? ⟨xb, 1, none⟩ = some (.slice PA qs.length pc) ∧ w'.cell? ⟨w.heap.size + 1, 0, none⟩ = some (.int .i64 x.blk) ∧ w'.cell? ⟨w.heap.size + 1, 1, none⟩ = some (.slice A x.bs.length d)))
  have hq64 : ((qs.length : Int) == 64) = true := by rw [beq_iff_eq]; have := Hql.out; have := Hfull.out; omega
  refine wp_region_rel 7 (by kernel_rfl) (by kernel_rfl) (Ext.refl W).drew ?_
  repeat (apply relW_fix
          · intro vs w' hw hf
            have hc := hS.out w' hw
            unfold okAt
            go_simp
            first | exact ⟨rfl, Ext.refl _⟩ | exact rfl
          · intro vs; go_simp; rfl)
  (apply relW_fix
   · intro vs w' hw hf
     have hc := hS.out w' hw
     skip
     unfold okAt
     go_simp
     refine ⟨Ext.refl _, ?_⟩
     go_at_call 82
     refine (isWrite_any (some ⟨g, 0, none⟩) PA A D.bytes.length c qs.length pc d x _ (by omega) (by omega)).mono ?_; rintro e w2 ⟨rfl, hb⟩; rw [Hok.out]; exact ⟨_, rfl, rfl, hb⟩
   · intro vs; go_simp; rfl)
  repeat (apply relW_fix
          · intro vs w' hw hf
            have hc := hS.out w' hw
            unfold okAt
            go_simp
            first | exact ⟨rfl, Ext.refl _⟩ | exact rfl
          · intro vs; go_simp; rfl)
  refine relW_nil fun vs w1 hw1 hf => ?_
  refine wpList_nil ?_
  have hc1 := hS.out w1 hw1
  go_wp2
  go_ret
  exact ⟨rfl, hE.trans hw1⟩

set_option maxRecDepth 100000 in
set_option maxHeartbeats 2000000 in
theorem put_ok (xb B : Nat) (D : Dk) (kd : Int) (x : Wr) (A : Option Addr) (d : Nat) (w : World) (hL : LD w B xb D) (hB : B ≤ w.heap.size) (hA : By w A x.bs) (hsm : Small D) (hxs : x.bs.length ≤ 100000) (hok : okWr (D.bytes.length / 32) x = true) (hfull : D.pend.length < 64) :
    Calls Try.prog 101 #[.pointer (some ⟨xb, 0, none⟩), .agg #[.int .u8 kd, .int .i64 x.blk, .slice A x.bs.length d]] w fun e w' =>
      e = .returned (.int .i64 0) ∧ LD w' B xb { D with pend := D.pend ++ [x] } ∧ Below B w w' := by
  have hs1 := hsm.1
  have Hok := Lib.hid hok
  have HA := Lib.hid hA
  clear hok hA
  obtain ⟨g, c, Pv, qs, jx, hO, hPO, hqs, hBg, hBx, hc⟩ := hL
  obtain ⟨PA, pc, rfl, hpc⟩ := hPO.form
  have Hqs := Lib.hid hqs
  have hql : qs.length = D.pend.length := by rw [← hqs]; simp
  have Hql := Lib.hid hql
  have hxl : xb < w.heap.size := jx.lt
  clear hqs hql
  go_enter Try.func101, Try.ntmps101
  go_wp2_with fail
  obtain ⟨W, hW, hE, hz, k0, k1⟩ := box2 w #[.int .u8 kd, .int .i64 x.blk, .slice A x.bs.length d] #[.int .i64 x.blk, .slice A x.bs.length d] 70 49
  rw [hW]; clear hW
  have hS := Lib.hid (fun w' (h : Ext W w') => (⟨h, (jx.ext (hE.trans h)).cell 0, (jx.ext (hE.trans h)).cell 1, (k1.ext h).cell 0, (k1.ext h).cell 1⟩ : Ext W w' ∧ w'.cell? ⟨xb, 0, none⟩ = some (.slice (some ⟨g, 0, none⟩) D.bytes.length c) ∧ w'.cell? ⟨xb, 1, none⟩ = some (.slice PA qs.length pc) ∧ w'.cell? ⟨w.heap.size + 1, 0, none⟩ = some (.int .i64 x.blk) ∧ w'.cell? ⟨w.heap.size + 1, 1, none⟩ = some (.slice A x.bs.length d)))
  have hq64 : ((qs.length : Int) == 64) = false := by rw [beq_eq_false_iff_ne]; have := Hql.out; omega
  refine wp_region_rel 7 (by kernel_rfl) (by kernel_rfl) (Ext.refl W).drew ?_
  repeat (apply relW_fix
          · intro vs w' hw hf
            have hc := hS.out w' hw
            unfold okAt
            go_simp
            first | exact ⟨rfl, Ext.refl _⟩ | exact rfl
          · intro vs; go_simp; rfl)
  (apply relW_fix
   · intro vs w' hw hf
     have hc := hS.out w' hw
     skip
     unfold okAt
     go_simp
     refine ⟨Ext.refl _, ?_⟩
     go_at_call 82
     refine (isWrite_any (some ⟨g, 0, none⟩) PA A D.bytes.length c qs.length pc d x _ (by omega) (by omega)).mono ?_; rintro e w2 ⟨rfl, hb⟩; rw [Hok.out]; exact ⟨_, rfl, rfl, hb⟩
   · intro vs; go_simp; rfl)
  repeat (apply relW_fix
          · intro vs w' hw hf
            have hc := hS.out w' hw
            unfold okAt
            go_simp
            first | exact ⟨rfl, Ext.refl _⟩ | exact rfl
          · intro vs; go_simp; rfl)
  refine relW_nil fun vs w1 hw1 hf => ?_
  refine wpList_nil ?_
  have hc1 := hS.out w1 hw1
  go_wp2
  have hS2 := Lib.hid (fun w' (h : Ext w1 w') => (⟨h, ((hS.out w' (hw1.trans h))).2⟩ : Ext w1 w' ∧ w'.cell? ⟨xb, 0, none⟩ = some (.slice (some ⟨g, 0, none⟩) D.bytes.length c) ∧ w'.cell? ⟨xb, 1, none⟩ = some (.slice PA qs.length pc) ∧ w'.cell? ⟨w.heap.size + 1, 0, none⟩ = some (.int .i64 x.blk) ∧ w'.cell? ⟨w.heap.size + 1, 1, none⟩ = some (.slice A x.bs.length d)))
  clear hc1 hS
  have hS := hS2
  clear hS2
  refine wp_region_rell 9 (by kernel_rfl) (by kernel_rfl) (fun _ _ _ _ _ h => h) (Ext.refl w1).drew ?_
  repeat (apply relW_fix
          · intro vs w' hw hf
            have hc := hS.out w' hw
            unfold okAt
            go_simp
            first | exact ⟨rfl, Ext.refl _⟩ | exact rfl
          · intro vs; go_simp; rfl)
  (apply relW_any (SV.wr w1.heap.size x)
   · intro vs w' hw hf
     have hc := hS.out w' hw
     skip
     unfold okAt
     go_simp
     refine ⟨Ext.refl _, ?_⟩; go_at_call 83; refine (own_any A d x _ (HA.out.ext ((hE.trans hw1).trans hw)) hxs).mono ?_; rintro e w5 ⟨v, rfl, ⟨A5, c5, h1, h2, h3, h4⟩, h5⟩; exact ⟨_, rfl, ⟨A5, c5, h1, h2, h3, fun a ha => (by have := hw.size; have := h4 a ha; exact ⟨by omega, this.2⟩)⟩, h5⟩
   · intro vs; go_simp; rfl)
  (apply relW_any (SV.box w1.heap.size x)
   · intro vs w' hw hf
     have hc := hS.out w' hw
     obtain ⟨A5, c5, e5, q1, q2, q3⟩ := hf.out.1 (by kernel_rfl)
     unfold okAt
     go_simp
     exact ⟨⟨_, A5, c5, rfl, Bk.new _ _ _, q1, q2.ext ((Ext.refl _).alloc _), fun a ha => (by have := q3 a ha; exact ⟨this.1, by simp; omega⟩)⟩, (Ext.refl _).alloc _⟩
   · intro vs; go_simp; rfl)
  refine relW_nil fun vs2 w6 hw hf2 => ?_
  obtain ⟨⟨b5, A5, c5, e5, kb, l1, l2, l3⟩, _⟩ := hf2
  have hE6 : Ext w w6 := (hE.trans hw1).trans hw
  have hw1s : w.heap.size ≤ w1.heap.size := (hE.trans hw1).size
  have jo6 := jx.ext hE6
  have hPO6 := hPO.ext hE6
  obtain ⟨i0, hi0, hz0, hz1, hz2⟩ := info_parts info_bw
  have Hkb := Lib.hid kb
  have hB6 : B ≤ w6.heap.size := by have := hE6.size; omega
  clear kb
  refine wpList_append_lies (P := Try.prog) w6 rfl (.tmp 31) (.tmp 34) 23 rfl B 49 i0 _ 2 32 Try.underlying23 hi0 hz0 hz1 hz2 (by rfl) (by omega) (.slice PA qs.length pc) qs.length (rcells qs) (by rfl) hPO6.own ⟨b5, 0, none⟩ 1 1 [.int .i64 x.blk, .slice A5 x.bs.length c5] ?_ (by rfl) ?_ ?_ (by omega) ?_ ?_ hB6 w6.heap.size rfl ?_
  · exact e5
  · exact World.news_of_block (cs := #[.int .i64 x.blk, .slice A5 x.bs.length c5]) Hkb.out
  · intro u hu; simp at hu; rcases hu with rfl | rfl <;> rfl
  · have := Hql.out; simp only [maxLen]; omega
  · have := Hql.out; omega
  · intro g' cap w7 hown hgrow hat hlt7
    have hgl : g < w.heap.size := hO.lt
    have hoff : ∀ a, A5 = some a → B ≤ a.block ∧ a.block < w6.heap.size ∧ (∀ y ∈ [g, xb], a.block ≠ y) ∧ some a.block ≠ (Value.slice PA qs.length pc).ownBlock := by
      intro a ha
      have h1 := l3 a ha
      refine ⟨by omega, h1.2, fun y hy => ?_, fun h => ?_⟩
      · simp only [List.mem_cons, List.not_mem_nil, or_false] at hy
        omega
      · have := (hPO.own.lt a.block h.symm).2
        omega
    have hPO7 := Lib.hid (hPO6.push (q := (x, A5, c5)) hown hgrow hat l1 l2 hoff)
    have no1 : (84 : Nat) ≠ 49 := by decide
    have no2 : (5 : Nat) ≠ 49 := by decide
    have jo7 := jo6.grown hgrow (jo6.not_own hPO6.own no1)
    have hOB7 : Hid (OB w7 g c D.bytes) := by
      obtain ⟨more, hm, hb⟩ := hO.ext hE6
      exact ⟨more, hm, hb.grown hgrow (hb.not_own hPO6.own no2)⟩
    have hE7 : Hid (Below B w w7) := Below.grown (Below.mono hE6 hB) hgrow hB6 (fun y hy => (hPO6.own.lt y hy).1)
    have o0 := jo7.cell 0
    have o1 := jo7.cell 1
    have f1 := jo7.frozen 1
    simp at o0 o1
    have Hjo := Lib.hid jo7
    have hne : Hid (g ≠ xb) := by obtain ⟨m, _, h⟩ := hO; exact Bk.ne h jx (by decide)
    clear jo7 hown hgrow hat hoff l3 l2 jo6 hPO6 k0 k1 jx hS hPO hE6 hw hO hE hw1 hf
    go_wp2
    go_ret
    refine ⟨rfl, ⟨g, c, _, qs ++ [(x, A5, c5)], Hjo.out.set 1 _, hOB7.out.far hne.out _, ?_, ?_, hBg, hBx, hc⟩, hE7.out.setCell (by exact hBx) _⟩
    · exact hPO7.out.far (by simp) (Hjo.out.not_own hPO7.out.own no1) _
    · rw [List.map_append, Hqs.out]; rfl
end Go.Proofs.Ytdlalmbnkcadfaa
