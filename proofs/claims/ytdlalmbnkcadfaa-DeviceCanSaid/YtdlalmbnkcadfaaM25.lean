/- law: awake: its calls' contracts at its own inputs. -/
import Derived.Test.YtdlalmbnkcadfaaM24
import Derived.Outline
import Derived.ProofKit
import Derived.OpenShut
import Derived.Test.YtdlalmbnkcadfaaRows
import Derived.WalkKit
namespace Go.Proofs.Ytdlalmbnkcadfaa
open Go.RowKit

/-- A device's value of n bytes and m writes, read. -/
def Dv (w : World) (A : Option Addr) (c : Nat) (P : Option Addr) (p : Nat) (D : Dk) (n m : Nat) : Prop := n ≤ c ∧ By w A D.bytes ∧ m ≤ p ∧ Ws w P D.pend
theorem Dv.ext {w w' : World} {A P : Option Addr} {c p n m : Nat} {D : Dk} (h : Dv w A c P p D n m) (e : Ext w w') : Dv w' A c P p D n m := ⟨h.1, h.2.1.ext e, h.2.2.1, h.2.2.2.ext e⟩
def AwD (w : World) (D : Dk) (n m : Nat) (e : Ending) (w' : World) : Prop := ∃ A c P p, e = .returned (.tuple #[.agg #[.slice A n c, .slice P m p], .int .i64 0]) ∧ Ext w w' ∧ Hid (Dv w' A c P p D n m)
theorem RetV.aw {w w' : World} {er : Int} {D : Dk} {e : Ending} {n m : Nat} (h : RetV w er D e w') (h0 : er = 0) (hn : D.bytes.length = n) (hm : D.pend.length = m) : AwD w D n m e w' := by
  subst h0 hn hm
  obtain ⟨v, h1, h2, A, c, P, p, rfl, h3, h4, h5, h6⟩ := h
  exact ⟨A, c, P, p, h1, h2, h3, h4, h5, h6⟩
theorem small_of {D : Dk} (h1 : D.bytes.length ≤ 100000) (h2 : D.pend.length ≤ 100000) (h3 : D.pend.all (fun x => decide (x.bs.length ≤ 100000)) = true) : Small D := ⟨h1, h2, fun x hx => of_decide_eq_true (List.all_eq_true.1 h3 x hx)⟩
theorem sm0 : Small awD0 := small_of (by decide +kernel) (by decide +kernel) (by decide +kernel)
theorem sma : Small awDa := small_of (by decide +kernel) (by decide +kernel) (by decide +kernel)
theorem smb : Small awDb := small_of (by decide +kernel) (by decide +kernel) (by decide +kernel)
theorem aw16 (w : World) : Calls Try.prog 16 #[.int .i64 1] w (AwD w awD0 32 0) :=
  (new_any 1 w).mono fun e w' h => by
    have := h.retV
    rw [aw_new.1, aw_new.2] at this
    exact this.aw rfl rfl rfl
/-- Copy, at a device of n bytes and m writes. -/
theorem aw26 (D : Dk) (n m : Nat) (A P : Option Addr) (c p : Nat) (w : World) (h : Dv w A c P p D n m) (hs : Small D) (hn : D.bytes.length = n) (hm : D.pend.length = m) :
    Calls Try.prog 26 #[.agg #[.slice A n c, .slice P m p]] w fun e w' => ∃ A' c' P' p', e = .returned (.agg #[.slice A' n c', .slice P' m p']) ∧ Ext w w' ∧ Hid (Dv w' A' c' P' p' D n m) := by
  subst hn hm
  refine (copy_any A P c p D w h.2.1 h.2.2.2 hs).mono ?_
  rintro e w' ⟨v, rfl, h1, h2⟩
  obtain ⟨A', c', P', p', rfl, h3, h4, h5, h6⟩ := h1.dkv
  exact ⟨A', c', P', p', rfl, h2, h3, h4, h5, h6⟩
theorem aw54 (n : Nat) (b : UInt8) (w : World) (hn : n ≤ 100000) (vn vb : Int) (en : vn = n) (eb : vb = (b.toNat : Int)) :
    Calls Try.prog 54 #[.int .i64 vn, .int .u8 vb] w fun e w' => ∃ A, e = .returned (.slice A n n) ∧ Ext w w' ∧ Hid (By w' A (List.replicate n b)) := by
  subst en eb
  refine (bytes_any n b w hn).mono ?_
  rintro e w' ⟨g, rfl, h1, h2, _⟩
  exact ⟨_, rfl, h2, h1.by⟩
theorem aw32 (D E : Dk) (b : UInt8) (m m' : Nat) (A P B : Option Addr) (c p : Nat) (w : World) (h : Dv w A c P p D 32 m) (hB : By w B (List.replicate 32 b)) (hs : Small D) (hn : D.bytes.length = 32) (hm : D.pend.length = m) (hp : pPut D ⟨0, List.replicate 32 b⟩ = 0) (hq : pDoD D 1 ⟨0, List.replicate 32 b⟩ = E)
    (hn' : E.bytes.length = 32) (hm' : E.pend.length = m') :
    Calls Try.prog 32 #[.agg #[.slice A 32 c, .slice P m p], .agg #[.int .i64 0, .slice B 32 32]] w (AwD w E 32 m') := by
  have h' := putF_any A P B c p 32 D ⟨0, List.replicate 32 b⟩ w h.2.1 h.2.2.2 hB hs (by simp)
  simp only [List.length_replicate] at h'
  rw [hn, hm] at h'
  refine h'.mono fun e w' hr => ?_
  have := hr.retV
  rw [hp, hq] at this
  exact this.aw rfl hn' hm'
theorem aw27 (D E : Dk) (F : Ft) (k m : Nat) (A P O Q : Option Addr) (c p o q : Nat) (w : World) (h : Dv w A c P p D 32 m) (hO : Is w O F.order) (hQ : Is w Q F.part) (hk : F.order.length = k) (hk2 : F.part.length = k) (hk3 : k ≤ 10) (hs : Small D) (hn : D.bytes.length = 32) (hm : D.pend.length = m) (hp : pCrash D F = 0) (hq : pCrashD D F = E)
    (hn' : E.bytes.length = 32) (hm' : E.pend.length = 0) :
    Calls Try.prog 27 #[.agg #[.slice A 32 c, .slice P m p], .agg #[.slice O k o, .slice Q k q]] w (AwD w E 32 0) := by
  have h' := crashF_any A P O Q c p o q D F w h.2.1 h.2.2.2 hO hQ hs ⟨by omega, by omega⟩
  rw [hn, hm, hk, hk2] at h'
  refine h'.mono fun e w' hr => ?_
  have := hr.retV
  rw [hp, hq] at this
  exact this.aw rfl hn' hm'
theorem aw29 (D : Dk) (b : BL) (r : Bool) (m d : Nat) (A P B : Option Addr) (c p : Nat) (w : World) (h : Dv w A c P p D 32 m) (hB : By w B b) (hb : b.length = 32) (hd : 32 ≤ d) (hs : Small D) (hn : D.bytes.length = 32) (hm : D.pend.length = m) (hp : pPossE D b = 0) (hq : pPossR D b = r) :
    Calls Try.prog 29 #[.agg #[.slice A 32 c, .slice P m p], .slice B 32 d] w fun e w' => e = .returned (.tuple #[.bool r, .int .i64 0]) ∧ Ext w w' := by
  have h' := possF_any A P B c p d D b w h.2.1 h.2.2.2 hB hs (by omega) (by omega)
  rw [hn, hm, hb] at h'
  refine h'.mono fun e w' hr => ?_
  obtain ⟨h1, h2⟩ := hr
  rw [hp, hq] at h1
  exact ⟨h1, h2⟩
theorem FO.ftv {w : World} {B : Nat} {v : Value} {o p : List Nat} (h : FO w B v o p) : FtV w v ⟨o.map fun n : Nat => (n : Int), p.map fun n : Nat => (n : Int)⟩ := by
  obtain ⟨Ov, Pv, rfl, h1, h2, _⟩ := h
  have e : ∀ xs : List Nat, ncells xs = icells (xs.map fun n : Nat => (n : Int)) := fun xs => by simp [List.map_map, Function.comp_def]
  unfold RI at h1 h2
  rw [e] at h1 h2
  obtain ⟨A, c, rfl, a1, a2⟩ := is_of_own h1 (by simp)
  obtain ⟨P, d, rfl, b1, b2⟩ := is_of_own h2 (by simp)
  exact ⟨A, c, P, d, by simp, by simpa using a1, a2, by simpa using b1, b2⟩
theorem aw22 (O Q : Option Addr) (o q : Nat) (w : World) (hO : Is w O awF3.order) (hQ : Is w Q awF3.part) :
    Calls Try.prog 22 #[.agg #[.slice O 2 o, .slice Q 1 q], .int .i64 3] w fun e w' => ∃ A c P p, e = .returned (.tuple #[.agg #[.slice A 3 c, .slice P 3 p], .int .i64 0]) ∧ Ext w w' ∧ Hid (Is w' A awFt.order ∧ Is w' P awFt.part) := by
  refine (fitF_any O Q o q 3 awF3 w hO hQ).mono ?_
  rintro e w' ⟨v, h1, h2, h3, _⟩
  obtain ⟨A, c, P, p, rfl, k1, k2, k3, k4⟩ := (h3 aw_fit.1).ftv
  rw [show pFitO awF3 (3 : Int).toNat = [1, 2, 0] from aw_fit.2.1] at k2 h1
  rw [show pFitP awF3 (3 : Int).toNat = [7, 32, 32] from aw_fit.2.2] at k4 h1
  rw [aw_fit.1] at h1
  exact ⟨A, c, P, p, h1, h2, k2, k4⟩
theorem aw24 (A P B Q : Option Addr) (c p d q : Nat) (w : World) (h : Is w A awFt.order ∧ Is w P awFt.part) (hB : Is w B awFt.order) (hQ : Is w Q awFt.part) :
    Calls Try.prog 24 #[.agg #[.slice A 3 c, .slice P 3 p], .agg #[.slice B 3 d, .slice Q 3 q]] w fun e w' => e = .returned (.bool true) ∧ Ext w w' := by
  have h' := sameFate_any A P B Q c p d q awFt awFt w h.1 h.2 hB hQ ⟨by decide, by decide, by decide, by decide⟩
  refine h'.mono ?_
  rintro e w' ⟨rfl, h⟩
  exact ⟨by simp, h⟩
end Go.Proofs.Ytdlalmbnkcadfaa
/- law: awake. -/
namespace Go.Proofs.Ytdlalmbnkcadfaa
open Go.RowKit

theorem Bk.is {w : World} {g : Nat} {xs : List Int} {t : TypeId} (h : Bk w g (icells xs).toArray t) : Is w (some ⟨g, 0, none⟩) xs := fun j v hj => ⟨g, 0, rfl, by rw [h.cell, Nat.zero_add]; simpa using hj⟩
theorem ints2 (w : World) (xs ys : List Int) : ∃ W, (w.alloc (.cells (icells xs).toArray 3)).alloc (.cells (icells ys).toArray 3) = W ∧ Ext w W ∧ Hid (Is W (some ⟨w.heap.size, 0, none⟩) xs ∧ Is W (some ⟨w.heap.size + 1, 0, none⟩) ys) := by
  obtain ⟨W, h1, h2, _, h3, h4⟩ := box2 w (icells xs).toArray (icells ys).toArray 3 3
  exact ⟨W, h1, h2, h3.is, h4.is⟩
theorem By.cellAt {w : World} {A : Option Addr} {bs : BL} (h : By w A bs) (hne : bs ≠ []) : ∃ b o, A = some ⟨b, o, none⟩ ∧ ∀ (i : Nat) (x : UInt8), bs[i]? = some x → w.cell? ⟨b, o + i, none⟩ = some (.int .u8 (x.toNat : Int)) := by
  obtain ⟨b, o, e, _⟩ := h.at (j := 0) (List.length_pos_iff.2 hne)
  refine ⟨b, o, e, fun i x hi => ?_⟩
  obtain ⟨b', o', e', hc⟩ := h i (.int .u8 (x.toNat : Int)) (by simp [bcells, hi])
  rw [e] at e'
  simp only [Option.some.injEq, Addr.mk.injEq, and_true] at e'
  obtain ⟨rfl, rfl⟩ := e'
  exact hc
theorem wpList_appG {w : World} {ops : Array Oper} {rest : List Oper} {o : Oper} {a : Act} {Q : Exit → Act → World → Prop} (hg : o.guard = none) (s x : Operand)
    (ho : o.op = .call { callee := .builtin .append, args := #[s, x], argTypes := #[22, 22] }) (A0 : Option Addr) (n m c : Nat) (A : Option Addr) (xs ys : BL) (hs : a.eval s = .slice A0 n n) (hx : a.eval x = .slice A m c) (hn : n = xs.length) (hm : m = ys.length) (hX : By w A0 xs) (hY : By w A ys) (h0 : 0 < n) (hpos : 0 < m) (hl : n + m ≤ 100000)
    (h : ∀ A' c' w', Ext w w' → n + m ≤ c' → By w' A' (xs ++ ys) → wpList Try.prog ops Q rest (a.put o.dst (.slice A' (n + m) c')) w') : wpList Try.prog ops Q (o :: rest) a w := by
  obtain ⟨i0, hi0, hz0, hz1, hz2⟩ := info_parts info_u8
  obtain ⟨b, bo, rfl, _⟩ := hX.at (j := 0) (by omega)
  obtain ⟨ab, ao, rfl, _⟩ := hY.at (j := 0) (by omega)
  obtain ⟨v', w', h1, h2, h3⟩ := run_append_arg_grows (P := Try.prog) w 22 o.type 5 i0 (.int .u8 0) 1 1 Try.underlying22 hi0 hz0 hz1 hz2 rfl (by omega) ⟨b, bo, none⟩ n n (bcells xs) (by simp; omega)
    (fun j u hj => by
      obtain ⟨b', o', e', hc⟩ := hX j u hj
      simp only [Option.some.injEq, Addr.mk.injEq, and_true] at e'
      obtain ⟨rfl, rfl⟩ := e'
      rw [show (Addr.add ⟨b, bo, none⟩ j) = ⟨b, bo + j, none⟩ from by unfold Addr.add; split <;> simp_all]
      exact hc) ⟨ab, ao, none⟩ m c (bcells ys) (by simp; omega)
    (fun j u hj => by
      obtain ⟨b', o', e', hc⟩ := hY j u hj
      simp only [Option.some.injEq, Addr.mk.injEq, and_true] at e'
      obtain ⟨rfl, rfl⟩ := e'
      rw [show (Addr.add ⟨ab, ao, none⟩ j) = ⟨ab, ao + j, none⟩ from by unfold Addr.add; split <;> simp_all]
      exact hc) (by omega) (by simp only [maxLen]; omega) (by omega)
  have hbc : bcells xs ++ bcells ys = bcells (xs ++ ys) := by simp [bcells]
  rw [hbc] at h2
  rcases h2.2 with ⟨hv, h0'⟩ | ⟨g, cap, cur, hv, hr⟩
  · omega
  · subst hv
    obtain ⟨hob, hB, hn', _⟩ := ob_of_own h2
    exact wpList_app hg s x 22 ho _ _ _ hs hx h1 (h _ _ _ ⟨h3.os, h3.tape, h3.output, h3.size, fun k hk => h3.block k hk (by simp)⟩ hn' hob.by)
theorem Bk.by {w : World} {g : Nat} {xs : BL} {t : TypeId} (h : Bk w g (bcells xs).toArray t) : By w (some ⟨g, 0, none⟩) xs := fun j v hj => ⟨g, 0, rfl, by rw [h.cell, Nat.zero_add]; simpa using hj⟩
def SV.dv (D : Dk) (n m : Nat) : SV := ⟨fun v w => ∃ A c P p, v = .agg #[.slice A n c, .slice P m p] ∧ Hid (Dv w A c P p D n m), fun ⟨A, c, P, p, h1, h2⟩ e => ⟨A, c, P, p, h1, Dv.ext h2 e⟩⟩
set_option maxRecDepth 100000 in
set_option maxHeartbeats 20000000 in
theorem awake_any (w : World) : Calls Try.prog 19 #[] w fun e w' => e = .returned (.bool true) ∧ Ext w w' := by
  go_enter Try.func19, Try.ntmps19
  go_wp2_with fail
  refine (aw16 w).mono ?_
  rintro e w1 ⟨A1, c1, P1, p1, rfl, hE1, h1⟩
  go_wp2_with fail
  obtain ⟨V1, hV1, hE2, hz1, b1⟩ := box1 w1 #[.slice A1 32 c1, .slice P1 0 p1] 25
  rw [hV1]; clear hV1
  refine (aw26 awD0 32 0 A1 P1 c1 p1 V1 (h1.out.ext hE2) sm0 rfl rfl).mono ?_
  rintro e w2 ⟨A2, c2, P2, p2, rfl, hE3, h2⟩
  go_wp2_with fail
  refine (aw54 32 1 w2 (by omega) _ _ rfl rfl).mono ?_
  rintro e w3 ⟨B3, rfl, hE4, h3⟩
  go_wp2_with fail
  refine (aw32 awD0 awDa 1 0 1 A2 P2 B3 c2 p2 w3 (h2.out.ext hE4) h3.out sm0 rfl rfl aw_put1.1 aw_put1.2 rfl rfl).mono ?_
  rintro e w4 ⟨A4, c4, P4, p4, rfl, hE5, h4⟩
  go_wp2_with fail
  obtain ⟨V4, hV4, hE6, hz4, b4⟩ := box1 w4 #[.slice A4 32 c4, .slice P4 1 p4] 25
  rw [hV4]; clear hV4
  have d40 := b4.cell 0
  have d41 := b4.cell 1
  simp at d40 d41
  have HE4 : Hid (Ext w V4) := ((((hE1.trans hE2).trans hE3).trans hE4).trans hE5).trans hE6
  have H4 := Lib.hid (h4.out.ext hE6)
  clear hE1 hE2 hE3 hE4 hE5 hE6 h1 h2 h3 h4 b1
  refine (aw26 awDa 32 1 A4 P4 c4 p4 V4 H4.out sma rfl rfl).mono ?_
  rintro e w5 ⟨A5, c5, P5, p5, rfl, hE5, h5⟩
  go_wp2_with fail
  obtain ⟨W5, hW5, hE6, h5f⟩ := ints2 w5 [0] [3]
  simp only [icells, List.map_cons, List.map_nil] at hW5
  rw [hW5]; clear hW5
  refine (aw27 awDa awDc awF1 1 1 A5 P5 _ _ c5 p5 1 1 W5 (h5.out.ext hE6) h5f.out.1 h5f.out.2 rfl rfl (by omega) sma rfl rfl aw_crash1.1 aw_crash1.2 rfl rfl).mono ?_
  rintro e w6 ⟨A6, c6, P6, p6, rfl, hE7, h6⟩
  have HE6 : Hid (Ext w w6) := ((HE4.out.trans hE5).trans hE6).trans hE7
  have B6 := (((b4.ext hE5).ext hE6).ext hE7).alloc (.cells #[.slice A6 32 c6, .slice P6 0 p6] 25)
  have H46 := Lib.hid (((H4.out.ext hE5).ext hE6).ext hE7)
  clear hE5 hE6 hE7 h5 h5f d40 d41 b4 H4
  have d40 := B6.cell 0
  have d41 := B6.cell 1
  simp at d40 d41
  go_wp2_with fail
  obtain ⟨V6, hV6, hE8, hz6, b6⟩ := box1 w6 #[.slice A6 32 c6, .slice P6 0 p6] 25
  rw [hV6] at B6 ⊢
  clear hV6 d40 d41
  refine (aw26 awDa 32 1 A4 P4 c4 p4 V6 (H46.out.ext hE8) sma rfl rfl).mono ?_
  rintro e w7 ⟨A7, c7, P7, p7, rfl, hE9, h7⟩
  go_wp2_with fail
  refine (aw54 32 2 w7 (by omega) _ _ rfl rfl).mono ?_
  rintro e w8 ⟨B8, rfl, hE10, h8⟩
  go_wp2_with fail
  refine (aw32 awDa awDb 2 1 2 A7 P7 B8 c7 p7 w8 (h7.out.ext hE10) h8.out sma rfl rfl aw_put2.1 aw_put2.2 rfl rfl).mono ?_
  rintro e w9 ⟨A9, c9, P9, p9, rfl, hE11, h9⟩
  have hX := ((hE8.trans hE9).trans hE10).trans hE11
  have HE9 : Hid (Ext w w9) := HE6.out.trans hX
  have H69 := Lib.hid (h6.out.ext hX)
  have b69 := (b6.ext ((hE9.trans hE10).trans hE11))
  obtain ⟨V9, hV9, hE12, hz9, b9⟩ := box1 w9 #[.slice A9 32 c9, .slice P9 2 p9] 25
  have b99 := b69.ext hE12
  have e0 := b99.cell 0
  have e1 := b99.cell 1
  simp at e0 e1
  obtain ⟨cb, co, rfl, hcc⟩ := (H69.out.ext hE12).2.1.cellAt (by decide)
  have e2 := hcc 2 1 (by decide)
  have e3 := hcc 3 0 (by decide)
  simp at e2 e3
  have HE10 := Lib.hid (HE9.out.trans hE12)
  have H9 := Lib.hid (h9.out.ext hE12)
  clear hE8 hE9 hE10 hE11 hE12 hX h6 h7 h8 h9 hcc H69 b69 b6 B6
  have f0 := b9.cell 0
  have f1 := b9.cell 1
  simp at f0 f1
  go_wp2_with fail
  refine (aw26 awDb 32 2 A9 P9 c9 p9 V9 H9.out smb rfl rfl).mono ?_
  rintro e w10 ⟨A10, c10, P10, p10, rfl, hE5, h5⟩
  clear hV9 e0 e1 e2 e3 f0 f1 b99
  go_wp2_with fail
  obtain ⟨W5', hW5, hE6, h5f⟩ := ints2 w10 [1, 0] [2, 5]
  simp only [icells, List.map_cons, List.map_nil] at hW5
  rw [hW5]; clear hW5
  refine (aw27 awDb awDx awF2 2 2 A10 P10 _ _ c10 p10 2 2 W5' (h5.out.ext hE6) h5f.out.1 h5f.out.2 rfl rfl (by omega) smb rfl rfl aw_crash2.1 aw_crash2.2 rfl rfl).mono ?_
  rintro e w11 ⟨A11, c11, P11, p11, rfl, hE7, h11⟩
  have hX := (hE5.trans hE6).trans hE7
  obtain ⟨V11, hV11, hE8, hz11, b11⟩ := box1 w11 #[.slice A11 32 c11, .slice P11 0 p11] 25
  obtain ⟨xb, xo, rfl, hcc⟩ := (h11.out.ext hE8).2.1.cellAt (by decide)
  have e1 := hcc 1 1 (by decide)
  have e2 := hcc 2 2 (by decide)
  have e4 := hcc 4 2 (by decide)
  have e5 := hcc 5 0 (by decide)
  simp at e1 e2 e4 e5
  have HE11 : Hid (Ext w V11) := (HE10.out.trans hX).trans hE8
  have H9' := Lib.hid ((H9.out.ext hX).ext hE8)
  have H11 := Lib.hid (h11.out.ext hE8)
  have B9 := (b9.ext hX).ext hE8
  clear hE5 hE6 hE7 hE8 hX h5 h5f h11 hcc H9 b9
  have f0 := b11.cell 0
  have f1 := b11.cell 1
  simp at f0 f1
  have Hb11 := Lib.hid b11
  have HB9 := Lib.hid B9
  clear b11 B9
  go_wp2_with fail
  clear hV11 e1 e2 e4 e5 f0 f1
  obtain ⟨V12, hV12, hE5, hz12, b12⟩ := box1 V11 #[.int .u8 2, .int .u8 1, .int .u8 2] 5
  rw [hV12]; clear hV12
  have hY := Bk.by (xs := [2, 1, 2]) b12
  refine (aw54 29 0 V12 (by omega) _ _ rfl rfl).mono ?_
  rintro e w12 ⟨B12, rfl, hE6, h12⟩
  have Hy := Lib.hid (hY.ext hE6)
  have HE12 := Lib.hid ((HE11.out.trans hE5).trans hE6)
  have hX := hE5.trans hE6
  have J9 := HB9.out.ext hX
  have J11 := Hb11.out.ext hX
  have K9 := Lib.hid (H9'.out.ext hX)
  have K11 := Lib.hid (H11.out.ext hX)
  clear hE5 hE6 hX hY b12 HB9 Hb11 H9' H11
  have Hj9 := Lib.hid J9
  have Hj11 := Lib.hid J11
  have f0 := J9.cell 0
  have f1 := J9.cell 1
  simp at f0 f1
  clear J9 J11
  go_wp2_with (at_builtin; refine wpList_appG rfl _ _ rfl _ 3 29 29 _ [2, 1, 2] (List.replicate 29 0) rfl rfl rfl rfl Hy.out h12.out (by omega) (by omega) (by omega) ?_; intro A13 c13 w13 hE13 hc13 hy13; have f2 := cellExt hE13 f0; have f3 := cellExt hE13 f1)
  have L9 := Lib.hid (K9.out.ext hE13)
  have L11 := Lib.hid (K11.out.ext hE13)
  have HE13 := Lib.hid (HE12.out.trans hE13)
  have M9 := Lib.hid (Hj9.out.ext hE13)
  have M11 := Lib.hid (Hj11.out.ext hE13)
  have Hy13 : Hid (By w13 A13 awY) := hy13
  clear hE13 hy13 f0 f1 f2 f3 K9 K11 Hj9 Hj11 Hy h12
  refine (aw26 awDb 32 2 A9 P9 c9 p9 w13 L9.out smb rfl rfl).mono ?_
  rintro e w14' ⟨A14, c14, P14, p14, rfl, hE14, h14⟩
  go_wp2_with fail
  refine (aw29 awDb awY false 2 c13 A14 P14 A13 c14 p14 w14' h14.out (Hy13.out.ext hE14) rfl hc13 smb rfl rfl aw_poss1.1 aw_poss1.2).mono ?_
  rintro e w14 ⟨rfl, hE15⟩
  have hX := hE14.trans hE15
  have HE14 := Lib.hid (HE13.out.trans hX)
  have N9 := M9.out.ext hX
  have N11 := M11.out.ext hX
  have K9 := Lib.hid (L9.out.ext hX)
  have K11 := Lib.hid (L11.out.ext hX)
  clear hE14 hE15 hX h14 Hy13 L9 L11 M9 M11
  go_wp2_with fail
  have hS := Lib.hid (fun w' (h : Ext w14 w') => (⟨h, (N9.ext h).cell 0, (N9.ext h).cell 1, (N11.ext h).cell 0, (N11.ext h).cell 1⟩ : Ext w14 w' ∧ w'.cell? ⟨w9.heap.size, 0, none⟩ = some (.slice A9 32 c9) ∧ w'.cell? ⟨w9.heap.size, 1, none⟩ = some (.slice P9 2 p9) ∧ w'.cell? ⟨w11.heap.size, 0, none⟩ = some (.slice (some ⟨xb, xo, none⟩) 32 c11) ∧ w'.cell? ⟨w11.heap.size, 1, none⟩ = some (.slice P11 0 p11)))
  refine wp_region_rel 12 (by kernel_rfl) (by kernel_rfl) (Ext.refl w14).drew ?_
  (apply relW_fix
   · intro vs w' hw hf
     have hc := hS.out w' hw
     unfold okAt
     go_simp
     first | exact ⟨rfl, Ext.refl _⟩ | exact rfl
   · intro vs; go_simp; rfl)
  (apply relW_any (SV.dv awDb 32 2)
   · intro vs w' hw hf
     have hc := hS.out w' hw
     skip
     unfold okAt
     go_simp
     refine ⟨Ext.refl _, ?_⟩; go_at_call 26; refine (aw26 awDb 32 2 A9 P9 c9 p9 w' (K9.out.ext hw) smb rfl rfl).mono ?_; rintro e w5 ⟨A', c', P', p', rfl, h1, h2⟩; exact ⟨_, rfl, ⟨A', c', P', p', rfl, h2⟩, h1⟩
   · intro vs; go_simp; rfl)
  (apply relW_any (SV.e0 w14.heap.size)
   · intro vs w' hw hf
     have hc := hS.out w' hw
     skip
     unfold okAt
     go_simp
     exact ⟨⟨_, rfl, hw.size, by simp⟩, (Ext.refl _).alloc _⟩
   · intro vs; go_simp; rfl)
  (apply relW_fix
   · intro vs w' hw hf
     have hc := hS.out w' hw
     unfold okAt
     go_simp
     first | exact ⟨rfl, Ext.refl _⟩ | exact rfl
   · intro vs; go_simp; rfl)
  (apply relW_fix
   · intro vs w' hw hf
     have hc := hS.out w' hw
     unfold okAt
     go_simp
     first | exact ⟨rfl, Ext.refl _⟩ | exact rfl
   · intro vs; go_simp; rfl)
  (apply relW_any (SV.by_ w14.heap.size awDx.bytes)
   · intro vs w' hw hf
     have hc := hS.out w' hw
     obtain ⟨b, eb, hb1, hb2⟩ := hf.out.1 (by kernel_rfl)
     obtain ⟨v2, w2, h1, h2, h3⟩ := app0_by _ w' b c11 (some ⟨xb, xo, none⟩) awDx.bytes (K11.out.ext hw).2.1 (by decide)
     refine okAt_app rfl _ _ _ rfl _ _ v2 (by exact eb) rfl h1 ?_ h2
     (obtain ⟨A', c', e1, q1, q2, q3, _⟩ := h3; exact ⟨A', c', e1, q1, q2, fun a ha => (by have := h2.size; have := hw.size; rcases q3 a ha with q | q <;> omega)⟩)
   · intro vs; go_simp; rfl)
  (apply relW_fix
   · intro vs w' hw hf
     have hc := hS.out w' hw
     obtain ⟨h5', _, h1', _⟩ := hf.out; obtain ⟨A5x, c5x, e5x, q1, q2, _⟩ := h5' (by kernel_rfl); obtain ⟨A1x, c1x, P1x, p1x, e1x, hd⟩ := h1' (by kernel_rfl)
     unfold okAt
     go_simp
     refine ⟨Ext.refl _, ?_⟩
     go_at_call 29
     refine (aw29 awDb awDx.bytes true 2 c5x A1x P1x A5x c1x p1x _ hd.out q2 rfl q1 smb rfl rfl aw_poss2.1 aw_poss2.2).mono ?_; rintro e w2 ⟨rfl, hb⟩; exact ⟨_, rfl, rfl, hb⟩
   · intro vs; go_simp; rfl)
  repeat (apply relW_fix
          · intro vs w' hw hf
            have hc := hS.out w' hw
            unfold okAt
            go_simp
            first | exact ⟨rfl, Ext.refl _⟩ | exact rfl
          · intro vs; go_simp; rfl)
  refine relW_nil fun vs w' hw hf => ?_
  refine wpList_nil ?_
  have HE15 := Lib.hid (HE14.out.trans (hS.out w' hw).1)

  clear hf hS
  clear N9 N11 K9 K11
  go_wp2_with fail
  obtain ⟨W6, hW6, hE16, h16⟩ := ints2 w' [5, -1] [40]
  simp only [icells, List.map_cons, List.map_nil] at hW6
  rw [hW6]; clear hW6
  refine (aw22 _ _ 2 1 W6 h16.out.1 h16.out.2).mono ?_
  rintro e w17 ⟨A17, c17, P17, p17, rfl, hE17, h17⟩
  have HE17 := Lib.hid ((HE15.out.trans hE16).trans hE17)
  clear h16 HE15 hE16 hE17
  have H17 := Lib.hid h17.out
  clear h17
  go_wp2_with fail
  obtain ⟨V18, hV18, hE18, hz18, b18⟩ := box1 w17 #[.slice A17 3 c17, .slice P17 3 p17] 34
  rw [hV18]; clear hV18
  obtain ⟨W7, hW7, hE19, h19⟩ := ints2 V18 [1, 2, 0] [7, 32, 32]
  simp only [icells, List.map_cons, List.map_nil] at hW7
  rw [hW7]; clear hW7 b18
  rw [hz18.out] at h19
  refine (aw24 A17 P17 _ _ c17 p17 3 3 W7 ⟨(H17.out.1.ext hE18).ext hE19, (H17.out.2.ext hE18).ext hE19⟩ h19.out.1 h19.out.2).mono ?_
  rintro e w19 ⟨rfl, hE20⟩
  have HE20 := Lib.hid (((HE17.out.trans hE18).trans hE19).trans hE20)
  clear hE18 hE19 hE20 h19 H17 HE17 hz18
  go_wp2_with fail
  go_ret
  exact ⟨rfl, HE20.out⟩
end Go.Proofs.Ytdlalmbnkcadfaa
/- The row DeviceNews. -/
namespace Go.Proofs.Ytdlalmbnkcadfaa
open Go.RowKit

set_option maxRecDepth 100000 in
set_option maxHeartbeats 4000000 in
theorem news_of (haw : ∀ w, Calls Try.prog 19 #[] w fun e w' => e = .returned (.bool true) ∧ Ext w w') (n : Int) (w : World) :
    Calls Try.prog 3 #[.int .i64 n] w fun e w' => e = .returned (.bool true) ∧ Ext w w' := by
  go_enter Try.func3, Try.ntmps3
  go_wp2_with fail
  refine (new_any n w).mono ?_
  rintro e w1 hr
  obtain ⟨v, rfl, hE1, h1⟩ := hr.retV
  obtain ⟨A, c, P, p, rfl, hc, hA, hp, hP⟩ := h1
  go_wp2_with fail
  obtain ⟨V1, hV1, hE2, hz1, b1⟩ := box1 w1 #[.slice A (resD (pNew n) (pNewD n)).bytes.length c, .slice P (resD (pNew n) (pNewD n)).pend.length p] 25
  rw [hV1]; clear hV1
  refine (refNew_any n V1).mono ?_
  rintro e w2 hr
  obtain ⟨v, rfl, hE3, h2⟩ := hr
  obtain ⟨B, d, Q, q, rfl, hd, hB, hq, hQ⟩ := h2
  have B1 := b1.ext hE3
  have hl : Hid ((resD (pNew n) (pNewD n)).pend.length ≤ 1000000) := by
    show _ ≤ _
    unfold resD pNewD; split <;> simp
  generalize resD (pNew n) (pNewD n) = D at *
  obtain ⟨n1, hn1⟩ : ∃ k, k = D.bytes.length := ⟨_, rfl⟩
  obtain ⟨n2, hn2⟩ : ∃ k, k = D.pend.length := ⟨_, rfl⟩
  rw [← hn1, ← hn2] at B1 ⊢
  have c0 : ∀ o, (w2.alloc o).cell? ⟨w1.heap.size, 0, none⟩ = some (.slice A n1 c) := fun o => (B1.ext ((Ext.refl _).alloc o)).cell 0
  have c1 : ∀ o, (w2.alloc o).cell? ⟨w1.heap.size, 1, none⟩ = some (.slice P n2 p) := fun o => (B1.ext ((Ext.refl _).alloc o)).cell 1
  have gA := Lib.hid ((hA.ext hE2).ext hE3)
  have gP := Lib.hid ((hP.ext hE2).ext hE3)
  have gB := Lib.hid hB
  have gQ := Lib.hid hQ
  have HE := Lib.hid ((hE1.trans hE2).trans hE3)
  have hN1 := Lib.hid hn1
  have hN2 := Lib.hid hn2
  clear hn1 hn2 hE1 hE2 hE3 hA hB hP hQ b1 B1 hz1 hc hd hp hq hr
  go_wp2_with fail
  obtain ⟨V2, hV2, hE4, hz2, b2⟩ := box1 w2 #[.slice B n1 d, .slice Q n2 q] 25
  rw [hV2]; clear hV2
  obtain rfl := hN1.out
  obtain rfl := hN2.out
  refine (same_any A P B Q c p d q D D V2 (gA.out.ext hE4) (gP.out.ext hE4) (gB.out.ext hE4) (gQ.out.ext hE4) hl.out).mono ?_
  rintro e w3 ⟨rfl, hE5⟩
  have HE := Lib.hid ((HE.out.trans hE4).trans hE5)
  clear hE4 hE5 c0 c1 b2 hz2 gA gP gB gQ hl hN1 hN2
  simp only [decide_true]
  go_wp2_with fail
  refine (haw w3).mono ?_
  rintro e w4 ⟨rfl, hE6⟩
  have HE' := Lib.hid (HE.out.trans hE6)
  clear hE6
  go_wp2_with fail
  go_ret
  exact ⟨rfl, HE'.out⟩
end Go.Proofs.Ytdlalmbnkcadfaa
/- The row's last step, for laws that hand back a bool and write nothing that was there. -/
namespace Go.Proofs.Ytdlalmbnkcadfaa
open Go.ChangeShapes Go.WideShapes Go.ChangeAt Go.RowKit

theorem own : ownKnob Try.prog.godebug = none := by kernel_rfl

theorem post_ext {H : Type} {enc : TypeId × Value → H} {P : Program} {f : Func} {s : ChangeSpec} {W W' : World} {args : Array Value} {v : Value} {ds gs : List (DataW H)} {before pa pv : List MemPlace}
    (hW : DataW.Whole enc P f.params.toList s.vars false W args.toList ds gs before)
    (hres : DataW.TrodAll enc P W' W.heap.size (fun _ => false) false f.resultTypes.toList (v.resultList f.resultTypes.size) (s.fn H (ds ++ gs)).results [])
    (hargs : DataW.TrodAll enc P W' 0 (fun b => decide (b < W.heap.size)) true f.params.toList args.toList (s.fn H (ds ++ gs)).args pa)
    (hvars : DataW.TrodVars enc P W' (fun b => decide (b < W.heap.size)) s.vars (s.fn H (ds ++ gs)).vars pv)
    (hE : Below W.heap.size W W') : s.post enc P f false true false false W args v W' :=
  ⟨ds, gs, before, [], pa, pv, hW, hres, hargs, hvars, hE.frame _, fun h => by cases h⟩

set_option maxRecDepth 100000 in
theorem news_lifted (hwalk : ∀ (n : Int) (w : World), Calls Try.prog 3 #[.int .i64 n] w fun e w' => e = .returned (.bool true) ∧ Below w.heap.size w w') (os : Os) (started : os.Started) (H : Type) (enc : TypeId × Value → H) :
    ReturnsInHanded {} Try.checked os 3 .any (Rows.deviceNewsSpec.pre6 enc Try.prog Try.f3 Rows.deviceNewsRow.domain false) (Rows.deviceNewsSpec.post enc Try.prog Try.f3 false true false false) := by
  refine returnsInHanded_of_change (C := Try.checked) own started (by kernel_rfl) Try.func3
    (ChangeSpec.witness6 (enc := enc) (C := Try.checked) false ⟨#[], #[.int .i64 0], []⟩ 8 (by kernel_rfl) (by kernel_rfl) (by kernel_rfl) (by kernel_rfl)) ?_
  intro W base args ds gs before hval0 hW hcnd _
  have hval : ∀ (j : Nat) t v, Try.f3.params[j]? = some t → args[j]? = some v → Value.okWide Try.prog W .any base t v := hval0
  have hW' := hW
  obtain ⟨p, q, hA0, hV, rfl, hfz, hnd⟩ := hW
  have hA : DataW.TrodAll enc Try.prog W 0 (fun _ => true) true Try.f3.params.toList args.toList ds p := hA0
  rw [Try.params3] at hA hval
  obtain ⟨v0, vs0, d0, ds0, p0, q0, hargs, rfl, rfl, h0, r0⟩ := trodAll_cons hA
  obtain ⟨rfl, rfl, rfl⟩ := trodAll_nil r0
  obtain rfl : args = #[v0] := by cases args; simp_all
  obtain ⟨rfl, rfl⟩ := trodVars_none hV
  obtain ⟨a0, rfl, rfl, rfl, w0⟩ := open_int Try.underlying3 (hval 0 3 v0 rfl rfl) h0
  clear hA0 hval0
  simp only [List.append_nil] at hW'
  refine (hwalk a0 W).mono fun e W' ⟨he, hg⟩ => ?_
  subst he
  exact ⟨_, rfl, post_ext (pa := []) (pv := []) hW' (trodAll_cons_mk (shut_bool Try.underlying4 _) trodAll_mk0) (trodAll_cons_mk (shut_int Try.underlying3 w0) trodAll_mk0) rfl hg⟩

theorem news_said (hwalk : ∀ (n : Int) (w : World), Calls Try.prog 3 #[.int .i64 n] w fun e w' => e = .returned (.bool true) ∧ Below w.heap.size w w') : Rows.DeviceNewsSaid :=
  OpenClaim.holds_of_wide 3 Try.f3 rfl rfl rfl rfl rfl rfl rfl ⟨rfl, rfl, rfl, rfl, rfl⟩ rfl rfl rfl rfl rfl (by kernel_rfl) Try.func3 (by kernel_rfl)
    (of_decide_eq_true (by kernel_rfl)) (by unfold Func.isWrapper; first | (rw [if_pos (by decide +kernel)]; kernel_rfl) | (rw [if_neg (by decide +kernel)]; exact ⟨rfl, rfl⟩))
    (fun os started H enc _ => news_lifted hwalk os started H enc)
end Go.Proofs.Ytdlalmbnkcadfaa
