/- device: fit. -/
import Derived.Test.YtdlalmbnkcadfaaM16
namespace Go.Proofs.Ytdlalmbnkcadfaa
open Go.RowKit

theorem info_int : (Try.prog.info? 3).map (fun i => (i.zero, i.size, i.bytes)) = some (some (.int .i64 0), 1, 8) := by kernel_rfl
/-- The call's own row of numbers, nil while it is empty. -/
def RI (w : World) (B : Nat) (v : Value) (xs : List Nat) : Prop := w.ownsRow B 3 1 v xs.length (ncells xs)
theorem RI.ext {w w' : World} {B : Nat} {v : Value} {xs : List Nat} (h : RI w B v xs) (e : Ext w w') : RI w' B v xs := ownsRow_ext h e
theorem RI.form {w : World} {B : Nat} {v : Value} {xs : List Nat} (h : RI w B v xs) : (v = .slice none 0 0 ∧ xs = []) ∨ ∃ g cap, v = .slice (some ⟨g, 0, none⟩) xs.length cap ∧ B ≤ g ∧ xs.length ≤ cap ∧ cap ≤ maxLen ∧ OI w g cap xs := by
  rcases h.2 with ⟨hv, hn⟩ | ⟨g, cap, cur, hv, hB, hh, hc, hm, hs, ht⟩
  · exact .inl ⟨hv, List.eq_nil_of_length_eq_zero hn⟩
  · refine .inr ⟨g, cap, hv, hB, hc, hm, cur.toList.drop xs.length, ?_, ?_⟩
    · simp; omega
    · rw [Nat.mul_one] at ht
      have : (ncells xs ++ cur.toList.drop xs.length).toArray = cur := by
        rw [← ht, List.take_append_drop]
      unfold Bk
      rw [this]
      exact hh
theorem OI.ri {w : World} {B g cap : Nat} {xs : List Nat} (h : OI w g cap xs) (hB : B ≤ g) (hm : cap ≤ maxLen) : RI w B (.slice (some ⟨g, 0, none⟩) xs.length cap) xs := by
  obtain ⟨more, hl, hb⟩ := h
  refine ⟨by simp, .inr ⟨g, cap, _, rfl, hB, hb, by omega, hm, by simp; omega, ?_⟩⟩
  simp
theorem RI.kept {w w' : World} {B : Nat} {v : Value} {xs : List Nat} (h : RI w B v xs) {row : Option Nat} (hg : w.grownBy w' row) (hne : v.ownBlock = none ∨ v.ownBlock ≠ row) : RI w' B v xs := World.ownsRow.kept h hg hne
theorem RI.far {w : World} {B : Nat} {v : Value} {xs : List Nat} (h : RI w B v xs) {x i : Nat} (ho : some x ≠ v.ownBlock) (u : Value) : RI (w.setCell ⟨x, i, none⟩ u) B v xs := h.kept (grown_set w x i u) (.inr fun e => ho e.symm)
def fPart (xs : List Int) (k : Nat) : Nat := (atI xs k 32 % 33).toNat
def FitInv (w wr : World) (xb xr : Nat) (A P : Option Addr) (c d : Nat) (F : Ft) (k : Nat) : Prop :=
  Ext w wr ∧ Bk wr xb #[.slice A F.order.length c, .slice P F.part.length d] 34 ∧
  ∃ Ov Pv, Bk wr xr #[Ov, Pv] 34 ∧ RI wr w.heap.size Ov (List.range k) ∧ RI wr w.heap.size Pv ((List.range k).map (fPart F.part)) ∧ (Ov.ownBlock = none ∨ Ov.ownBlock ≠ Pv.ownBlock)
set_option maxRecDepth 100000 in
theorem sortStable_any (g cap bx : Nat) (key : Nat → Int) (xs : List Nat) (w : World) (hC : HCmp w g bx key) (hO : OI w g cap xs) (hl : xs.length ≤ 64) :
    Calls Try.prog 77 #[.slice (some ⟨g, 0, none⟩) xs.length cap, .func (.func 78) #[] #[.pointer (some ⟨bx, 0, none⟩)]] w fun e w' =>
      e = .returned (.tuple #[]) ∧ SwInv w w' g cap (pStable key xs) := by
  go_enter Try.func77, Try.ntmps77
  go_wp2_with fail
  refine (stable_any g cap bx key xs w hC hO hl).mono ?_
  rintro e w1 ⟨rfl, h1⟩
  have H1 := Lib.hid h1
  clear h1
  go_wp2
  go_end0
  exact ⟨rfl, H1.out⟩
theorem sortStable_int (g cap bx L : Nat) (key : Nat → Int) (xs : List Nat) (w : World) (hC : HCmp w g bx key) (hO : OI w g cap xs) (eL : L = xs.length) (hl : xs.length ≤ 64) :
    Calls Try.prog 77 #[.slice (some ⟨g, 0, none⟩) L cap, .func (.func 78) #[] #[.pointer (some ⟨bx, 0, none⟩)]] w fun e w' =>
      e = .returned (.tuple #[]) ∧ SwInv w w' g cap (pStable key xs) := by
  subst eL
  exact sortStable_any g cap bx key xs w hC hO hl
set_option maxRecDepth 100000 in
theorem insertion_nil (bx : Nat) (w : World) :
    Calls Try.prog 103 #[.slice none 0 0, .int .i64 0, .int .i64 0, .func (.func 78) #[] #[.pointer (some ⟨bx, 0, none⟩)]] w fun e w' => e = .returned (.tuple #[]) ∧ w = w' := by
  go_enter Try.func103, Try.ntmps103
  go_wp2
  go_loop [8] (fun vi => vi = .int .i64 1) (fun _ => 0)
  case atStart => rfl
  case round =>
    subst hrel
    go_wp2
    go_end0
    exact ⟨rfl, rfl⟩
set_option maxRecDepth 100000 in
theorem stable_nil (bx : Nat) (w : World) :
    Calls Try.prog 93 #[.slice none 0 0, .int .i64 0, .func (.func 78) #[] #[.pointer (some ⟨bx, 0, none⟩)]] w fun e w' => e = .returned (.tuple #[]) ∧ w = w' := by
  go_enter Try.func93, Try.ntmps93
  go_wp2
  go_loop [7, 8] (fun va vb => va = .int .i64 0 ∧ vb = .int .i64 20) (fun _ _ => 0)
  case atStart => exact ⟨rfl, rfl⟩
  case round =>
    obtain ⟨rfl, rfl⟩ := hrel
    go_wp2_with fail
    refine (insertion_nil bx w).mono ?_
    rintro e w' ⟨rfl, rfl⟩
    go_wp2
    go_loop [6] (fun va => va = .int .i64 20) (fun _ => 0)
    case atStart => rfl
    case round =>
      subst hrel
      go_wp2
      go_end0
      exact ⟨rfl, rfl⟩
set_option maxRecDepth 100000 in
theorem sortStable_nil (bx : Nat) (w : World) :
    Calls Try.prog 77 #[.slice none 0 0, .func (.func 78) #[] #[.pointer (some ⟨bx, 0, none⟩)]] w fun e w' => e = .returned (.tuple #[]) ∧ w = w' := by
  go_enter Try.func77, Try.ntmps77
  go_wp2_with fail
  refine (stable_nil bx w).mono ?_
  rintro e w1 ⟨rfl, rfl⟩
  go_wp2
  go_end0
  exact ⟨rfl, rfl⟩
/-- A fate that the call has made. -/
def FO (w : World) (B : Nat) (v : Value) (order part : List Nat) : Prop := ∃ Ov Pv, v = .agg #[Ov, Pv] ∧ RI w B Ov order ∧ RI w B Pv part ∧ (Ov.ownBlock = none ∨ Ov.ownBlock ≠ Pv.ownBlock)
def pFitO (F : Ft) (n : Nat) : List Nat := pStable (fun x => atI F.order x 0) (List.range n)
def pFitP (F : Ft) (n : Nat) : List Nat := (List.range n).map (fPart F.part)
set_option maxRecDepth 100000 in
set_option maxHeartbeats 2000000 in
theorem fit_any (A P : Option Addr) (c d n : Nat) (F : Ft) (w : World) (hA : Is w A F.order) (hP : Is w P F.part) (hn : n ≤ 64) :
    Calls Try.prog 55 #[.agg #[.slice A F.order.length c, .slice P F.part.length d], .int .i64 n] w fun e w' => ∃ v, e = .returned v ∧ Ext w w' ∧ FO w' w.heap.size v (pFitO F n) (pFitP F n) := by
  obtain ⟨i0, hi0, hz0, hz1, hz2⟩ := info_parts info_int
  go_enter Try.func55, Try.ntmps55
  go_wp2_with fail
  obtain ⟨W, hW, hE, hz, k0, k1⟩ := box2 w #[.slice A F.order.length c, .slice P F.part.length d] #[.slice none 0 0, .slice none 0 0] 34 34
  rw [hW]; clear hW
  go_loopw [8] (fun vk wr => ∃ k : Nat, k ≤ n ∧ vk = .int .i64 k ∧ FitInv w wr w.heap.size (w.heap.size + 1) A P c d F k) (fun vk _ => n - (intOf vk).toNat)
  case atStart => exact ⟨0, Nat.zero_le _, rfl, hE, k0, _, _, k1, World.ownsRow_nil _ _ _ _, World.ownsRow_nil _ _ _ _, .inl rfl⟩
  case round =>
    obtain ⟨k, hk, rfl, hEr, jb, Ov, Pv, jr, hO, hPr, hne⟩ := hrel
    by_cases hlt : k < n
    · have r0 := jr.cell 0
      have r1 := jr.cell 1
      have f0 := jr.frozen 0
      have f1 := jr.frozen 1
      have b1 := jb.cell 1
      simp at r0 r1 b1
      have oj0 := jr.not_own hO (by decide)
      have oj1 := jb.not_own hO (by decide)
      have hE2 : Ext wr (wr.alloc (.cells #[.int .i64 (k : Int)] 3)) := (Ext.refl wr).alloc _
      go_wp2_with (first
        | (at_builtin
           refine wpList_append_lies (P := Try.prog) _ rfl _ _ 32 rfl w.heap.size 3 i0 _ 1 8 Try.underlying32 hi0 hz0 hz1 hz2 (by rfl) (by omega) Ov (List.range k).length (ncells (List.range k)) (by rfl) (hO.ext hE2) ⟨wr.heap.size, 0, none⟩ 1 1 [.int .i64 (k : Int)] ?e1 (by rfl) ?e2 ?e3 (by omega) ?e4 ?e5 ?e6 _ rfl ?e7)
        | fail)
      case e1 => rfl
      case e2 => exact World.news_of_block (cs := #[.int .i64 (k : Int)]) (Bk.new _ _ _)
      case e3 => intro u hu; simp at hu; subst hu; rfl
      case e4 => simp [maxLen]; omega
      case e5 => simp; omega
      case e6 => have := hEr.size; simp; omega
      case e7 =>
        intro g cap w7 hown hgrow hat hlt7
        have hsz := hEr.size
        have hE7 := Lib.hid (Below.grown (hEr.trans hE2) hgrow (by simp; omega) (fun x hx => (hO.lt x hx).1))
        have jb7 := (jb.ext hE2).grown hgrow oj1
        have jr7 := (jr.ext hE2).grown hgrow oj0
        have hP7 : Hid (RI w7 w.heap.size Pv ((List.range k).map (fPart F.part))) := by
          refine World.ownsRow.kept (hPr.ext hE2) hgrow ?_
          rcases hne with h | h
          · rw [h]; cases Pv.ownBlock with
            | none => exact .inl rfl
            | some q => exact .inr (by simp)
          · exact .inr (fun e => h e.symm)
        have hn7 : Hid (some g ≠ Pv.ownBlock) := fun e => by
          rcases hat with h | h
          · rcases hne with h' | h'
            · rw [h'] at h; cases h
            · exact h' (h.trans e)
          · have := (hPr.lt g e.symm).2
            omega
        have hR7 : Hid (RI w7 w.heap.size (.slice (some ⟨g, 0, none⟩) (k + 1) cap) (List.range (k + 1))) := by
          have e : ncells (List.range (k + 1)) = ncells (List.range k) ++ [.int .i64 (k : Int)] := by simp [List.range_succ]
          show World.ownsRow _ _ _ _ _ _ _
          rw [e]
          simpa using hown
        have hkb : w.heap.size ≠ w.heap.size + 1 := by omega
        have hE8 : Hid (Ext w (w7.setCell ⟨w.heap.size + 1, 0, none⟩ (.slice (some ⟨g, 0, none⟩) (k + 1) cap))) := hE7.out.setCell (Nat.le_succ _) _
        have no8 := jr7.not_own hP7.out (by decide)
        have no9 := jr7.not_own hR7.out (by decide)
        have jr8 := jr7.set 0 (.slice (some ⟨g, 0, none⟩) (k + 1) cap)
        have jb8 := jb7.far (p := ⟨w.heap.size + 1, 0, none⟩) (by simp) (.slice (some ⟨g, 0, none⟩) (k + 1) cap)
        have x0 := jr7.cell 0
        have x1 := jr7.frozen 0
        have y1 := jb8.cell 1
        simp at x0 y1
        clear r0 r1 f0 f1 b1 jb7 jr7 hown hgrow hat hne oj0 oj1 hE2 jb jr hO hPr hEr
        have hf : Hid ((fPart F.part k : Int) = atI F.part k 32 % 33) := by show _ = _; unfold fPart; omega
        go_wp2_with fail
        refine (at_any P d k F.part 32 _ (hP.ext hE8.out)).mono ?_
        rintro e w8 ⟨rfl, rfl⟩
        have hb1 : -33 < Int.tmod (atI F.part k 32) 33 := by have := Int.lt_tmod_of_pos (atI F.part k 32) (b := 33) (by omega); omega
        have hb2 : Int.tmod (atI F.part k 32) 33 < 33 := Int.tmod_lt_of_pos _ (by omega)
        have hmd : Hid (Int.tmod (atI F.part k 32) 33 = atI F.part k 32 % 33 ∨ Int.tmod (atI F.part k 32) 33 + 33 = atI F.part k 32 % 33) := by show _ ∨ _; have := Int.tmod_def (atI F.part k 32) 33; have := Int.tmod_eq_emod (a := atI F.part k 32) (b := 33); omega
        have hem : Hid (0 ≤ atI F.part k 32 % 33 ∧ atI F.part k 32 % 33 < 33) := ⟨by omega, by omega⟩
        obtain ⟨w9, hw9⟩ : ∃ w9, w9 = w7.setCell ⟨w.heap.size + 1, 0, none⟩ (.slice (some ⟨g, 0, none⟩) (k + 1) cap) := ⟨_, rfl⟩
        rw [← hw9] at hE8 jr8 jb8 y1 ⊢
        have hR9 : Hid (RI w9 w.heap.size (.slice (some ⟨g, 0, none⟩) (k + 1) cap) (List.range (k + 1))) := by rw [hw9]; exact hR7.out.far no9 _
        have hP9 : Hid (RI w9 w.heap.size Pv ((List.range k).map (fPart F.part))) := by rw [hw9]; exact hP7.out.far no8 _
        clear hR7 hP7 hE7 x0 x1 no8 no9 hw9 hlt7
        go_upto_if 23 with fail
        generalize Int.tmod (atI F.part k 32) 33 = r at hb1 hb2 hmd ⊢
        generalize atI F.part k 32 % 33 = q at hf hmd hem
        go_cut [6] from 24 to 25 (fun s6 wx => s6 = .int .i64 (fPart F.part k : Int) ∧ w9 = wx)
        case first =>
          by_cases hneg : r < 0
          · have hr : Hid (r + 33 = (fPart F.part k : Int)) := by have h1 := hf.out; have h2 := hmd.out; have h3 := hem.out; show _ = _; omega
            go_wp2
            go_meet
            exact ⟨by rw [hr.out], rfl⟩
          · have hr : Hid (r = (fPart F.part k : Int)) := by have h1 := hf.out; have h2 := hmd.out; have h3 := hem.out; show _ = _; omega
            go_wp2
            go_meet
            exact ⟨by rw [hr.out], rfl⟩
        case rest =>
          obtain ⟨rfl, rfl⟩ := hcut
          have hPk : w9.ownsRow w.heap.size 3 1 Pv k (ncells ((List.range k).map (fPart F.part))) := by simpa [RI] using hP9.out
          have oj0 := jr8.not_own hPk (by decide)
          have oj1 := jb8.not_own hPk (by decide)
          have hEs := Lib.hid hE8.out.size
          have hE2 : Ext w9 (w9.alloc (.cells #[.int .i64 (fPart F.part k : Int)] 3)) := (Ext.refl w9).alloc _
          have z1 := jr8.cell 1
          simp at z1
          go_wp2_with (first
            | (at_builtin
               refine wpList_append_lies (P := Try.prog) _ rfl _ _ 32 rfl w.heap.size 3 i0 _ 1 8 Try.underlying32 hi0 hz0 hz1 hz2 (by rfl) (by omega) Pv k _ (by rfl) (ownsRow_ext hPk hE2) ⟨w9.heap.size, 0, none⟩ 1 1 [.int .i64 (fPart F.part k : Int)] ?e1 (by rfl) ?e2 ?e3 (by omega) ?e4 ?e5 ?e6 _ rfl ?e7)
            | fail)
          case e1 => rfl
          case e2 => exact World.news_of_block (cs := #[.int .i64 (fPart F.part k : Int)]) (Bk.new _ _ _)
          case e3 => intro u hu; simp at hu; subst hu; rfl
          case e4 => simp [maxLen]; omega
          case e5 => omega
          case e6 => have := hEs.out; simp; omega
          case e7 =>
            intro g2 cap2 w10 hown hgrow hat hlt10
            have hE10 : Hid (Ext w w10) := Below.grown (hE8.out.trans hE2) hgrow (by have := hEs.out; simp; omega) (fun x hx => (hPk.lt x hx).1)
            have jb10 := (jb8.ext hE2).grown hgrow oj1
            have jr10 := (jr8.ext hE2).grown hgrow oj0
            have hR10 : Hid (RI w10 w.heap.size (.slice (some ⟨g, 0, none⟩) (k + 1) cap) (List.range (k + 1))) := (hR9.out.ext hE2).kept hgrow (.inr hn7.out)
            have hgl : Hid (g < w9.heap.size) := (hR9.out.lt g rfl).2
            have hn10 : Hid (some g ≠ some g2) := fun e => by
              rcases hat with h | h
              · exact hn7.out (e.trans h.symm)
              · have := hgl.out
                simp only [Option.some.injEq] at e
                omega
            have hS10 : Hid (RI w10 w.heap.size (.slice (some ⟨g2, 0, none⟩) (k + 1) cap2) ((List.range (k + 1)).map (fPart F.part))) := by
              have e : ncells ((List.range (k + 1)).map (fPart F.part)) = ncells ((List.range k).map (fPart F.part)) ++ [.int .i64 (fPart F.part k : Int)] := by simp [List.range_succ]
              show World.ownsRow _ _ _ _ _ _ _
              rw [e]
              simpa using hown
            have no1 := Lib.hid (jr10.not_own hR10.out (by decide))
            have no2 := Lib.hid (jr10.not_own hS10.out (by decide))
            have x0 := jr10.cell 1
            have x1 := jr10.frozen 1
            simp at x0
            have Jr := Lib.hid jr10
            have Jb := Lib.hid jb10
            clear y1 z1 jb8 jr8 oj0 oj1 hE2 hPk hown hgrow hat jr10 jb10
            go_wp2
            go_roundw
            case rel =>
              refine ⟨k + 1, by omega, by go_num, hE10.out.setCell (Nat.le_succ _) _, Jb.out.far (by simp) _, _, _, Jr.out.set 1 _, hR10.out.far no1.out _, hS10.out.far no2.out _, .inr hn10.out⟩
            case measure => simp [intOf]; omega
    · obtain rfl : k = n := by omega
      have hB : w.heap.size ≤ wr.heap.size := hEr.size
      rcases hO.form with ⟨rfl, hnil⟩ | ⟨g, cap, rfl, hBg, hc, hm, hOI⟩
      · obtain ⟨pA, pn, pc, rfl⟩ : ∃ pA pn pc, Pv = .slice pA pn pc := by
          rcases hPr.form with ⟨rfl, _⟩ | ⟨g2, cap2, rfl, _⟩
          · exact ⟨_, _, _, rfl⟩
          · exact ⟨_, _, _, rfl⟩
        have hn0 : k = 0 := by simpa using hnil
        have r0 := jr.cell 0
        have r1 := jr.cell 1
        have f0 := jr.frozen 0
        have f1 := jr.frozen 1
        simp at r0 r1
        go_wp2_with fail
        refine (sortStable_nil w.heap.size wr).mono ?_
        rintro e w1 ⟨rfl, rfl⟩
        go_wp2
        have kk := ((jr.set 0 (.slice none 0 0)).set 1 (.slice pA pn pc))
        have q0 := kk.cell 0
        have q1 := kk.cell 1
        simp only [Array.setIfInBounds_def] at q0 q1
        have no1 := jr.not_own hPr (by decide)
        have hz0' : pFitO F k = [] := by
          have := pStable_length (fun x => atI F.order x 0) (List.range k)
          rw [hnil] at this
          unfold pFitO
          rw [hnil]
          exact List.eq_nil_of_length_eq_zero this
        refine bodyPost_ret (v := .agg #[.slice none 0 0, .slice pA pn pc]) (by simp [results, Try.results55, go_sem, q0, q1]) rfl ⟨_, rfl, ?_, _, _, rfl, ?_, ?_, .inl rfl⟩
        · exact (hEr.setCell (Nat.le_succ _) _).setCell (Nat.le_succ _) _
        · rw [hz0']; exact World.ownsRow_nil _ _ _ _
        · exact (hPr.far no1 _).far no1 _
      · obtain ⟨pA, pn, pc, rfl⟩ : ∃ pA pn pc, Pv = .slice pA pn pc := by
          rcases hPr.form with ⟨rfl, _⟩ | ⟨g2, cap2, rfl, _⟩
          · exact ⟨_, _, _, rfl⟩
          · exact ⟨_, _, _, rfl⟩
        have r0 := jr.cell 0
        have r1 := jr.cell 1
        simp at r0 r1
        have hgP : some g ≠ (Value.slice pA pn pc).ownBlock := by
          rcases hne with h | h
          · cases h
          · exact h
        have hgb : some w.heap.size ≠ some g := jb.not_own hO (by decide)
        have hgr : some (w.heap.size + 1) ≠ some g := jr.not_own hO (by decide)
        have HCm : HCmp wr g w.heap.size (fun x => atI F.order x 0) := fun w' h' x y =>
          fit1_any A P c F.part.length d w.heap.size x y F.order w' (jb.grown h' hgb) (hA.ext (Below.grown hEr h' hB (fun q hq => by obtain rfl := Option.some.inj hq; exact hBg)))
        go_wp2_with fail
        refine (sortStable_int g cap w.heap.size _ (fun x => atI F.order x 0) (List.range k) wr HCm hOI (by simp) (by simpa using hn)).mono ?_
        rintro e w1 ⟨rfl, hg1, hO1⟩
        have hE1 : Hid (Ext w w1) := Below.grown hEr hg1 hB (fun q hq => by obtain rfl := Option.some.inj hq; exact hBg)
        have jr1 := jr.grown hg1 hgr
        have hP1 : Hid (RI w1 w.heap.size (.slice pA pn pc) ((List.range k).map (fPart F.part))) := hPr.kept hg1 (.inr fun e => hgP e.symm)
        have hl1 : (pStable (fun x => atI F.order x 0) (List.range k)).length = k := by rw [pStable_length]; simp
        have hO2 : Hid (RI w1 w.heap.size (.slice (some ⟨g, 0, none⟩) k cap) (pFitO F k)) := by
          have := hO1.ri hBg hm
          rw [hl1] at this
          exact this
        have q0 := jr1.cell 0
        have q1 := jr1.cell 1
        have f0 := jr1.frozen 0
        have f1 := jr1.frozen 1
        simp at q0 q1
        have Jr := Lib.hid jr1
        have no1 := Lib.hid (jr1.not_own hP1.out (by decide))
        clear r0 r1 HCm hg1 hO1 hOI hO hPr jr jb hEr jr1 hl1
        go_wp2
        have kk := ((Jr.out.set 0 (.slice (some ⟨g, 0, none⟩) k cap)).set 1 (.slice pA pn pc))
        clear q0 q1
        have q0 := kk.cell 0
        have q1 := kk.cell 1
        simp only [Array.setIfInBounds_def] at q0 q1
        refine bodyPost_ret (v := .agg #[.slice (some ⟨g, 0, none⟩) k cap, .slice pA pn pc]) (by simp [results, Try.results55, go_sem, q0, q1]) rfl ⟨_, rfl, ?_, _, _, rfl, ?_, ?_, .inr hgP⟩
        · exact (hE1.out.setCell (Nat.le_succ _) _).setCell (Nat.le_succ _) _
        · exact (hO2.out.far hgr _).far hgr _
        · exact (hP1.out.far no1.out _).far no1.out _
end Go.Proofs.Ytdlalmbnkcadfaa
/- device: Fit. -/
namespace Go.Proofs.Ytdlalmbnkcadfaa
open Go.RowKit

def pFit (n : Int) : Int := if 0 ≤ n ∧ n ≤ 64 then 0 else 3
/-- What a call hands back: a fate and an error, or the empty fate. -/
def RetF (w : World) (er : Int) (order part : List Nat) (e : Ending) (w' : World) : Prop :=
  ∃ v, e = .returned (.tuple #[v, .int .i64 er]) ∧ Ext w w' ∧ (er = 0 → FO w' w.heap.size v order part) ∧ (er ≠ 0 → v = zeroDk)
theorem out2 (n : Int) : (!([n].any (outB 0 64))) = decide (0 ≤ n ∧ n ≤ 64) := by
  by_cases h : 0 ≤ n ∧ n ≤ 64
  · rw [decide_eq_true h]; simp [outB]; omega
  · rw [decide_eq_false h]; simp [outB]; omega
theorem RI.shape {w : World} {B : Nat} {v : Value} {xs : List Nat} (h : RI w B v xs) : ∃ A c, v = .slice A xs.length c := by
  rcases h.form with ⟨rfl, rfl⟩ | ⟨g, cap, rfl, _⟩
  · exact ⟨_, _, rfl⟩
  · exact ⟨_, _, rfl⟩
theorem RI.low {w : World} {B : Nat} {v : Value} {xs : List Nat} (h : RI w B v xs) {x i : Nat} (hx : x < B) (u : Value) : RI (w.setCell ⟨x, i, none⟩ u) B v xs :=
  h.far (fun e => by have := (World.ownsRow.lt h x e.symm).1; omega) u
theorem RI.down {w : World} {B B' : Nat} {v : Value} {xs : List Nat} (h : RI w B v xs) (hB : B' ≤ B) : RI w B' v xs :=
  ⟨h.1, h.2.imp id fun ⟨g, cap, cur, e1, e2, e3⟩ => ⟨g, cap, cur, e1, Nat.le_trans hB e2, e3⟩⟩
theorem FO.low {w : World} {B : Nat} {v : Value} {o p : List Nat} (h : FO w B v o p) {x i : Nat} (hx : x < B) (u : Value) : FO (w.setCell ⟨x, i, none⟩ u) B v o p := by
  obtain ⟨Ov, Pv, h1, h2, h3, h4⟩ := h
  exact ⟨Ov, Pv, h1, h2.low hx u, h3.low hx u, h4⟩
theorem FO.down {w : World} {B B' : Nat} {v : Value} {o p : List Nat} (h : FO w B v o p) (hB : B' ≤ B) : FO w B' v o p := by
  obtain ⟨Ov, Pv, h1, h2, h3, h4⟩ := h
  exact ⟨Ov, Pv, h1, h2.down hB, h3.down hB, h4⟩
theorem FO.ext {w w' : World} {B : Nat} {v : Value} {o p : List Nat} (h : FO w B v o p) (e : Ext w w') : FO w' B v o p := by
  obtain ⟨Ov, Pv, h1, h2, h3, h4⟩ := h
  exact ⟨Ov, Pv, h1, h2.ext e, h3.ext e, h4⟩

set_option maxRecDepth 100000 in
set_option maxHeartbeats 1000000 in
theorem fitF_bad (A P : Option Addr) (c d : Nat) (n : Int) (F : Ft) (w : World) (hn : ¬ (0 ≤ n ∧ n ≤ 64)) :
    Calls Try.prog 22 #[.agg #[.slice A F.order.length c, .slice P F.part.length d], .int .i64 n] w (RetF w (pFit n) (pFitO F n.toNat) (pFitP F n.toNat)) := by
  have hnn : Hid ((!([n].any (outB 0 64))) = false) := by rw [out2]; exact decide_eq_false hn
  have hq : Hid (pFit n = 3) := if_neg hn
  clear hn
  go_enter Try.func22, Try.ntmps22
  go_wp2_with fail
  obtain ⟨W, hW, hE, hz, k0, k1⟩ := box2 w #[.slice A F.order.length c, .slice P F.part.length d] #[.slice none 0 0, .slice none 0 0] 34 34
  try (rw [hW]; clear hW)
  go_wp2_with fail
  refine (within_b false _ _ [n] _ _ _ (by simp) ?_ ?_).mono ?_
  · exact Is.one (by have h := new_cell0 W (.int .i64 n) [] 3; rw [show W.heap.size = w.heap.size + 1 + 1 from hz.out] at h; exact h)
  · exact hnn.out
  rintro e w1 ⟨rfl, h1⟩
  have hE1 : Ext W w1 := ((Ext.refl W).alloc _).trans h1
  have j2 := k1.ext hE1
  have r0 := j2.cell 0
  have r1 := j2.cell 1
  have f0 := j2.frozen 0
  have f1 := j2.frozen 1
  simp at r0 r1
  have Hj2 := Lib.hid j2
  have HE := Lib.hid (hE.trans hE1)
  clear h1 hE1 j2 k0 k1 hE
  go_wp2
  have kk := ((Hj2.out.set 0 (.slice none 0 0)).set 1 (.slice none 0 0))
  clear r0 r1
  have q0 := kk.cell 0
  have q1 := kk.cell 1
  simp only [Array.setIfInBounds_def] at q0 q1
  refine bodyPost_ret (v := .tuple #[zeroDk, .int .i64 3]) (by simp [results, Try.results22, go_sem, q0, q1, zeroDk]) rfl ⟨_, by rw [hq.out], ?_, fun h => ?_, fun _ => rfl⟩
  · exact (HE.out.setCell (Nat.le_succ _) _).setCell (Nat.le_succ _) _
  · rw [hq.out] at h; cases h
set_option maxRecDepth 100000 in
set_option maxHeartbeats 1000000 in
theorem fitF_ok (A P : Option Addr) (c d n : Nat) (F : Ft) (w : World) (hA : Is w A F.order) (hP : Is w P F.part) (hn : n ≤ 64) :
    Calls Try.prog 22 #[.agg #[.slice A F.order.length c, .slice P F.part.length d], .int .i64 n] w (RetF w 0 (pFitO F n) (pFitP F n)) := by
  have hnn : Hid ((!([(n : Int)].any (outB 0 64))) = true) := by rw [out2]; exact decide_eq_true ⟨by omega, by omega⟩
  go_enter Try.func22, Try.ntmps22
  go_wp2_with fail
  obtain ⟨W, hW, hE, hz, k0, k1⟩ := box2 w #[.slice A F.order.length c, .slice P F.part.length d] #[.slice none 0 0, .slice none 0 0] 34 34
  try (rw [hW]; clear hW)
  go_wp2_with fail
  refine (within_b true _ _ [(n : Int)] _ _ _ (by simp) ?_ ?_).mono ?_
  · exact Is.one (by have h := new_cell0 W (.int .i64 (n : Int)) [] 3; rw [show W.heap.size = w.heap.size + 1 + 1 from hz.out] at h; exact h)
  · exact hnn.out
  rintro e w1 ⟨rfl, h1⟩
  have hE1 : Ext W w1 := ((Ext.refl W).alloc _).trans h1
  have j0 := k0.ext hE1
  have j2 := k1.ext hE1
  have c0 := j0.cell 0
  have c1 := j0.cell 1
  simp at c0 c1
  have HE := Lib.hid (hE.trans hE1)
  have hsz : Hid (w.heap.size + 2 ≤ w1.heap.size) := by have := hE1.size; have := hz.out; show _ ≤ _; omega
  go_wp2_with fail
  refine (fit_any A P c d n F _ (hA.ext HE.out) (hP.ext HE.out) hn).mono ?_
  rintro e w2 ⟨v, rfl, h2, hF⟩
  obtain ⟨Ov, Pv, rfl, hO, hPr, hne⟩ := hF
  obtain ⟨oA, oc, rfl⟩ := hO.shape
  obtain ⟨pA, pc, rfl⟩ := hPr.shape
  have HF : Hid (FO w2 w1.heap.size _ _ _) := ⟨_, _, rfl, hO, hPr, hne⟩
  have j3 := j2.ext h2
  have r0 := j3.cell 0
  have r1 := j3.cell 1
  have f0 := j3.frozen 0
  have f1 := j3.frozen 1
  simp at r0 r1
  have Hj := Lib.hid j3
  have HE2 := Lib.hid (HE.out.trans h2)
  clear hO hPr hne j3 j2 j0 c0 c1 h2 h1 hE1 k0 k1 hE HE
  go_wp2
  have kk := ((Hj.out.set 0 (.slice oA (pFitO F n).length oc)).set 1 (.slice pA (pFitP F n).length pc))
  clear r0 r1
  have q0 := kk.cell 0
  have q1 := kk.cell 1
  simp only [Array.setIfInBounds_def] at q0 q1
  refine bodyPost_ret (v := .tuple #[.agg #[.slice oA (pFitO F n).length oc, .slice pA (pFitP F n).length pc], .int .i64 0]) (by simp [results, Try.results22, go_sem, q0, q1]) rfl ⟨_, rfl, ?_, fun _ => ?_, fun h => absurd rfl h⟩
  · exact (HE2.out.setCell (Nat.le_succ _) _).setCell (Nat.le_succ _) _
  · have hz := hsz.out
    exact ((HF.out.low (by omega) _).low (by omega) _).down (by omega)
theorem fitF_any (A P : Option Addr) (c d : Nat) (n : Int) (F : Ft) (w : World) (hA : Is w A F.order) (hP : Is w P F.part) :
    Calls Try.prog 22 #[.agg #[.slice A F.order.length c, .slice P F.part.length d], .int .i64 n] w (RetF w (pFit n) (pFitO F n.toNat) (pFitP F n.toNat)) := by
  by_cases h : 0 ≤ n ∧ n ≤ 64
  · obtain ⟨k, rfl⟩ : ∃ k : Nat, n = k := ⟨n.toNat, by omega⟩
    have e : pFit (k : Int) = 0 := if_pos h
    rw [e]
    exact fitF_ok A P c d k F w hA hP (by omega)
  · exact fitF_bad A P c d n F w h
end Go.Proofs.Ytdlalmbnkcadfaa
