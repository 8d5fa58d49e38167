/- reference: comparisons. -/
import Derived.Test.YtdlalmbnkcadfaaM23
namespace Go.Proofs.Ytdlalmbnkcadfaa
open Go.RowKit

theorem take_next {α : Type} {xs ys : List α} {k : Nat} (h : xs.take k = ys.take k) (h1 : k < xs.length) (h2 : k < ys.length) (e : xs[k] = ys[k]) : xs.take (k + 1) = ys.take (k + 1) := by
  rw [List.take_succ_eq_append_getElem h1, List.take_succ_eq_append_getElem h2, h, e]
theorem ne_at {α : Type} {xs ys : List α} {k : Nat} (h1 : k < xs.length) (h2 : k < ys.length) (e : xs[k] ≠ ys[k]) : xs ≠ ys := fun h => by
  subst h; exact e rfl
set_option maxRecDepth 100000 in
set_option maxHeartbeats 1000000 in
theorem ints_any (A B : Option Addr) (c d : Nat) (xs ys : List Int) (w : World) (hA : Is w A xs) (hB : Is w B ys) (hl : xs.length ≤ 1000000) (_hl2 : ys.length ≤ 1000000) :
    Calls Try.prog 51 #[.slice A xs.length c, .slice B ys.length d] w fun e w' => e = .returned (.bool (decide (xs = ys))) ∧ Ext w w' := by
  by_cases hlen : xs.length = ys.length
  · have t1 : ((xs.length : Int) != (ys.length : Int)) = false := by simp [hlen]
    have Hlen := Lib.hid hlen
    clear hlen
    go_enter Try.func51, Try.ntmps51
    go_wp2
    go_loopw [5] (fun vi wr => ∃ k : Nat, k ≤ xs.length ∧ vi = .int .i64 k ∧ Ext w wr ∧ Hid (xs.take k = ys.take k)) (fun vi _ => xs.length - (intOf vi).toNat)
    case atStart => exact ⟨0, Nat.zero_le _, rfl, Ext.refl _, rfl⟩
    case round =>
      obtain ⟨k, hk, rfl, hE, Htk⟩ := hrel
      by_cases hlt : k < xs.length
      · have hlt2 : k < ys.length := by have := Hlen.out; omega
        obtain ⟨ab, ao, rfl, ha⟩ := hA.at hlt
        obtain ⟨bb, bo, rfl, hb⟩ := hB.at hlt2
        have g1 := cellExt hE ha
        have g2 := cellExt hE hb
        have hi2 : (k : Int) < (ys.length : Int) := by omega
        have hS := Lib.hid (fun w' (h : Ext wr w') => (⟨h, cellExt h g1, cellExt h g2⟩ : Ext wr w' ∧ w'.cell? ⟨ab, ao + k, none⟩ = some (.int .i64 xs[k]) ∧ w'.cell? ⟨bb, bo + k, none⟩ = some (.int .i64 ys[k])))
        clear ha hb g1 g2
        by_cases heq : xs[k] = ys[k]
        · have t2 : (xs[k] != ys[k]) = false := by simp [heq]
          have Heq := Lib.hid heq
          clear heq
          go_wp2_with fail
          refine wp_region_rel 9 (by kernel_rfl) (by kernel_rfl) (Ext.refl wr).drew ?_
          repeat (apply relW_fix
                  · intro vs w' hw hf
                    have hc := hS.out w' hw
                    unfold okAt
                    go_simp
                    first | exact ⟨rfl, Ext.refl _⟩ | exact rfl
                  · intro vs; go_simp; rfl)
          refine relW_nil fun vs w' hw hf => ?_
          refine wpList_nil ?_
          have HE := Lib.hid (hE.trans hw)
          clear hw hE hf hS
          go_wp2
          go_roundw
          case rel => exact ⟨k + 1, by omega, by go_num, HE.out, take_next Htk.out hlt hlt2 Heq.out⟩
          case measure => simp [intOf]; omega
        · have t2 : (xs[k] != ys[k]) = true := by simp [heq]
          have hne := Lib.hid (ne_at hlt hlt2 heq)
          clear heq
          go_wp2_with fail
          refine wp_region_rel 9 (by kernel_rfl) (by kernel_rfl) (Ext.refl wr).drew ?_
          repeat (apply relW_fix
                  · intro vs w' hw hf
                    have hc := hS.out w' hw
                    unfold okAt
                    go_simp
                    first | exact ⟨rfl, Ext.refl _⟩ | exact rfl
                  · intro vs; go_simp; rfl)
          refine relW_nil fun vs w' hw hf => ?_
          refine wpList_nil ?_
          have HE := Lib.hid (hE.trans hw)
          clear hw hE hf hS
          go_wp2
          go_ret
          exact ⟨ret_bool (decide_eq_false hne.out).symm, HE.out⟩
      · obtain rfl : k = xs.length := by omega
        have heq : Hid (xs = ys) := by
          have h := Htk.out
          rw [List.take_length, Hlen.out, List.take_length] at h
          exact h
        have HE := Lib.hid hE
        clear hE
        go_wp2
        go_ret
        exact ⟨ret_bool (decide_eq_true heq.out).symm, HE.out⟩
  · have t1 : ((xs.length : Int) != (ys.length : Int)) = true := by simp; omega
    have hne : Hid (xs ≠ ys) := fun h => hlen (by rw [h])
    clear hlen
    go_enter Try.func51, Try.ntmps51
    go_wp2
    go_ret
    exact ⟨ret_bool (decide_eq_false hne.out).symm, Ext.refl _⟩
set_option maxRecDepth 100000 in
set_option maxHeartbeats 1000000 in
theorem sameFate_any (A P B Q : Option Addr) (c d c' d' : Nat) (F G : Ft) (w : World) (hA : Is w A F.order) (hP : Is w P F.part) (hB : Is w B G.order) (hQ : Is w Q G.part) (hl : F.order.length ≤ 1000000 ∧ F.part.length ≤ 1000000 ∧ G.order.length ≤ 1000000 ∧ G.part.length ≤ 1000000) :
    Calls Try.prog 24 #[.agg #[.slice A F.order.length c, .slice P F.part.length d], .agg #[.slice B G.order.length c', .slice Q G.part.length d']] w fun e w' => e = .returned (.bool (decide (F = G))) ∧ Ext w w' := by
  obtain ⟨l1, l2, l3, l4⟩ := hl
  go_enter Try.func24, Try.ntmps24
  go_wp2_with fail
  obtain ⟨W, hW, hE, hz, k0, k1⟩ := box2 w #[.slice A F.order.length c, .slice P F.part.length d] #[.slice B G.order.length c', .slice Q G.part.length d'] 34 34
  rw [hW]; clear hW
  refine (ints_any A B c c' F.order G.order W (hA.ext hE) (hB.ext hE) l1 l3).mono ?_
  rintro e w1 ⟨rfl, h1⟩
  have j0 := (k0.ext h1).cell 1
  have j1 := (k1.ext h1).cell 1
  simp at j0 j1
  have HE := Lib.hid (hE.trans h1)
  clear k0 k1 hE h1
  by_cases h : F.order = G.order
  · have t : decide (F.order = G.order) = true := decide_eq_true h
    have Hh := Lib.hid h
    clear h
    rw [t]
    go_wp2_with fail
    refine (ints_any P Q d d' F.part G.part w1 (hP.ext HE.out) (hQ.ext HE.out) l2 l4).mono ?_
    rintro e w2 ⟨rfl, h2⟩
    have HE2 := Lib.hid (HE.out.trans h2)
    clear h2
    go_wp2
    go_ret
    refine ⟨ret_bool ?_, HE2.out⟩
    have h := Hh.out
    show decide (F.part = G.part) = decide (F = G)
    rw [decide_eq_decide]
    obtain ⟨o, p⟩ := F
    obtain ⟨o', p'⟩ := G
    simp only at h
    simp [h]
  · have t : decide (F.order = G.order) = false := decide_eq_false h
    have hne : Hid (F ≠ G) := fun e => h (by rw [e])
    rw [t]
    go_wp2
    go_ret
    exact ⟨ret_bool (decide_eq_false hne.out).symm, HE.out⟩

set_option maxRecDepth 100000 in
set_option maxHeartbeats 2000000 in
theorem sameWrites_any (A B : Option Addr) (c d : Nat) (xs ys : List Wr) (w : World) (hA : Ws w A xs) (hB : Ws w B ys) (hl : xs.length ≤ 1000000) :
    Calls Try.prog 53 #[.slice A xs.length c, .slice B ys.length d] w fun e w' => e = .returned (.bool (decide (xs = ys))) ∧ Ext w w' := by
  by_cases hlen : xs.length = ys.length
  · have t1 : ((xs.length : Int) != (ys.length : Int)) = false := by simp [hlen]
    have Hlen := Lib.hid hlen
    clear hlen
    go_enter Try.func53, Try.ntmps53
    go_wp2
    go_loopw [5] (fun vi wr => ∃ k : Nat, k ≤ xs.length ∧ vi = .int .i64 k ∧ Ext w wr ∧ Hid (xs.take k = ys.take k)) (fun vi _ => xs.length - (intOf vi).toNat)
    case atStart => exact ⟨0, Nat.zero_le _, rfl, Ext.refl _, rfl⟩
    case round =>
      obtain ⟨k, hk, rfl, hE, Htk⟩ := hrel
      by_cases hlt : k < xs.length
      · have hlt2 : k < ys.length := by have := Hlen.out; omega
        obtain ⟨ab, ao, A1, c1, rfl, a1, a2, a3, a4⟩ := hA k xs[k] (List.getElem?_eq_getElem hlt)
        obtain ⟨bb, bo, B1, d1, rfl, b1, b2, b3, b4⟩ := hB k ys[k] (List.getElem?_eq_getElem hlt2)
        have g1 := cellExt hE a1
        have g2 := cellExt hE b1
        have g3 := cellExt hE a2
        have g4 := cellExt hE b2
        have g5 := a4.ext hE
        have g6 := b4.ext hE
        have hi2 : (k : Int) < (ys.length : Int) := by omega
        have hS := Lib.hid (fun w' (h : Ext wr w') => (⟨h, cellExt h g1, cellExt h g2, cellExt h g3, cellExt h g4, conv_by (g5.ext h) c1, conv_by (g6.ext h) d1⟩ : Ext wr w' ∧ w'.cell? ⟨ab, ao + k * 2, none⟩ = some (.int .i64 xs[k].blk) ∧ w'.cell? ⟨bb, bo + k * 2, none⟩ = some (.int .i64 ys[k].blk) ∧ w'.cell? ⟨ab, ao + k * 2 + 1, none⟩ = some (.slice A1 xs[k].bs.length c1) ∧ w'.cell? ⟨bb, bo + k * 2 + 1, none⟩ = some (.slice B1 ys[k].bs.length d1) ∧
                                                                                                                                                                     (convert 22 9 (.slice A1 xs[k].bs.length c1)).run Try.prog w' = .ok (.string (strB xs[k].bs)) w' ∧ (convert 22 9 (.slice B1 ys[k].bs.length d1)).run Try.prog w' = .ok (.string (strB ys[k].bs)) w'))
        have ts := strB_toList
        clear a1 a2 a4 b1 b2 b4 g1 g2 g3 g4 g5 g6
        by_cases heq : xs[k].blk = ys[k].blk
        · have t2 : (xs[k].blk != ys[k].blk) = false := by simp [heq]
          have Heq := Lib.hid heq
          clear heq
          by_cases hbs : xs[k].bs = ys[k].bs
          · have t3 : (xs[k].bs == ys[k].bs) = true := by simp [hbs]
            have hxy : Hid (xs[k] = ys[k]) := by
              have h1 := Heq.out
              show xs[k] = ys[k]
              generalize xs[k] = x at *
              generalize ys[k] = y at *
              obtain ⟨x1, x2⟩ := x
              obtain ⟨y1, y2⟩ := y
              simp only at h1 hbs
              rw [h1, hbs]
            clear hbs
            go_wp2_with fail
            refine wp_region_rel 26 (by kernel_rfl) (by kernel_rfl) (Ext.refl wr).drew ?_
            repeat (apply relW_fix
                    · intro vs w' hw hf
                      have hc := hS.out w' hw
                      unfold okAt
                      go_simp
                      first | exact ⟨rfl, Ext.refl _⟩ | exact rfl
                    · intro vs; go_simp; rfl)
            refine relW_nil fun vs w' hw hf => ?_
            refine wpList_nil ?_
            have HE := Lib.hid (hE.trans hw)
            clear hw hE hf hS
            go_wp2
            go_roundw
            case rel => exact ⟨k + 1, by omega, by go_num, HE.out, take_next Htk.out hlt hlt2 hxy.out⟩
            case measure => simp [intOf]; omega
          · have t3 : (xs[k].bs == ys[k].bs) = false := by simp [hbs]
            have hne : Hid (xs ≠ ys) := ne_at hlt hlt2 (fun h => hbs (by rw [h]))
            clear hbs
            go_wp2_with fail
            refine wp_region_rel 26 (by kernel_rfl) (by kernel_rfl) (Ext.refl wr).drew ?_
            repeat (apply relW_fix
                    · intro vs w' hw hf
                      have hc := hS.out w' hw
                      unfold okAt
                      go_simp
                      first | exact ⟨rfl, Ext.refl _⟩ | exact rfl
                    · intro vs; go_simp; rfl)
            refine relW_nil fun vs w' hw hf => ?_
            refine wpList_nil ?_
            have HE := Lib.hid (hE.trans hw)
            clear hw hE hf hS
            go_wp2
            go_ret
            exact ⟨ret_bool (decide_eq_false hne.out).symm, HE.out⟩
        · have t2 : (xs[k].blk != ys[k].blk) = true := by simp [heq]
          have hne : Hid (xs ≠ ys) := ne_at hlt hlt2 (fun h => heq (by rw [h]))
          clear heq
          go_wp2_with fail
          refine wp_region_rel 26 (by kernel_rfl) (by kernel_rfl) (Ext.refl wr).drew ?_
          repeat (apply relW_fix
                  · intro vs w' hw hf
                    have hc := hS.out w' hw
                    unfold okAt
                    go_simp
                    first | exact ⟨rfl, Ext.refl _⟩ | exact rfl
                  · intro vs; go_simp; rfl)
          refine relW_nil fun vs w' hw hf => ?_
          refine wpList_nil ?_
          have HE := Lib.hid (hE.trans hw)
          clear hw hE hf hS
          go_wp2
          go_ret
          exact ⟨ret_bool (decide_eq_false hne.out).symm, HE.out⟩
      · obtain rfl : k = xs.length := by omega
        have heq : Hid (xs = ys) := by
          have h := Htk.out
          rw [List.take_length, Hlen.out, List.take_length] at h
          exact h
        have HE := Lib.hid hE
        clear hE
        go_wp2
        go_ret
        exact ⟨ret_bool (decide_eq_true heq.out).symm, HE.out⟩
  · have t1 : ((xs.length : Int) != (ys.length : Int)) = true := by simp; omega
    have hne : Hid (xs ≠ ys) := fun h => hlen (by rw [h])
    clear hlen
    go_enter Try.func53, Try.ntmps53
    go_wp2
    go_ret
    exact ⟨ret_bool (decide_eq_false hne.out).symm, Ext.refl _⟩
set_option maxRecDepth 100000 in
set_option maxHeartbeats 1000000 in
theorem same_any (A P B Q : Option Addr) (c d c' d' : Nat) (D E : Dk) (w : World) (hA : By w A D.bytes) (hP : Ws w P D.pend) (hB : By w B E.bytes) (hQ : Ws w Q E.pend) (hl : D.pend.length ≤ 1000000) :
    Calls Try.prog 18 #[.agg #[.slice A D.bytes.length c, .slice P D.pend.length d], .agg #[.slice B E.bytes.length c', .slice Q E.pend.length d']] w fun e w' => e = .returned (.bool (decide (D = E))) ∧ Ext w w' := by
  have hE : Ext w ((w.alloc (.cells #[.slice A D.bytes.length c, .slice P D.pend.length d] 25)).alloc (.cells #[.slice B E.bytes.length c', .slice Q E.pend.length d'] 25)) := ((Ext.refl w).alloc _).alloc _
  have cv1 := conv_by (hA.ext hE) c
  have cv2 := conv_by (hB.ext hE) c'
  have hP1 := hP.ext hE
  have hQ1 := hQ.ext hE
  have ts := strB_toList
  by_cases h : D.bytes = E.bytes
  · have t : (D.bytes == E.bytes) = true := by simp [h]
    have Hh := Lib.hid h
    have HE := Lib.hid hE
    clear h hE
    go_enter Try.func18, Try.ntmps18
    go_wp2_with fail
    refine (sameWrites_any P Q d d' D.pend E.pend _ hP1 hQ1 hl).mono ?_
    rintro e w2 ⟨rfl, h2⟩
    have HE2 := Lib.hid (HE.out.trans h2)
    clear h2 cv1 cv2 hP1 hQ1
    go_wp2
    go_ret
    refine ⟨ret_bool ?_, HE2.out⟩
    have h := Hh.out
    show decide (D.pend = E.pend) = decide (D = E)
    rw [decide_eq_decide]
    obtain ⟨o, p⟩ := D
    obtain ⟨o', p'⟩ := E
    simp only at h
    simp [h]
  · have t : (D.bytes == E.bytes) = false := by simp [h]
    have hne : Hid (D ≠ E) := fun e => h (by rw [e])
    have HE := Lib.hid hE
    clear h hE
    go_enter Try.func18, Try.ntmps18
    go_wp2
    go_ret
    exact ⟨ret_bool (decide_eq_false hne.out).symm, HE.out⟩
end Go.Proofs.Ytdlalmbnkcadfaa
/- law: bytes, Thin, ThinFate; reference: New. -/
namespace Go.Proofs.Ytdlalmbnkcadfaa
open Go.RowKit

theorem OB.set {w : World} {g cap : Nat} {bs : BL} (h : OB w g cap bs) {i : Nat} (hi : i < bs.length) (b : UInt8) : OB (w.setCell ⟨g, i, none⟩ (.int .u8 (b.toNat : Int))) g cap (bs.set i b) := by
  obtain ⟨more, hl, hb⟩ := h
  refine ⟨more, by simpa using hl, ?_⟩
  have := hb.set i (.int .u8 (b.toNat : Int))
  have e : ((bcells bs ++ more).toArray.setIfInBounds i (.int .u8 (b.toNat : Int))) = (bcells (bs.set i b) ++ more).toArray := by
    rw [List.setIfInBounds_toArray, List.set_append_left _ _ (by simpa using hi)]
    simp [bcells, List.map_set]
  rw [e] at this
  exact this
theorem OB.cell {w : World} {g cap : Nat} {bs : BL} (h : OB w g cap bs) {i : Nat} (hi : i < bs.length) : w.cell? ⟨g, i, none⟩ = some (.int .u8 (bs[i].toNat : Int)) := by
  obtain ⟨b, o, e, hc⟩ := h.by.at hi
  simp only [Option.some.injEq, Addr.mk.injEq, and_true] at e
  obtain ⟨rfl, rfl⟩ := e
  rw [Nat.zero_add] at hc
  exact hc
theorem OB.frozen {w : World} {g cap : Nat} {bs : BL} (h : OB w g cap bs) (i : Nat) : w.frozen? ⟨g, i, none⟩ = false := by
  obtain ⟨more, _, hb⟩ := h
  exact hb.frozen i
set_option maxRecDepth 100000 in
set_option maxHeartbeats 1000000 in
theorem bytes_any (n : Nat) (b : UInt8) (w : World) (hn : n ≤ 100000) :
    Calls Try.prog 54 #[.int .i64 (n : Int), .int .u8 (b.toNat : Int)] w fun e w' => ∃ g, e = .returned (.slice (some ⟨g, 0, none⟩) n n) ∧ OB w' g n (List.replicate n b) ∧ Ext w w' ∧ w.heap.size ≤ g := by
  have hm := mk8 w n hn
  have hO0 : OB (w.alloc (.cells (Array.replicate n (.int .u8 0)) 5)) w.heap.size n (List.replicate n 0) := ⟨[], by simp, by simpa using Bk.new w (Array.replicate n (.int .u8 0)) 5⟩
  go_enter Try.func54, Try.ntmps54
  go_wp2
  go_loopw [6] (fun vi wr => ∃ k : Nat, k ≤ n ∧ vi = .int .i64 k ∧ Ext w wr ∧ OB wr w.heap.size n (List.replicate k b ++ List.replicate (n - k) 0)) (fun vi _ => n - (intOf vi).toNat)
  case atStart => exact ⟨0, Nat.zero_le _, rfl, (Ext.refl w).alloc _, by simpa using hO0⟩
  case round =>
    clear hm hO0
    obtain ⟨k, hk, rfl, hE, hO⟩ := hrel
    by_cases hlt : k < n
    · have hl : k < (List.replicate k b ++ List.replicate (n - k) (0 : UInt8)).length := by simp; omega
      have hc := hO.cell hl
      have hf := hO.frozen k
      have hs : Hid (OB (wr.setCell ⟨w.heap.size, k, none⟩ (.int .u8 (b.toNat : Int))) w.heap.size n (List.replicate (k + 1) b ++ List.replicate (n - (k + 1)) 0)) := by
        have h := hO.set hl b
        have e : (List.replicate k b ++ List.replicate (n - k) (0 : UInt8)).set k b = List.replicate (k + 1) b ++ List.replicate (n - (k + 1)) 0 := by
          rw [List.set_append_right _ _ (by simp)]
          simp only [List.length_replicate, Nat.sub_self]
          obtain ⟨m, hm⟩ : ∃ m, n - k = m + 1 := ⟨n - k - 1, by omega⟩
          rw [hm, List.replicate_succ, List.set_cons_zero, show n - (k + 1) = m by omega, List.replicate_succ', List.append_assoc]
          rfl
        rw [e] at h
        exact h
      have HE := Lib.hid hE
      clear hO hE
      go_wp2
      go_roundw
      case rel => exact ⟨k + 1, by omega, by go_num, HE.out.setCell (Nat.le_refl _) _, hs.out⟩
      case measure => simp [intOf]; omega
    · obtain rfl : k = n := by omega
      have HE := Lib.hid hE
      have HO := Lib.hid hO
      clear hE hO
      go_wp2
      go_ret
      refine ⟨w.heap.size, rfl, ?_, HE.out, Nat.le_refl _⟩
      simpa using HO.out

def pThin (D : Dk) : Bool := decide (D.bytes.length ≤ 2100) && decide (D.pend.length ≤ 70) && D.pend.all fun x => decide (x.bs.length ≤ 40)
def pThinF (F : Ft) : Bool := decide (F.order.length ≤ 100) && decide (F.part.length ≤ 100)
set_option maxRecDepth 100000 in
set_option maxHeartbeats 1000000 in
theorem thinFate_any (A P : Option Addr) (c d : Nat) (F : Ft) (w : World) :
    Calls Try.prog 20 #[.agg #[.slice A F.order.length c, .slice P F.part.length d]] w fun e w' => e = .returned (.bool (pThinF F)) ∧ Ext w w' := by
  have hE : Hid (Ext w (w.alloc (.cells #[.slice A F.order.length c, .slice P F.part.length d] 34))) := (Ext.refl w).alloc _
  unfold pThinF
  by_cases h1 : F.order.length ≤ 100
  · have t1 : (F.order.length : Int) ≤ 100 := by omega
    rw [decide_eq_true h1]
    go_enter Try.func20, Try.ntmps20
    go_wp2
    go_ret
    refine ⟨ret_bool ?_, hE.out⟩
    show decide ((F.part.length : Int) ≤ 100) = _
    rw [Bool.true_and, decide_eq_decide]
    omega
  · have t1 : decide ((F.order.length : Int) ≤ 100) = false := by rw [decide_eq_false_iff_not]; omega
    rw [decide_eq_false h1]
    go_enter Try.func20, Try.ntmps20
    go_wp2
    go_ret
    exact ⟨rfl, hE.out⟩

set_option maxRecDepth 100000 in
set_option maxHeartbeats 1000000 in
theorem thin_any (A P : Option Addr) (c d : Nat) (D : Dk) (w : World) (hP : Ws w P D.pend) :
    Calls Try.prog 25 #[.agg #[.slice A D.bytes.length c, .slice P D.pend.length d]] w fun e w' => e = .returned (.bool (pThin D)) ∧ Ext w w' := by
  by_cases h1 : D.bytes.length ≤ 2100
  · have t1 : ¬ (2100 : Int) < (D.bytes.length : Int) := by omega
    by_cases h2 : D.pend.length ≤ 70
    · have t2 : decide ((70 : Int) < (D.pend.length : Int)) = false := by rw [decide_eq_false_iff_not]; omega
      have hr : Hid (pThin D = D.pend.all fun x => decide (x.bs.length ≤ 40)) := by show _ = _; unfold pThin; rw [decide_eq_true h1, decide_eq_true h2]; rfl
      go_enter Try.func25, Try.ntmps25
      go_wp2_with fail
      obtain ⟨W, hW, hE, hz, k0⟩ := box1 w #[.slice A D.bytes.length c, .slice P D.pend.length d] 25
      rw [hW]; clear hW
      have hPW := hP.ext hE
      have HE := Lib.hid hE
      have d1 := k0.cell 1
      simp at d1
      clear hE
      go_wp2
      go_loop [3] (fun vi => ∃ k : Nat, k ≤ D.pend.length ∧ vi = .int .i64 k ∧ Hid ((D.pend.take k).all (fun x => decide (x.bs.length ≤ 40)) = true)) (fun vi => D.pend.length - (intOf vi).toNat)
      case atStart => exact ⟨0, Nat.zero_le _, rfl, rfl⟩
      case round =>
        obtain ⟨k, hk, rfl, Hall⟩ := hrel
        by_cases hlt : k < D.pend.length
        · obtain ⟨b, o, B1, d1', rfl, e1, e2, e3, e4⟩ := hPW k D.pend[k] (List.getElem?_eq_getElem hlt)
          by_cases h40 : D.pend[k].bs.length ≤ 40
          · have t4 : ¬ (40 : Int) < (D.pend[k].bs.length : Int) := by omega
            have Ha : Hid ((D.pend.take (k + 1)).all (fun x => decide (x.bs.length ≤ 40)) = true) := by
              show _ = _
              rw [List.take_succ_eq_append_getElem hlt, List.all_append, Hall.out]
              simp [h40]
            go_wp2
            go_round
            case rel => exact ⟨k + 1, by omega, by go_num, Ha⟩
            case measure => simp [intOf]; omega
          · have t4 : (40 : Int) < (D.pend[k].bs.length : Int) := by omega
            have hf : Hid ((D.pend.all fun x => decide (x.bs.length ≤ 40)) = false) := by
              show _ = _
              rw [List.all_eq_false]
              exact ⟨D.pend[k], List.getElem_mem hlt, by simp; omega⟩
            go_wp2
            go_ret
            exact ⟨ret_bool (by rw [hr.out, hf.out]), HE.out⟩
        · obtain rfl : k = D.pend.length := by omega
          go_wp2
          go_ret
          refine ⟨ret_bool ?_, HE.out⟩
          have h := Hall.out
          rw [List.take_length] at h
          rw [hr.out, h]
    · have t2 : decide ((70 : Int) < (D.pend.length : Int)) = true := by rw [decide_eq_true_iff]; omega
      have hr : Hid (pThin D = false) := by show _ = _; unfold pThin; rw [decide_eq_false h2]; simp
      go_enter Try.func25, Try.ntmps25
      go_wp2
      go_ret
      exact ⟨ret_bool hr.out.symm, (Ext.refl w).alloc _⟩
  · have t1 : (2100 : Int) < (D.bytes.length : Int) := by omega
    have hr : Hid (pThin D = false) := by show _ = _; unfold pThin; rw [decide_eq_false h1]; simp
    go_enter Try.func25, Try.ntmps25
    go_wp2
    go_ret
    exact ⟨ret_bool hr.out.symm, (Ext.refl w).alloc _⟩

/-- What a call hands back: a device and an error. -/
def resD (er : Int) (D : Dk) : Dk := if er = 0 then D else ⟨[], []⟩
def RetV (w : World) (er : Int) (D : Dk) (e : Ending) (w' : World) : Prop := ∃ v, e = .returned (.tuple #[v, .int .i64 er]) ∧ Ext w w' ∧ DkV w' v D
theorem zero_dkv (w : World) : DkV w zeroDk ⟨[], []⟩ := ⟨none, 0, none, 0, rfl, Nat.le_refl _, By.nil _ _, Nat.le_refl _, Ws.nil _ _⟩
theorem RetD.retV {w w' : World} {er : Int} {D : Dk} {e : Ending} (h : RetD w er D e w') : RetV w er (resD er D) e w' := by
  obtain ⟨v, h1, h2, h3, h4⟩ := h
  refine ⟨v, h1, h2, ?_⟩
  unfold resD
  by_cases h0 : er = 0
  · rw [if_pos h0]; exact (h3 h0).dkv
  · rw [if_neg h0, h4 h0]; exact zero_dkv w'
set_option maxRecDepth 100000 in
set_option maxHeartbeats 1000000 in
theorem refNew_bad (n : Int) (w : World) (hn : ¬ (1 ≤ n ∧ n ≤ 256)) : Calls Try.prog 17 #[.int .i64 n] w (RetV w (pNew n) (resD (pNew n) (pNewD n))) := by
  have hq : Hid (pNew n = 3) := if_neg hn
  have hr : Hid (resD (pNew n) (pNewD n) = ⟨[], []⟩) := by show _ = _; rw [hq.out]; rfl
  by_cases h1 : n < 1
  · clear hn
    go_enter Try.func17, Try.ntmps17
    go_wp2
    refine bodyPost_ret (v := .tuple #[zeroDk, .int .i64 3]) (by simp [results, Try.results17, go_sem, zeroDk]) rfl ⟨_, by rw [hq.out], ?_, by rw [hr.out]; exact zero_dkv _⟩
    exact (Ext.refl w).alloc _
  · have t1 : decide (n < 1) = false := by simpa using h1
    have t2 : decide (256 < n) = true := by rw [decide_eq_true_iff]; omega
    clear hn h1
    go_enter Try.func17, Try.ntmps17
    go_wp2
    refine bodyPost_ret (v := .tuple #[zeroDk, .int .i64 3]) (by simp [results, Try.results17, go_sem, zeroDk]) rfl ⟨_, by rw [hq.out], ?_, by rw [hr.out]; exact zero_dkv _⟩
    exact (Ext.refl w).alloc _
end Go.Proofs.Ytdlalmbnkcadfaa
/- reference: New. -/
namespace Go.Proofs.Ytdlalmbnkcadfaa
open Go.RowKit
set_option maxRecDepth 100000 in
set_option maxHeartbeats 1000000 in
theorem refNew_ok (n : Int) (w : World) (hn : 1 ≤ n ∧ n ≤ 256) : Calls Try.prog 17 #[.int .i64 n] w (RetV w (pNew n) (resD (pNew n) (pNewD n))) := by
  have hq : Hid (pNew n = 0) := if_pos hn
  have hr : Hid (resD (pNew n) (pNewD n) = pNewD n) := by show _ = _; rw [hq.out]; rfl
  obtain ⟨k, rfl⟩ : ∃ k : Nat, n = k := ⟨n.toNat, by omega⟩
  obtain ⟨hn1, hn2⟩ := hn
  have t1 : decide ((k : Int) < 1) = false := by rw [decide_eq_false_iff_not]; omega
  have t2 : decide (256 < (k : Int)) = false := by rw [decide_eq_false_iff_not]; omega
  have hm : (Instr.makeSlice 22 (.int .i64 (32 * (k : Int))) (.int .i64 (32 * (k : Int)))).run Try.prog (w.alloc (.cells #[.slice none 0 0, .slice none 0 0] 25)) =
      .ok (.slice (some ⟨(w.alloc (.cells #[.slice none 0 0, .slice none 0 0] 25)).heap.size, 0, none⟩) (32 * k) (32 * k)) ((w.alloc (.cells #[.slice none 0 0, .slice none 0 0] 25)).alloc (.cells (Array.replicate (32 * k) (.int .u8 0)) 5)) := by
    have := mk8 (w.alloc (.cells #[.slice none 0 0, .slice none 0 0] 25)) (32 * k) (by omega)
    simpa using this
  simp only [World.size_alloc] at hm
  go_enter Try.func17, Try.ntmps17
  go_wp2
  have hO : By ((w.alloc (.cells #[.slice (some ⟨w.heap.size + 1, 0, none⟩) (32 * k) (32 * k), .slice none 0 0] 25)).alloc (.cells (Array.replicate (32 * k) (.int .u8 0)) 5)) (some ⟨w.heap.size + 1, 0, none⟩) (List.replicate (k * 32) 0) := by
    have h := Bk.new (w.alloc (.cells #[.slice (some ⟨w.heap.size + 1, 0, none⟩) (32 * k) (32 * k), .slice none 0 0] 25)) (Array.replicate (32 * k) (.int .u8 0)) 5
    simp only [World.size_alloc] at h
    have hb : OB ((w.alloc (.cells #[.slice (some ⟨w.heap.size + 1, 0, none⟩) (32 * k) (32 * k), .slice none 0 0] 25)).alloc (.cells (Array.replicate (32 * k) (.int .u8 0)) 5)) (w.heap.size + 1) (32 * k) (List.replicate (32 * k) 0) := ⟨[], by simp, by simpa using h⟩
    rw [Nat.mul_comm k 32]
    exact hb.by
  refine bodyPost_ret (v := .tuple #[.agg #[.slice (some ⟨w.heap.size + 1, 0, none⟩) (32 * k) (32 * k), .slice none 0 0], .int .i64 0]) (by simp [results, Try.results17, go_sem]) rfl ⟨_, by rw [hq.out], ((Ext.refl w).alloc _).alloc _, ?_⟩
  rw [hr.out]
  refine ⟨_, 32 * k, none, 0, ?_, by simp [pNewD]; omega, by simpa [pNewD] using hO, Nat.le_refl _, Ws.nil _ _⟩
  simp [pNewD, Nat.mul_comm]
theorem refNew_any (n : Int) (w : World) : Calls Try.prog 17 #[.int .i64 n] w (RetV w (pNew n) (resD (pNew n) (pNewD n))) := by
  by_cases h : 1 ≤ n ∧ n ≤ 256
  · exact refNew_ok n w h
  · exact refNew_bad n w h
end Go.Proofs.Ytdlalmbnkcadfaa
/- law: awake: the calls' answers, reckoned. -/
namespace Go.Proofs.Ytdlalmbnkcadfaa
open Go.RowKit

def awZ : BL := List.replicate 32 0
def awX1 : Wr := ⟨0, List.replicate 32 1⟩
def awX2 : Wr := ⟨0, List.replicate 32 2⟩
def awD0 : Dk := ⟨awZ, []⟩
def awDa : Dk := ⟨awZ, [awX1]⟩
def awDb : Dk := ⟨awZ, [awX1, awX2]⟩
def awDc : Dk := ⟨[1, 1, 1] ++ List.replicate 29 0, []⟩
def awDx : Dk := ⟨[1, 1, 2, 2, 2] ++ List.replicate 27 0, []⟩
def awF1 : Ft := ⟨[0], [3]⟩
def awF2 : Ft := ⟨[1, 0], [2, 5]⟩
def awF3 : Ft := ⟨[5, -1], [40]⟩
def awFt : Ft := ⟨[1, 2, 0], [7, 32, 32]⟩
def awY : BL := [2, 1, 2] ++ List.replicate 29 0

theorem aw_new : pNew 1 = 0 ∧ pNewD 1 = awD0 := ⟨rfl, rfl⟩
theorem aw_put1 : pPut awD0 awX1 = 0 ∧ pDoD awD0 1 awX1 = awDa := by decide +kernel
theorem aw_put2 : pPut awDa awX2 = 0 ∧ pDoD awDa 1 awX2 = awDb := by decide +kernel
theorem ms1 : pSorted [0] = [0] := by simp [pSorted]
theorem ms2 : pSorted [1, 0] = [0, 1] := by
  refine List.Perm.eq_of_pairwise (le := fun a b => a ≤ b) (fun a b _ _ h1 h2 => Int.le_antisymm h1 h2) ?_ (by decide) ((List.mergeSort_perm _ _).trans (List.Perm.swap ..))
  have := List.pairwise_mergeSort (le := fun (a b : Int) => decide (a ≤ b)) (fun a b c h1 h2 => by simp at *; omega) (fun a b => by simp; omega) [1, 0]
  exact this.imp (fun h => of_decide_eq_true h)
theorem aw_fate1 : pIsFate 1 awF1 = true := by
  unfold pIsFate
  rw [rgI_eq, show awF1.order = [0] from rfl, ms1]
  decide +kernel
theorem aw_fate2 : pIsFate 2 awF2 = true := by
  unfold pIsFate
  rw [rgI_eq, show awF2.order = [1, 0] from rfl, ms2]
  decide +kernel
theorem aw_crash1 : pCrash awDa awF1 = 0 ∧ pCrashD awDa awF1 = awDc := by
  have h : pCheck awDa = 0 := by decide +kernel
  refine ⟨?_, by decide +kernel⟩
  unfold pCrash
  rw [if_pos h, if_pos (show pIsFate awDa.pend.length awF1 = true from aw_fate1)]
theorem aw_crash2 : pCrash awDb awF2 = 0 ∧ pCrashD awDb awF2 = awDx := by
  have h : pCheck awDb = 0 := by decide +kernel
  refine ⟨?_, by decide +kernel⟩
  unfold pCrash
  rw [if_pos h, if_pos (show pIsFate awDb.pend.length awF2 = true from aw_fate2)]
theorem aw_poss1 : pPossE awDb awY = 0 ∧ pPossR awDb awY = false := by decide +kernel
theorem aw_poss2 : pPossE awDb awDx.bytes = 0 ∧ pPossR awDb awDx.bytes = true := by decide +kernel
theorem aw_fit : pFit 3 = 0 ∧ pFitO awF3 3 = [1, 2, 0] ∧ pFitP awF3 3 = [7, 32, 32] := by decide +kernel
end Go.Proofs.Ytdlalmbnkcadfaa
