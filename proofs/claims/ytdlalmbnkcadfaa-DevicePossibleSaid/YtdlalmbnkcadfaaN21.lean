/- reference: Of. -/
import Derived.Test.YtdlalmbnkcadfaaM22
import Derived.Test.YtdlalmbnkcadfaaN01
namespace Go.Proofs.Ytdlalmbnkcadfaa
open Go.RowKit

set_option maxRecDepth 100000 in
set_option maxHeartbeats 2000000 in
theorem rOf_any (A P : Option Addr) (c p n : Nat) (D : Dk) (w : World) (hP : Ws w P D.pend) (hsm : Small D) :
    Calls Try.prog 67 #[.agg #[.slice A D.bytes.length c, .slice P D.pend.length p], .int .i64 (n : Int)] w fun e w' => ∃ P' c', e = .returned (.slice P' (pWs D n).length c') ∧ Ext w w' ∧ SS w' P' (pWs D n) ∧ (pWs D n).length ≤ c' := by
  obtain ⟨W, hW, hE, hz, k0⟩ := box1 w #[.slice A D.bytes.length c, .slice P D.pend.length p] 25
  have HP := Lib.hid (hP.ext hE)
  have HE := Lib.hid hE
  have HK := Lib.hid k0
  have Hsm := Lib.hid hsm
  obtain ⟨i0, hi0, hz0, hz1, hz2⟩ := info_parts info_bs
  clear hP hE hz k0 hsm
  go_enter Try.func67, Try.ntmps67
  go_wp2_with fail
  clear hW
  go_loopw [5, 6] (fun vo vi wr => ∃ (k : Nat) (qs : List Rec), k ≤ D.pend.length ∧ vi = .int .i64 k ∧ Ext W wr ∧ wr.ownsRow W.heap.size 22 1 vo qs.length (gcells qs) ∧ Hid (∀ q ∈ qs, q.1.bs.length ≤ q.2.2 ∧ By W q.2.1 q.1.bs) ∧ Hid (qs.map Prod.fst = (D.pend.take k).filter fun x => x.blk == (n : Int))) (fun _ vi _ => D.pend.length - (intOf vi).toNat)
  case atStart => exact ⟨0, [], Nat.zero_le _, rfl, Ext.refl _, World.ownsRow_nil _ _ _ _, fun q hq => (by cases hq), rfl⟩
  case round =>
    obtain ⟨k, qs, hk, rfl, hEr, hO, Hq, Hm⟩ := hrel
    have d0 := (HK.out.ext hEr).cell 0
    have d1 := (HK.out.ext hEr).cell 1
    simp at d0 d1
    have HEr := Lib.hid hEr
    have HO := Lib.hid hO
    by_cases hlt : k < D.pend.length
    · obtain ⟨b, o, Bx, d, rfl, e1, e2, e3, e4⟩ := HP.out k D.pend[k] (List.getElem?_eq_getElem hlt)
      have g1 := cellExt hEr e1
      have g2 := cellExt hEr e2
      have hi3 : (k : Int) < (D.pend.length : Int) := by omega
      have hk9 : (k : Int) ≤ 100000 := by have := Hsm.out.2.1; omega
      have hql : qs.length ≤ 100000 := by
        have h1 := congrArg List.length Hm.out
        have h2 := List.length_filter_le (fun x : Wr => x.blk == (n : Int)) (D.pend.take k)
        simp at h1 h2
        omega
      have H4 := Lib.hid e4
      have H3 := Lib.hid e3
      clear e1 e2 e3 e4 hEr hO
      by_cases hb : D.pend[k].blk = (n : Int)
      · have t1 : (D.pend[k].blk == (n : Int)) = true := by simp [hb]
        have hst : Hid ((D.pend.take (k + 1)).filter (fun x => x.blk == (n : Int)) = (D.pend.take k).filter (fun x => x.blk == (n : Int)) ++ [D.pend[k]]) := by show _ = _; rw [List.take_succ_eq_append_getElem hlt, List.filter_append]; simp [hb]
        clear hb
        have hE2 : Ext wr (wr.alloc (.cells #[.slice Bx D.pend[k].bs.length d] 22)) := (Ext.refl wr).alloc _
        have hsz := HEr.out.size
        go_wp2_with (first
          | (at_builtin
             refine wpList_append_lies (P := Try.prog) _ rfl _ _ 91 rfl W.heap.size 22 i0 _ 1 24 Try.underlying91 hi0 hz0 hz1 hz2 (by rfl) (by omega) _ qs.length (gcells qs) (by rfl) (ownsRow_ext HO.out hE2) ⟨wr.heap.size, 0, none⟩ 1 1 [.slice Bx D.pend[k].bs.length d] ?e1 (by rfl) ?e2 ?e3 (by omega) ?e4 ?e5 ?e6 _ rfl ?e7)
          | fail)
        case e1 => rfl
        case e2 => exact World.news_of_block (cs := #[.slice Bx D.pend[k].bs.length d]) (Bk.new _ _ _)
        case e3 => intro u hu; simp at hu; subst hu; rfl
        case e4 => simp only [maxLen]; omega
        case e5 => omega
        case e6 => simp; omega
        case e7 =>
          intro g cap w7 hown hgrow hat hlt7
          have hE7 := Lib.hid (Below.grown (HEr.out.trans hE2) hgrow (by simp; omega) (fun x hx => (HO.out.lt x hx).1))
          have hR7 : Hid (w7.ownsRow W.heap.size 22 1 (.slice (some ⟨g, 0, none⟩) (qs.length + 1) cap) (qs ++ [(D.pend[k], Bx, d)]).length (gcells (qs ++ [(D.pend[k], Bx, d)]))) := by
            have e : gcells (qs ++ [(D.pend[k], Bx, d)]) = gcells qs ++ [.slice Bx D.pend[k].bs.length d] := by simp [gcells]
            show World.ownsRow _ _ _ _ _ _ _
            rw [e]
            simpa using hown
          have Hq' : Hid (∀ q ∈ qs ++ [(D.pend[k], Bx, d)], q.1.bs.length ≤ q.2.2 ∧ By W q.2.1 q.1.bs) := fun q hq => by
            rcases List.mem_append.1 hq with h | h
            · exact Hq.out q h
            · simp only [List.mem_singleton] at h
              subst h
              exact ⟨H3.out, H4.out⟩
          have Hm' : Hid ((qs ++ [(D.pend[k], Bx, d)]).map Prod.fst = (D.pend.take (k + 1)).filter fun x => x.blk == (n : Int)) := by
            show _ = _
            rw [hst.out, List.map_append, Hm.out]
            rfl
          clear hown hgrow hat hE2 hsz d0 d1 g1 g2
          go_wp2
          go_roundw
          case rel => exact ⟨k + 1, _, by omega, by go_num, hE7.out, hR7.out, Hq', Hm'⟩
          case measure => simp [intOf]; omega
      · have t1 : (D.pend[k].blk == (n : Int)) = false := by simp [hb]
        have hst : Hid ((D.pend.take (k + 1)).filter (fun x => x.blk == (n : Int)) = (D.pend.take k).filter (fun x => x.blk == (n : Int))) := by show _ = _; rw [List.take_succ_eq_append_getElem hlt, List.filter_append]; simp [hb]
        clear hb
        go_wp2
        go_roundw
        case rel => exact ⟨k + 1, qs, by omega, by go_num, HEr.out, HO.out, Hq, by show _ = _; rw [hst.out]; exact Hm.out⟩
        case measure => simp [intOf]; omega
    · obtain rfl : k = D.pend.length := by omega
      have hp : Hid (qs.map (fun q => q.1.bs) = pWs D n) := by
        have h := Hm.out
        rw [List.take_length] at h
        show _ = _
        unfold pWs
        rw [← h, List.map_map]
        rfl
      obtain ⟨P', c', rfl, hs⟩ := own_ss HO.out (fun q hq => ⟨(Hq.out q hq).1, (Hq.out q hq).2.ext HEr.out⟩)
      have hle : (qs.map (fun q => q.1.bs)).length ≤ c' := by
        rw [List.length_map]
        rcases hO.2 with ⟨hv, h0⟩ | ⟨g, cap, cur, hv, _, _, hcap, _⟩
        · omega
        · injection hv with _ _ e3
          omega
      rw [hp.out] at hs hle ⊢
      have HS := Lib.hid hs
      have HL := Lib.hid hle
      clear hle
      clear hs hO
      go_wp2
      go_ret
      exact ⟨P', c', rfl, HE.out.trans HEr.out, HS.out, HL.out⟩
end Go.Proofs.Ytdlalmbnkcadfaa
