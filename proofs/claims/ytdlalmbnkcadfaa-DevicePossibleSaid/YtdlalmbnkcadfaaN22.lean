/- reference: Reach: words for its walk. -/
import Derived.Test.YtdlalmbnkcadfaaN21
import Derived.Test.YtdlalmbnkcadfaaM23
import Derived.Test.YtdlalmbnkcadfaaN07
import Derived.Test.YtdlalmbnkcadfaaN01
namespace Go.Proofs.Ytdlalmbnkcadfaa
open Go.RowKit

/-- A cut of a slice of one-cell elements, to an end. -/
theorem cut_to (t : TypeId) (hu : Try.prog.underlying t = some (.slice (Try.prog.elem t))) (hs : ∀ w, (sizeOf (Try.prog.elem t)).run Try.prog w = .ok 1 w) (A : Option Addr) (n c j : Nat) (hj : j ≤ n) (hc : n ≤ c) :
    ∃ A' c', (∀ w', (Instr.slice t (.slice A n c) none (some (.int .i64 (j : Int))) none).run Try.prog w' = .ok (.slice A' j c') w') ∧ (∀ w' cs, Sl w' A cs → Sl w' A' (cs.take j)) ∧ (∀ a, A = some a → ∃ a', A' = some a') ∧ j ≤ c' := by
  refine ⟨if c = 0 then A else A.map (·.add (0 * 1)), c - 0, fun w' => ?_, fun w' cs h => ?_, fun a ha => ?_, by omega⟩
  · rw [run_slice_h (P := Try.prog) _ _ _ _ _ hu .i64 _ (by omega) (by omega), hs]
    simp only [Result.andThen, sliced, Int.toNat_natCast, Nat.sub_zero]
  · have e : (if c = 0 then A else A.map (·.add (0 * 1))) = A := by
      split
      · rfl
      · cases A with
        | none => rfl
        | some a => simp [Addr.add]
    rw [e]
    intro i v hi
    refine h i v ?_
    rw [List.getElem?_take] at hi
    split at hi
    · exact hi
    · cases hi
  · subst ha
    split
    · exact ⟨_, rfl⟩
    · exact ⟨_, rfl⟩
/-- .. and from a beginning. -/
theorem cut_from (t : TypeId) (hu : Try.prog.underlying t = some (.slice (Try.prog.elem t))) (hs : ∀ w, (sizeOf (Try.prog.elem t)).run Try.prog w = .ok 1 w) (A : Option Addr) (n c j : Nat) (z : Int) (hz : z = (j : Int)) (hj : j ≤ n) (hc : n ≤ c) :
    ∃ A' c', (∀ w', (Instr.slice t (.slice A n c) (some (.int .i64 z)) none none).run Try.prog w' = .ok (.slice A' (n - j) c') w') ∧ (∀ w' cs, cs.length = n → Sl w' A cs → Sl w' A' (cs.drop j)) ∧ (∀ a, A = some a → ∃ a', A' = some a') ∧ n - j ≤ c' := by
  subst hz
  refine ⟨if c = j then A else A.map (·.add (j * 1)), c - j, fun w' => ?_, fun w' cs hl h => ?_, fun a ha => ?_, by omega⟩
  · rw [run_slice_l (P := Try.prog) _ _ _ _ _ hu .i64 _ (by omega) (by omega), hs]
    simp only [Result.andThen, sliced, Int.toNat_natCast]
  · intro i v hi
    rw [List.getElem?_drop] at hi
    obtain ⟨b, o, rfl, hcell⟩ := h (j + i) v hi
    have hlt := (List.getElem?_eq_some_iff.1 hi).1
    rw [if_neg (by omega)]
    refine ⟨b, o + j, ?_, ?_⟩
    · simp only [Option.map_some, Nat.mul_one]
      unfold Addr.add
      split <;> simp_all
    · rw [show o + j + i = o + (j + i) by omega]; exact hcell
  · subst ha
    split
    · exact ⟨_, rfl⟩
    · exact ⟨_, rfl⟩
theorem und_u8s : Try.prog.underlying 22 = some (.slice (Try.prog.elem 22)) := by kernel_rfl
theorem size_u8s (w : World) : (sizeOf (Try.prog.elem 22)).run Try.prog w = .ok 1 w := by kernel_rfl
theorem und_bss : Try.prog.underlying 91 = some (.slice (Try.prog.elem 91)) := by kernel_rfl
theorem size_bss (w : World) : (sizeOf (Try.prog.elem 91)).run Try.prog w = .ok 1 w := by kernel_rfl
/-- Bytes, as an element. -/
def El (w : World) (v : Value) (x : BL) : Prop := ∃ A c, v = .slice A x.length c ∧ x.length ≤ c ∧ By w A x
theorem El.ext {w w' : World} {v : Value} {x : BL} (h : El w v x) (e : Ext w w') : El w' v x := by
  obtain ⟨A, c, h1, h2, h3⟩ := h
  exact ⟨A, c, h1, h2, h3.ext e⟩
theorem El.one {w : World} {v : Value} {x : BL} (h : El w v x) : v.oneCell' = true := by
  obtain ⟨A, c, rfl, _⟩ := h
  rfl
/-- A row of bytes, by its cells. -/
structure RS (w : World) (P : Option Addr) (cs : List Value) (ws : List BL) : Prop where
  sl : Sl w P cs
  len : cs.length = ws.length
  el : ∀ (j : Nat) (x : BL) (v : Value), ws[j]? = some x → cs[j]? = some v → El w v x
theorem RS.ext {w w' : World} {P : Option Addr} {cs : List Value} {ws : List BL} (h : RS w P cs ws) (e : Ext w w') : RS w' P cs ws := ⟨h.sl.ext e, h.len, fun j x v h1 h2 => (h.el j x v h1 h2).ext e⟩
theorem RS.of_ss {w : World} {P : Option Addr} {ws : List BL} (h : SS w P ws) : ∃ cs, RS w P cs ws := by
  have key : ∀ j, j < ws.length → ∃ v, (∃ b o, P = some ⟨b, o, none⟩ ∧ w.cell? ⟨b, o + j, none⟩ = some v) ∧ ∀ x, ws[j]? = some x → El w v x := fun j hj => by
    obtain ⟨b, o, A, c, e, h1, h2, h3⟩ := h j ws[j] (List.getElem?_eq_getElem hj)
    refine ⟨_, ⟨b, o, e, h1⟩, fun x hx => ?_⟩
    rw [List.getElem?_eq_getElem hj] at hx
    obtain rfl := Option.some.inj hx
    exact ⟨A, c, rfl, h2, h3⟩
  refine ⟨(List.range ws.length).map fun j => if hj : j < ws.length then (key j hj).choose else undef, ⟨fun j v hj => ?_, by simp, fun j x v hx hv => ?_⟩⟩
  · have hlt : j < ws.length := by have := (List.getElem?_eq_some_iff.1 hj).1; simpa using this
    rw [List.getElem?_map, List.getElem?_range hlt] at hj
    simp only [Option.map_some, Option.some.injEq, dif_pos hlt] at hj
    subst hj
    exact (key j hlt).choose_spec.1
  · have hlt : j < ws.length := (List.getElem?_eq_some_iff.1 hx).1
    rw [List.getElem?_map, List.getElem?_range hlt] at hv
    simp only [Option.map_some, Option.some.injEq, dif_pos hlt] at hv
    subst hv
    exact (key j hlt).choose_spec.2 x hx
theorem RS.erase {w : World} {P P' : Option Addr} {cs : List Value} {ws : List BL} (h : RS w P cs ws) (i : Nat) (hs : Sl w P' (cs.take i ++ cs.drop (i + 1))) : RS w P' (cs.take i ++ cs.drop (i + 1)) (ws.eraseIdx i) := by
  have hl := h.len
  rw [← List.eraseIdx_eq_take_drop_succ] at hs ⊢
  refine ⟨hs, by rw [List.length_eraseIdx, List.length_eraseIdx, hl], fun j x v hx hv => ?_⟩
  rw [List.getElem?_eraseIdx] at hx hv
  split at hx
  · rename_i hji
    rw [if_pos hji] at hv
    exact h.el j x v hx hv
  · rename_i hji
    rw [if_neg hji] at hv
    exact h.el (j + 1) x v hx hv
theorem RS.cell {w : World} {P : Option Addr} {cs : List Value} {ws : List BL} (h : RS w P cs ws) {i : Nat} (hi : i < ws.length) : ∃ b o A c, P = some ⟨b, o, none⟩ ∧ w.cell? ⟨b, o + i, none⟩ = some (.slice A ws[i].length c) ∧ ws[i].length ≤ c ∧ By w A ws[i] := by
  have hl := h.len
  obtain ⟨b, o, e, hc⟩ := h.sl i (cs[i]'(by omega)) (List.getElem?_eq_getElem (by omega))
  obtain ⟨A, c, e1, h2, h3⟩ := h.el i ws[i] _ (List.getElem?_eq_getElem hi) (List.getElem?_eq_getElem (by omega))
  exact ⟨b, o, A, c, e, by rw [hc, e1], h2, h3⟩
theorem own_sl {w : World} {B n : Nat} {e : TypeId} {v : Value} {xs : List Value} (h : w.ownsRow B e 1 v n xs) : ∃ A c, v = .slice A n c ∧ n ≤ c ∧ Sl w A xs := by
  rcases h.2 with ⟨rfl, rfl⟩ | ⟨g, cap, cur, rfl, _, _, hc, _⟩
  · have : xs = [] := List.eq_nil_of_length_eq_zero (by have := h.1; omega)
    subst this
    exact ⟨none, 0, rfl, Nat.le_refl _, Sl.nil _ _⟩
  · refine ⟨_, cap, rfl, hc, fun j u hj => ⟨g, 0, rfl, ?_⟩⟩
    have hlt : j < n := by have := (List.getElem?_eq_some_iff.1 hj).1; have := h.1; omega
    rw [Nat.zero_add, h.cellAt j (by omega)]; exact hj
/-- An append of a slice that is there, at an own row (or at nil). -/
theorem app_bss (ty : TypeId) (w : World) (B n m c : Nat) (v : Value) (a : Addr) (xs ys : List Value) (hm : ys.length = m) (hown : w.ownsRow B 22 1 v n xs) (hA : Sl w (some a) ys) (h1 : ∀ u ∈ ys, u.oneCell' = true) (hl : n + m ≤ 100000) (hB : B ≤ w.heap.size) :
    ∃ v' w', (Builtin.append_ #[91, 91] ty #[v, .slice (some a) m c]).run Try.prog w = .ok v' w' ∧ w'.ownsRow B 22 1 v' (n + m) (xs ++ ys) ∧ w.grownBy w' v.ownBlock := by
  obtain ⟨i0, hi0, hz0, hz1, hz2⟩ := info_parts info_bs
  obtain ⟨v', w', r1, r2, r3, _⟩ := run_append_own (P := Try.prog) w B 91 ty 22 i0 (.slice none 0 0) 1 24 Try.underlying91 hi0 hz0 hz1 hz2 rfl (by omega) v n xs hown a m c ys (by omega)
    (fun j u hj => by
      obtain ⟨b', o', e', hc⟩ := hA j u hj
      simp only [Option.some.injEq] at e'
      subst e'
      rw [show (Addr.add ⟨b', o', none⟩ j) = ⟨b', o' + j, none⟩ from by unfold Addr.add; split <;> simp_all]
      exact hc) h1 (by simp only [maxLen]; omega) (by omega) hB
  exact ⟨v', w', r1, r2, r3⟩
def SV.own1 (N n : Nat) (cs : List Value) : SV := ⟨fun v w => w.ownsRow N 22 1 v n cs, fun h e => ownsRow_ext h e⟩
/-- One writing that may be the last to get there. -/
def cand (old now : BL) (f k : Nat) (ws : List BL) (i : Nat) : Bool := decide (k < pEnd (ws[i]?.getD []) now k) && rReach old now (f - 1) (pEnd (ws[i]?.getD []) now k) (ws.eraseIdx i)
theorem rReach_def (old now : BL) (f k : Nat) (ws : List BL) (hf : ws.length = f) : rReach old now f k ws = (old.drop k == now.drop k || (List.range f).any (cand old now f k ws)) := by
  cases f with
  | zero => simp [rReach]
  | succ f => rw [rReach, hf]; rfl
end Go.Proofs.Ytdlalmbnkcadfaa
/- reference: Reach. -/
namespace Go.Proofs.Ytdlalmbnkcadfaa
open Go.RowKit

/-- What Reach comes to, for rows of so many writings. -/
def ReachC (f : Nat) : Prop := ∀ (Ao An P : Option Addr) (co cn c k : Nat) (old now : BL) (ws : List BL) (cs : List Value) (w : World), old.length = 32 → now.length = 32 → k ≤ 32 → ws.length = f → f ≤ 64 → (∀ x ∈ ws, x.length = 32) → By w Ao old → By w An now → RS w P cs ws → 32 ≤ co → 32 ≤ cn → f ≤ c →
  Calls Try.prog 68 #[.slice Ao 32 co, .slice An 32 cn, .int .i64 (k : Int), .slice P f c] w fun e w' => e = .returned (.bool (rReach old now f k ws)) ∧ Ext w w'
set_option maxRecDepth 100000 in
set_option maxHeartbeats 8000000 in
theorem reach_step (f : Nat) (ih : ∀ g, g + 1 = f → ReachC g) : ReachC f := by
  intro Ao An P co cn c k old now ws cs w ho hn hk hf hf64 hws hBo hBn hRS hco hcn hc
  obtain ⟨Bo, bo, so1, so2, _, _⟩ := cut_from 22 und_u8s size_u8s Ao 32 co k (k : Int) rfl hk hco
  obtain ⟨Bn, bn, sn1, sn2, _, _⟩ := cut_from 22 und_u8s size_u8s An 32 cn k (k : Int) rfl hk hcn
  have hBo' : By w Bo (old.drop k) := by
    have := so2 w (bcells old) (by simp [ho]) hBo
    rw [← List.map_drop] at this; exact this
  have hBn' : By w Bn (now.drop k) := by
    have := sn2 w (bcells now) (by simp [hn]) hBn
    rw [← List.map_drop] at this; exact this
  have cvo : ∀ w', Ext w w' → (convert 22 9 (.slice Bo (32 - k) bo)).run Try.prog w' = .ok (.string (strB (old.drop k))) w' := fun w' h => by
    have := conv_by (hBo'.ext h) bo
    rw [List.length_drop, ho] at this; exact this
  have cvn : ∀ w', Ext w w' → (convert 22 9 (.slice Bn (32 - k) bn)).run Try.prog w' = .ok (.string (strB (now.drop k))) w' := fun w' h => by
    have := conv_by (hBn'.ext h) bn
    rw [List.length_drop, hn] at this; exact this
  have HBn := Lib.hid hBn
  have HBo := Lib.hid hBo
  have HRS := Lib.hid hRS
  have Hws := Lib.hid hws
  have Hf := Lib.hid hf
  have Ho := Lib.hid ho
  have Hn := Lib.hid hn
  have hS := Lib.hid (fun w' (h : Ext w w') => (⟨h, cvo w' h, cvn w' h⟩ : Ext w w' ∧ (convert 22 9 (.slice Bo (32 - k) bo)).run Try.prog w' = .ok (.string (strB (old.drop k))) w' ∧ (convert 22 9 (.slice Bn (32 - k) bn)).run Try.prog w' = .ok (.string (strB (now.drop k))) w'))
  have hdef := Lib.hid (rReach_def old now f k ws hf)
  obtain ⟨vo, hvo⟩ : ∃ v, v = Value.slice Ao 32 co := ⟨_, rfl⟩
  obtain ⟨vn, hvn⟩ : ∃ v, v = Value.slice An 32 cn := ⟨_, rfl⟩
  rw [← hvo] at so1
  rw [← hvn] at sn1
  rw [← hvo, ← hvn]
  have Hvo := Lib.hid hvo
  have Hvn := Lib.hid hvn
  clear hBo' hBn' cvo cvn hBn hBo hRS hws hf ho hn so2 sn2 hvo hvn
  have ts := strB_toList
  cases hq : (old.drop k == now.drop k) with
  | true =>
    have Hq := Lib.hid hq
    go_enter Try.func68, Try.ntmps68
    go_wp2_with fail
    refine wp_region_rel 8 (by kernel_rfl) (by kernel_rfl) (Ext.refl w).drew ?_
    repeat (apply relW_fix
            · intro vs w' hw hf
              have hc := hS.out w' hw
              unfold okAt
              go_simp
              first | exact ⟨rfl, Ext.refl _⟩ | exact rfl
            · intro vs; go_simp; rfl)
    refine relW_nil fun vs w1 hw hf => ?_
    clear hS
    go_wp2
    go_ret
    exact ⟨ret_bool (by rw [hdef.out, Hq.out]; rfl), hw⟩
  | false =>
    have Hq := Lib.hid hq
    go_enter Try.func68, Try.ntmps68
    go_wp2_with fail
    refine wp_region_rel 8 (by kernel_rfl) (by kernel_rfl) (Ext.refl w).drew ?_
    repeat (apply relW_fix
            · intro vs w' hw hf
              have hc := hS.out w' hw
              unfold okAt
              go_simp
              first | exact ⟨rfl, Ext.refl _⟩ | exact rfl
            · intro vs; go_simp; rfl)
    refine relW_nil fun vs w1 hw hf => ?_
    have HE := Lib.hid hw
    have HBn1 := Lib.hid (HBn.out.ext hw)
    have HBo1 := Lib.hid (HBo.out.ext hw)
    have HRS1 := Lib.hid (HRS.out.ext hw)
    clear hS hw hf HBn HBo HRS
    go_wp2_with fail
    obtain rfl := Hvo.out
    obtain rfl := Hvn.out
    clear so1 sn1 hq ts Hvo Hvn
    go_loopw [9] (fun vi wr => ∃ i : Nat, i ≤ f ∧ vi = .int .i64 i ∧ Ext w1 wr ∧ Hid (∀ j, j < i → cand old now f k ws j = false)) (fun vi _ => f - (intOf vi).toNat)
    case atStart => exact ⟨0, Nat.zero_le _, rfl, Ext.refl _, fun j hj => absurd hj (Nat.not_lt_zero _)⟩
    case round =>
      obtain ⟨i, hi, rfl, hEr, Hj⟩ := hrel
      have hi9 : (i : Int) ≤ 64 := by omega
      by_cases hlt : i < f
      · have hiw : i < ws.length := by have := Hf.out; omega
        obtain ⟨pb, po, Xa, xc, rfl, p1, p2, p3⟩ := (HRS1.out.ext hEr).cell hiw
        have hx32 := Lib.hid (Hws.out ws[i] (List.getElem_mem hiw))
        have HRSr := Lib.hid (HRS1.out.ext hEr)
        have HBnr := Lib.hid (HBn1.out.ext hEr)
        have HBor := Lib.hid (HBo1.out.ext hEr)
        have HEr := Lib.hid hEr
        have hlt' : (i : Int) < (f : Int) := by omega
        go_wp2_with fail
        obtain ⟨A1, c1, s1, s2, s3, _⟩ := cut_to 91 und_bss size_bss (some ⟨pb, po, none⟩) f c i (by omega) hc
        obtain ⟨A2, c2, z1, z2, z3, _⟩ := cut_from 91 und_bss size_bss (some ⟨pb, po, none⟩) f c (i + 1) ((i : Int) + 1) (by omega) (by omega) hc
        obtain ⟨a1, rfl⟩ := s3 _ rfl
        obtain ⟨a2, rfl⟩ := z3 _ rfl
        have hcl : cs.length = f := by have := HRSr.out.len; have := Hf.out; omega
        have Hcl := Lib.hid hcl
        have S2 := Lib.hid (fun w' (h : Ext wr w') => s2 w' cs (HRSr.out.ext h).sl)
        have Z2 := Lib.hid (fun w' (h : Ext wr w') => z2 w' cs hcl (HRSr.out.ext h).sl)
        have Hone : Hid (∀ u ∈ cs, u.oneCell' = true) := fun u hu => by
          obtain ⟨j, hj, rfl⟩ := List.mem_iff_getElem.1 hu
          exact (HRSr.out.el j (ws[j]'(by have := HRSr.out.len; omega)) _ (List.getElem?_eq_getElem _) (List.getElem?_eq_getElem hj)).one
        have w1' : IntKind.i64.wrap ((i : Int) + 1) = (i : Int) + 1 := by simp [IntKind.wrap, IntKind.bits, IntKind.signed]; omega
        have hS := Lib.hid (fun w' (h : Ext wr w') => (⟨h, trivial⟩ : Ext wr w' ∧ True))
        obtain ⟨vl, hvl⟩ : ∃ v, v = Value.slice (some ⟨pb, po, none⟩) f c := ⟨_, rfl⟩
        rw [← hvl] at s1 z1 ⊢
        have Hvl := Lib.hid hvl
        clear hvl hcl s2 z2 s3 z3 hEr
        refine wp_region_rel 9 (by kernel_rfl) (by kernel_rfl) (Ext.refl wr).drew ?_
        (apply relW_fix
         · intro vs w' hw hf
           have hc := hS.out w' hw
           unfold okAt
           go_simp
           first | exact ⟨rfl, Ext.refl _⟩ | exact rfl
         · intro vs; go_simp; rfl)
        (apply relW_fix
         · intro vs w' hw hf
           have hc := hS.out w' hw
           unfold okAt
           go_simp
           first | exact ⟨rfl, Ext.refl _⟩ | exact rfl
         · intro vs; go_simp; rfl)
        (apply relW_fix
         · intro vs w' hw hf
           have hc := hS.out w' hw
           unfold okAt
           go_simp
           first | exact ⟨rfl, Ext.refl _⟩ | exact rfl
         · intro vs; go_simp; rfl)
        (apply relW_fix
         · intro vs w' hw hf
           have hc := hS.out w' hw
           unfold okAt
           go_simp
           first | exact ⟨rfl, Ext.refl _⟩ | exact rfl
         · intro vs; go_simp; rfl)
        (apply relW_any (SV.own1 wr.heap.size i (cs.take i))
         · intro vs w' hw hf
           obtain ⟨v', w2, h1, h2, h3⟩ := app_bss 91 w' wr.heap.size 0 i c1 (.slice none 0 0) a1 [] (cs.take i) (by have := Hcl.out; simp; omega) (World.ownsRow_nil _ _ _ _) (S2.out w' hw) (fun u hu => Hone.out u (List.mem_of_mem_take hu)) (by omega) hw.size
           rw [Nat.zero_add, List.nil_append] at h2
           exact okAt_app rfl _ _ _ rfl _ _ v' rfl rfl h1 h2 ⟨h3.os, h3.tape, h3.output, h3.size, fun k hk => h3.block k hk (by simp [Value.ownBlock])⟩
         · intro vs; go_simp; rfl)
        (apply relW_fix
         · intro vs w' hw hf
           have hc := hS.out w' hw
           unfold okAt
           go_simp
           first | exact ⟨rfl, Ext.refl _⟩ | exact rfl
         · intro vs; go_simp; rfl)
        (apply relW_fix
         · intro vs w' hw hf
           have hc := hS.out w' hw
           unfold okAt
           go_simp
           first | exact ⟨rfl, Ext.refl _⟩ | exact rfl
         · intro vs; go_simp; rfl)
        (apply relW_fix
         · intro vs w' hw hf
           have hc := hS.out w' hw
           unfold okAt
           go_simp
           first | exact ⟨rfl, Ext.refl _⟩ | exact rfl
         · intro vs; go_simp; rfl)
        (apply relW_fix
         · intro vs w' hw hf
           have hc := hS.out w' hw
           unfold okAt
           go_simp
           first | exact ⟨rfl, Ext.refl _⟩ | exact rfl
         · intro vs; go_simp; rfl)
        refine relW_nil fun vs2 w2 hw hf => ?_
        obtain ⟨e4, -⟩ := hf
        have e4 : w2.ownsRow wr.heap.size 22 1 (vs2 4) i (cs.take i) := e4
        obtain ⟨v', w3, h1, h2, h3⟩ := app_bss 91 w2 wr.heap.size i (f - (i + 1)) c2 (vs2 4) a2 (cs.take i) (cs.drop (i + 1)) (by have := Hcl.out; simp; omega) e4 (Z2.out w2 hw) (fun u hu => Hone.out u (List.mem_of_mem_drop hu)) (by omega) hw.size
        have hE3 : Ext wr w3 := Below.grown hw h3 hw.size (fun x hx => (e4.lt x hx).1)
        refine wpList_app rfl (.tmp 31) (.tmp 35) 91 rfl _ _ _ (by rfl) (by rfl) h1 ?_
        obtain rfl := Hvl.out
        obtain ⟨P', c', rfl, hc', hsl⟩ := own_sl h2
        have hlen : i + (f - (i + 1)) = f - 1 := by omega
        rw [hlen] at hc' ⊢
        have HRe := Lib.hid ((HRSr.out.ext hE3).erase i hsl)
        have HB3 := Lib.hid (HBnr.out.ext hE3)
        have HO3 := Lib.hid (HBor.out.ext hE3)
        have HR3 := Lib.hid (HRSr.out.ext hE3)
        have HE3 := Lib.hid (HEr.out.trans hE3)
        have hf1 : f - 1 + 1 = f := by omega
        have hfe : (ws.eraseIdx i).length = f - 1 := by rw [List.length_eraseIdx, if_pos hiw, Hf.out]
        have Hfe := Lib.hid hfe
        obtain ⟨g, hg⟩ : ∃ g, g = f - 1 := ⟨_, rfl⟩
        rw [← hg] at hc' ⊢
        have Hg := Lib.hid hg
        clear hw h1 h2 h3 hE3 hsl hlen e4 s1 z1 S2 Z2 Hone hS HRSr HBnr HBor p1 p3 w1' hg hf1 hfe
        go_wp2_with fail
        go_loopw [11] (fun ve wx => ∃ e : Nat, k ≤ e ∧ e ≤ 32 ∧ ve = .int .i64 e ∧ Ext w3 wx ∧ Hid (pEnd ws[i] now k = pEnd ws[i] now e)) (fun ve _ => 32 - (intOf ve).toNat)
        case atStart => exact ⟨k, Nat.le_refl _, hk, rfl, Ext.refl _, rfl⟩
        case round =>
          obtain ⟨e, hke, he32, rfl, hEx, Hp⟩ := hrel
          have he9 : (e : Int) ≤ 32 := by omega
          by_cases he : e < 32
          · obtain ⟨pb', po', Xb, xd, hpp, x1, x2, x3⟩ := (HR3.out.ext hEx).cell hiw
            simp only [Option.some.injEq, Addr.mk.injEq, and_true] at hpp
            obtain ⟨rfl, rfl⟩ := hpp
            obtain ⟨xb, xo, rfl, y1⟩ := x3.at (j := e) (by have := hx32.out; omega)
            obtain ⟨nb, no, rfl, n1⟩ := (HB3.out.ext hEx).at (j := e) (by have := Hn.out; omega)
            have hex : e < ws[i].length := by have := hx32.out; omega
            have hen : e < now.length := by have := Hn.out; omega
            have t1 : (e : Int) < 32 := by omega
            have t2 : (e : Int) < (ws[i].length : Int) := by omega
            have t3 : (e : Int) < 32 := by omega
            have hS := Lib.hid (fun w' (h : Ext wr w') => (⟨h, cellExt h x1, cellExt h y1, cellExt h n1⟩ : Ext wr w' ∧ w'.cell? ⟨pb, po + i, none⟩ = some (.slice (some ⟨xb, xo, none⟩) ws[i].length xd) ∧ w'.cell? ⟨xb, xo + e, none⟩ = some (.int .u8 (ws[i][e].toNat : Int)) ∧ w'.cell? ⟨nb, no + e, none⟩ = some (.int .u8 (now[e].toNat : Int))))
            by_cases hxe : ws[i][e] = now[e]
            · have tq : ((ws[i][e].toNat : Int) == (now[e].toNat : Int)) = true := by rw [hxe]; simp
              have Hp' : Hid (pEnd ws[i] now k = pEnd ws[i] now (e + 1)) := Hp.out.trans (pEnd_step hex hen hxe)
              clear hxe x1 x3 y1 n1
              go_wp2_with fail
              refine wp_region_rel 16 (by kernel_rfl) (by kernel_rfl) (Ext.refl wr).drew ?_
              repeat (apply relW_fix
                      · intro vs w' hw hf
                        have hc := hS.out w' hw
                        unfold okAt
                        go_simp
                        first | exact ⟨rfl, Ext.refl _⟩ | exact rfl
                      · intro vs; go_simp; rfl)
              refine relW_nil fun vs4 w4 hw hf => ?_
              refine wpList_nil ?_
              clear hS hf
              go_wp2
              go_roundw
              case rel => exact ⟨e + 1, by omega, by omega, by go_num, hEx.trans hw, Hp'⟩
              case measure => simp [intOf]; omega
            · have tq : ((ws[i][e].toNat : Int) == (now[e].toNat : Int)) = false := by
                rw [beq_eq_false_iff_ne]
                intro h
                exact hxe (UInt8.toNat_inj.1 (by omega))
              have Hpe : Hid (pEnd ws[i] now k = e) := Hp.out.trans (pEnd_stop hex hen hxe)
              clear hxe x1 x3 y1 n1
              go_wp2_with fail
              refine wp_region_rel 16 (by kernel_rfl) (by kernel_rfl) (Ext.refl wr).drew ?_
              repeat (apply relW_fix
                      · intro vs w' hw hf
                        have hc := hS.out w' hw
                        unfold okAt
                        go_simp
                        first | exact ⟨rfl, Ext.refl _⟩ | exact rfl
                      · intro vs; go_simp; rfl)
              refine relW_nil fun vs4 w4 hw hf => ?_
              refine wpList_nil ?_
              clear hS hf
              have hE4 := hEx.trans hw
              have HB4 := Lib.hid (HB3.out.ext hE4)
              have HO4 := Lib.hid (HO3.out.ext hE4)
              have HR4 := Lib.hid (HRe.out.ext hE4)
              have HE4 := Lib.hid (HE3.out.trans hE4)
              have hgl : (ws[i]?.getD []) = ws[i] := by rw [List.getElem?_eq_getElem hiw]; rfl
              have Hgl := Lib.hid hgl
              clear hw hE4 HB3 HO3 HR3 HRe HE3 hEx hgl
              by_cases hlk : k < e
              · have t5 : (k : Int) < (e : Int) := by omega
                go_wp2_with fail
                refine (ih g (by have := Hg.out; omega) _ _ P' _ _ c' e old now (ws.eraseIdx i) _ w4 Ho.out Hn.out he32 (by have := Hfe.out; have := Hg.out; omega) (by have := Hg.out; omega) (fun y hy => Hws.out y (List.mem_of_mem_eraseIdx hy)) HO4.out HB4.out HR4.out hco hcn hc').mono ?_
                rintro e5 w5 ⟨rfl, hE5⟩
                have HE5 := Lib.hid (HE4.out.trans hE5)
                have Hc : Hid (cand old now f k ws i = rReach old now g e (ws.eraseIdx i)) := by
                  show _ = _
                  unfold cand
                  rw [Hgl.out, Hpe.out, decide_eq_true hlk, Bool.true_and, ← Hg.out]
                clear hE5 t5
                cases hb : rReach old now g e (ws.eraseIdx i) with
                | true =>
                  have hfin : Hid (rReach old now f k ws = true) := by
                    show _ = _
                    rw [hdef.out]
                    have : (List.range f).any (cand old now f k ws) = true := List.any_eq_true.2 ⟨i, List.mem_range.2 hlt, by rw [Hc.out]; exact hb⟩
                    rw [this]; simp
                  clear hb
                  go_wp2
                  go_ret
                  exact ⟨ret_bool hfin.out.symm, HE.out.trans HE5.out⟩
                | false =>
                  have Hj' : Hid (∀ j, j < i + 1 → cand old now f k ws j = false) := fun j hj => by
                    by_cases h : j = i
                    · subst h; rw [Hc.out]; exact hb
                    · exact Hj.out j (by omega)
                  clear hb
                  go_wp2
                  go_roundw
                  case rel => exact ⟨i + 1, by omega, by go_num, HE5.out, Hj'⟩
                  case measure => simp [intOf]; omega
              · have t5 : ¬ (k : Int) < (e : Int) := by omega
                have Hj' : Hid (∀ j, j < i + 1 → cand old now f k ws j = false) := fun j hj => by
                  by_cases h : j = i
                  · subst h
                    unfold cand
                    rw [Hgl.out, Hpe.out, decide_eq_false hlk, Bool.false_and]
                  · exact Hj.out j (by omega)
                go_wp2
                go_roundw
                case rel => exact ⟨i + 1, by omega, by go_num, HE4.out, Hj'⟩
                case measure => simp [intOf]; omega
          · have t1 : decide ((e : Int) < 32) = false := decide_eq_false (by omega)
            have Hpe : Hid (pEnd ws[i] now k = e) := Hp.out.trans (pEnd_end (by have := hx32.out; omega))
            have hS := Lib.hid (fun w' (h : Ext wr w') => (⟨h, trivial⟩ : Ext wr w' ∧ True))
            go_wp2_with fail
            refine wp_region_rel 16 (by kernel_rfl) (by kernel_rfl) (Ext.refl wr).drew ?_
            repeat (apply relW_fix
                    · intro vs w' hw hf
                      have hc := hS.out w' hw
                      unfold okAt
                      go_simp
                      first | exact ⟨rfl, Ext.refl _⟩ | exact rfl
                    · intro vs; go_simp; rfl)
            refine relW_nil fun vs4 w4 hw hf => ?_
            refine wpList_nil ?_
            clear hS hf
            have hE4 := hEx.trans hw
            have HB4 := Lib.hid (HB3.out.ext hE4)
            have HO4 := Lib.hid (HO3.out.ext hE4)
            have HR4 := Lib.hid (HRe.out.ext hE4)
            have HE4 := Lib.hid (HE3.out.trans hE4)
            have hgl : (ws[i]?.getD []) = ws[i] := by rw [List.getElem?_eq_getElem hiw]; rfl
            have Hgl := Lib.hid hgl
            clear hw hE4 HB3 HO3 HR3 HRe HE3 hEx hgl
            by_cases hlk : k < e
            · have t5 : (k : Int) < (e : Int) := by omega
              go_wp2_with fail
              refine (ih g (by have := Hg.out; omega) _ _ P' _ _ c' e old now (ws.eraseIdx i) _ w4 Ho.out Hn.out he32 (by have := Hfe.out; have := Hg.out; omega) (by have := Hg.out; omega) (fun y hy => Hws.out y (List.mem_of_mem_eraseIdx hy)) HO4.out HB4.out HR4.out hco hcn hc').mono ?_
              rintro e5 w5 ⟨rfl, hE5⟩
              have HE5 := Lib.hid (HE4.out.trans hE5)
              have Hc : Hid (cand old now f k ws i = rReach old now g e (ws.eraseIdx i)) := by
                show _ = _
                unfold cand
                rw [Hgl.out, Hpe.out, decide_eq_true hlk, Bool.true_and, ← Hg.out]
              clear hE5 t5
              cases hb : rReach old now g e (ws.eraseIdx i) with
              | true =>
                have hfin : Hid (rReach old now f k ws = true) := by
                  show _ = _
                  rw [hdef.out]
                  have : (List.range f).any (cand old now f k ws) = true := List.any_eq_true.2 ⟨i, List.mem_range.2 hlt, by rw [Hc.out]; exact hb⟩
                  rw [this]; simp
                clear hb
                go_wp2
                go_ret
                exact ⟨ret_bool hfin.out.symm, HE.out.trans HE5.out⟩
              | false =>
                have Hj' : Hid (∀ j, j < i + 1 → cand old now f k ws j = false) := fun j hj => by
                  by_cases h : j = i
                  · subst h; rw [Hc.out]; exact hb
                  · exact Hj.out j (by omega)
                clear hb
                go_wp2
                go_roundw
                case rel => exact ⟨i + 1, by omega, by go_num, HE5.out, Hj'⟩
                case measure => simp [intOf]; omega
            · have t5 : ¬ (k : Int) < (e : Int) := by omega
              have Hj' : Hid (∀ j, j < i + 1 → cand old now f k ws j = false) := fun j hj => by
                by_cases h : j = i
                · subst h
                  unfold cand
                  rw [Hgl.out, Hpe.out, decide_eq_false hlk, Bool.false_and]
                · exact Hj.out j (by omega)
              go_wp2
              go_roundw
              case rel => exact ⟨i + 1, by omega, by go_num, HE4.out, Hj'⟩
              case measure => simp [intOf]; omega
      · obtain rfl : i = f := by omega
        have hfin : Hid (rReach old now i k ws = false) := by
          show _ = _
          rw [hdef.out, Hq.out, Bool.false_or, List.any_eq_false]
          exact fun j hj => by rw [Hj.out j (List.mem_range.1 hj)]; simp
        have hE := Lib.hid hEr
        clear hEr
        go_wp2
        go_ret
        exact ⟨ret_bool hfin.out.symm, HE.out.trans hE.out⟩
theorem reach_all : ∀ f, ReachC f
  | 0 => reach_step 0 (fun g h => absurd h (by omega))
  | f + 1 => reach_step (f + 1) (fun g h => by obtain rfl : g = f := by omega
                                               exact reach_all g)
end Go.Proofs.Ytdlalmbnkcadfaa
/- reference: Possible. -/
namespace Go.Proofs.Ytdlalmbnkcadfaa
open Go.RowKit

theorem By.subA {w : World} {g q o k : Nat} {bs : BL} (h : By w (some ⟨g, q, none⟩) bs) : By w (some ⟨g, q + o, none⟩) ((bs.drop o).take k) := fun j v hj => by
  have hj' : (bcells bs)[o + j]? = some v := by
    rw [← hj]
    have hjk : j < k := by
      have := (List.getElem?_eq_some_iff.1 hj).1
      simp at this
      omega
    simp only [bcells, List.getElem?_map, List.getElem?_take, if_pos hjk, List.getElem?_drop]
  obtain ⟨b, q', e, hc⟩ := h (o + j) v hj'
  simp only [Option.some.injEq, Addr.mk.injEq, and_true] at e
  obtain ⟨rfl, rfl⟩ := e
  exact ⟨g, q + o, rfl, by rw [show q + o + j = q + (o + j) by omega]; exact hc⟩
def SV.ss (ws : List BL) : SV := ⟨fun v w => ∃ P c, v = .slice P ws.length c ∧ SS w P ws ∧ ws.length ≤ c, fun ⟨P, c, h1, h2, h3⟩ e => ⟨P, c, h1, h2.ext e, h3⟩⟩
set_option maxRecDepth 100000 in
set_option maxHeartbeats 8000000 in
theorem rPoss_any (A P B : Option Addr) (c p d : Nat) (D : Dk) (b : BL) (w : World) (hA : By w A D.bytes) (hP : Ws w P D.pend) (hB : By w B b) (hsm : Small D) (hcA : D.bytes.length ≤ c) (hbd : b.length ≤ d) (hbl : b.length ≤ 100000) :
    Calls Try.prog 30 #[.agg #[.slice A D.bytes.length c, .slice P D.pend.length p], .slice B b.length d] w (RetP w (pPossE D b) (pPossR D b)) := by
  obtain ⟨W, hW, hE, hz, k0⟩ := box1 w #[.slice A D.bytes.length c, .slice P D.pend.length p] 25
  have HA := Lib.hid (hA.ext hE)
  have HP := Lib.hid (hP.ext hE)
  have HB := Lib.hid (hB.ext hE)
  have HK := Lib.hid k0
  have HE := Lib.hid hE
  have Hsm := Lib.hid hsm
  clear hE hz k0 hA hP hB hsm
  have d0 := HK.out.cell 0
  have d1 := HK.out.cell 1
  simp at d0 d1
  go_enter Try.func30, Try.ntmps30
  go_wp2_with fail
  refine (rCheck_any A P c p D W HP.out Hsm.out).mono ?_
  rintro e w1 ⟨rfl, hE1⟩
  clear hW d0 d1
  have Hq := Lib.hid (HA.out.ext hE1)
  clear HA
  have HA := Hq
  clear Hq
  have Hq := Lib.hid (HP.out.ext hE1)
  clear HP
  have HP := Hq
  clear Hq
  have Hq := Lib.hid (HB.out.ext hE1)
  clear HB
  have HB := Hq
  clear Hq
  have Hq := Lib.hid (HK.out.ext hE1)
  clear HK
  have HK := Hq
  clear Hq
  have Hq := Lib.hid (HE.out.trans hE1)
  clear HE
  have HE := Hq
  clear Hq
  clear hE1
  by_cases h1 : pCheck D = 0
  · rw [h1]
    by_cases h2 : b.length = D.bytes.length
    · have t3 : ((b.length : Int) != (D.bytes.length : Int)) = false := by simp [h2]
      obtain ⟨hr0, hr1, hr2, hr3, hr4⟩ := pCheck_ok h1
      obtain ⟨nb, hnb⟩ : ∃ nb, nb = D.bytes.length / 32 := ⟨_, rfl⟩
      have Hnb := Lib.hid hnb
      have Hl : Hid (nb * 32 = D.bytes.length ∧ nb ≤ 256 ∧ 1 ≤ nb ∧ b.length = D.bytes.length) := ⟨by omega, by omega, by omega, h2⟩
      have Hok : Hid (∀ n, ∀ x ∈ pWs D n, x.length = 32) := fun n x hx => by
        unfold pWs at hx
        obtain ⟨y, hy, rfl⟩ := List.mem_map.1 hx
        obtain ⟨_, _, _, hl⟩ := okWr_iff (hr4 y (List.mem_filter.1 hy).1)
        exact hl
      have Hlen : Hid (∀ n, (pWs D n).length ≤ 64) := fun n => by
        unfold pWs
        rw [List.length_map]
        exact Nat.le_trans (List.length_filter_le _ _) hr3
      have HpE : Hid (pPossE D b = if (List.range nb).any (fun n => decide (5 < (pWs D n).length)) = true then 5 else 0) := by
        show _ = _
        unfold pPossE
        rw [if_pos h1, if_pos h2, ← hnb]
      have HpR : Hid (pPossR D b = (decide (pPossE D b = 0) && (List.range nb).all fun n => pPoss1 (blkB D.bytes n) (blkB b n) (pWs D n))) := by
        show _ = _
        unfold pPossR
        rw [← hnb]
      clear h1 h2 hr0 hr1 hr2 hr3 hr4 hnb
      have d0 := HK.out.cell 0
      have d1 := HK.out.cell 1
      simp at d0 d1
      go_wp2_with fail
      clear t3 d0 d1
      go_loopw [7] (fun vi wr => ∃ n : Nat, n ≤ nb ∧ vi = .int .i64 n ∧ Ext w1 wr ∧ Hid (∀ j, j < n → (pWs D j).length ≤ 5)) (fun vi _ => nb - (intOf vi).toNat)
      case atStart => exact ⟨0, Nat.zero_le _, rfl, Ext.refl _, fun j hj => absurd hj (Nat.not_lt_zero _)⟩
      case round =>
        obtain ⟨n, hn, rfl, hEr, Hj⟩ := hrel
        have hn9 : (n : Int) ≤ 256 := by have := Hl.out; omega
        have HEr := Lib.hid hEr
        have d0 := (HK.out.ext hEr).cell 0
        have d1 := (HK.out.ext hEr).cell 1
        simp at d0 d1
        clear hEr
        go_wp2_with fail
        refine (rBlocks_any A P _ c _ p wr (by have := Hsm.out.1; omega)).mono ?_
        rintro e w4 ⟨rfl, hE4⟩
        rw [← Hnb.out]
        have HE4 := Lib.hid (HEr.out.trans hE4)
        clear hE4 d0 d1 HEr
        by_cases hlt : n < nb
        · have hlt' : (n : Int) < (nb : Int) := by omega
          have d0 := (HK.out.ext HE4.out).cell 0
          have d1 := (HK.out.ext HE4.out).cell 1
          simp at d0 d1
          go_wp2_with fail
          refine (rOf_any A P c p n D w4 (HP.out.ext HE4.out) Hsm.out).mono ?_
          rintro e w6 ⟨P', c', rfl, hE6, _, _⟩
          have HE6 := Lib.hid (HE4.out.trans hE6)
          clear hE6 d0 d1
          by_cases h5 : (pWs D n).length ≤ 5
          · have t5 : ¬ (5 : Int) < ((pWs D n).length : Int) := by omega
            have Hj' : Hid (∀ j, j < n + 1 → (pWs D j).length ≤ 5) := fun j hj => by
              by_cases h : j = n
              · subst h; exact h5
              · exact Hj.out j (by omega)
            clear h5
            go_wp2
            go_roundw
            case rel => exact ⟨n + 1, by omega, by go_num, HE6.out, Hj'⟩
            case measure => simp [intOf]; omega
          · have t5 : (5 : Int) < ((pWs D n).length : Int) := by omega
            have he : Hid (pPossE D b = 5) := by
              show _ = _
              rw [HpE.out, if_pos]
              exact List.any_eq_true.2 ⟨n, List.mem_range.2 hlt, decide_eq_true (by omega)⟩
            have hrr : Hid (pPossR D b = false) := by show _ = _; rw [HpR.out, he.out]; rfl
            clear h5
            go_wp2
            go_ret2
            exact ⟨by rw [he.out, hrr.out]; rfl, HE.out.trans HE6.out⟩
        · have hlt' : ¬ (n : Int) < (nb : Int) := by omega
          obtain rfl : n = nb := by omega
          have he : Hid (pPossE D b = 0) := by
            show _ = _
            rw [HpE.out, if_neg]
            rw [Bool.not_eq_true, List.any_eq_false]
            intro j hj
            have := Hj.out j (List.mem_range.1 hj)
            simp; omega
          have hrr : Hid (pPossR D b = (List.range n).all fun n => pPoss1 (blkB D.bytes n) (blkB b n) (pWs D n)) := by show _ = _; rw [HpR.out, he.out]; simp
          clear HpE HpR hn9 hn
          have HA1 := Lib.hid (HA.out.ext HE4.out)
          have HP1 := Lib.hid (HP.out.ext HE4.out)
          have HB1 := Lib.hid (HB.out.ext HE4.out)
          have HK1 := Lib.hid (HK.out.ext HE4.out)
          have HE1 := Lib.hid (HE.out.trans HE4.out)
          clear HE4 HA HP HB HK HE
          go_wp2_with fail
          go_loopw [8] (fun vi wr => ∃ k : Nat, k ≤ n ∧ vi = .int .i64 k ∧ Ext w4 wr ∧ Hid (∀ j, j < k → pPoss1 (blkB D.bytes j) (blkB b j) (pWs D j) = true)) (fun vi _ => n - (intOf vi).toNat)
          case atStart => exact ⟨0, Nat.zero_le _, rfl, Ext.refl _, fun j hj => absurd hj (Nat.not_lt_zero _)⟩
          case round =>
            obtain ⟨k, hk, rfl, hEr, Hk⟩ := hrel
            have HEr := Lib.hid hEr
            have d0 := (HK1.out.ext hEr).cell 0
            have d1 := (HK1.out.ext hEr).cell 1
            simp at d0 d1
            clear hEr
            have hk9 : (k : Int) ≤ 256 := by have := Hl.out; omega
            go_wp2_with fail
            refine (rBlocks_any A P _ c _ p wr (by have := Hsm.out.1; omega)).mono ?_
            rintro e w5 ⟨rfl, hE5⟩
            rw [← Hnb.out]
            have HE5 := Lib.hid (HEr.out.trans hE5)
            clear hE5 d0 d1 HEr
            by_cases hlt : k < n
            · have hlt2 : (k : Int) < (n : Int) := by omega
              have hll := Hl.out
              obtain ⟨ab, ao, rfl, -⟩ := (HA1.out.ext HE5.out).at (j := 0) (by omega)
              obtain ⟨bb, bo, rfl, -⟩ := (HB1.out.ext HE5.out).at (j := 0) (by omega)
              have HA5 := Lib.hid (HA1.out.ext HE5.out)
              have HB5 := Lib.hid (HB1.out.ext HE5.out)
              have HP5 := Lib.hid (HP1.out.ext HE5.out)
              have hS := Lib.hid (fun w' (h : Ext w5 w') => (⟨h, (HK1.out.ext (HE5.out.trans h)).cell 0, (HK1.out.ext (HE5.out.trans h)).cell 1⟩ : Ext w5 w' ∧ w'.cell? ⟨w.heap.size, 0, none⟩ = some (.slice (some ⟨ab, ao, none⟩) D.bytes.length c) ∧ w'.cell? ⟨w.heap.size, 1, none⟩ = some (.slice P D.pend.length p)))
              have w1' : IntKind.i64.wrap (32 * (k : Int)) = 32 * (k : Int) := by simp [IntKind.wrap, IntKind.bits, IntKind.signed]; omega
              have w2' : IntKind.i64.wrap (32 * (k : Int) + 32) = 32 * (k : Int) + 32 := by simp [IntKind.wrap, IntKind.bits, IntKind.signed]; omega
              have u1 : (0 : Int) ≤ 32 * (k : Int) := by omega
              have u2 : (0 : Int) ≤ 32 * (k : Int) + 32 := by omega
              have u3 : 32 * (k : Int) + 32 ≤ (c : Int) := by omega
              have u4 : 32 * (k : Int) + 32 ≤ (d : Int) := by omega
              have u0 : 32 * (k : Int) ≤ 32 * (k : Int) + 32 := by omega
              have u5 : 32 * (k : Int) ≤ max (32 * (k : Int) + 32) 0 := by omega
              have u6 : (32 * (k : Int)).toNat = 32 * k := by omega
              have u7 : (32 * (k : Int) + 32).toNat = 32 * k + 32 := by omega
              have u8 : ¬ c = 32 * k := by omega
              have u9 : ¬ d = 32 * k := by omega
              have hc32 : Hid (32 ≤ c - 32 * k ∧ 32 ≤ d - 32 * k) := ⟨by omega, by omega⟩
              have hlo : Hid ((blkB D.bytes k).length = 32 ∧ (blkB b k).length = 32) := ⟨by unfold blkB; simp; omega, by unfold blkB; simp; omega⟩
              clear hll
              go_wp2_with fail
              refine wp_region_rel 18 (by kernel_rfl) (by kernel_rfl) (Ext.refl w5).drew ?_
              repeat (apply relW_fix
                      · intro vs w' hw hf
                        have hc := hS.out w' hw
                        unfold okAt
                        go_simp
                        first | exact ⟨rfl, Ext.refl _⟩ | exact rfl
                      · intro vs; go_simp; rfl)
              (apply relW_any (SV.ss (pWs D k))
               · intro vs w' hw hf
                 have hc := hS.out w' hw
                 skip
                 unfold okAt
                 go_simp
                 refine ⟨Ext.refl _, ?_⟩; go_at_call 67; refine (rOf_any (some ⟨ab, ao, none⟩) P c p k D w' (HP5.out.ext hw) Hsm.out).mono ?_; rintro e w7 ⟨P', c', rfl, h1, h2, h3⟩; exact ⟨_, rfl, ⟨P', c', rfl, h2, h3⟩, h1⟩
               · intro vs; go_simp; rfl)
              refine relW_nil fun vs w6 hw hf => ?_
              obtain ⟨⟨P6, c6, e6, hSS, hc6⟩, -⟩ := hf
              obtain ⟨cs, hRS⟩ := RS.of_ss hSS
              have ea : blkB D.bytes k = (D.bytes.drop (32 * k)).take 32 := by unfold blkB; rw [Nat.mul_comm]
              have eb : blkB b k = (b.drop (32 * k)).take 32 := by unfold blkB; rw [Nat.mul_comm]
              have HA6 := (HA5.out.ext hw).subA (o := 32 * k) (k := 32)
              have HB6 := (HB5.out.ext hw).subA (o := 32 * k) (k := 32)
              rw [← ea] at HA6
              rw [← eb] at HB6
              have HA6 := Lib.hid HA6
              have HB6 := Lib.hid HB6
              have HE6 := Lib.hid (HE5.out.trans hw)
              clear hS hw hSS ea eb u0 u1 u2 u3 u4 u5 u6 u7 u8 u9 w1' w2'
              have hcall := reach_all (pWs D k).length (some ⟨ab, ao + 32 * k, none⟩) (some ⟨bb, bo + 32 * k, none⟩) P6 (c - 32 * k) (d - 32 * k) c6 0 (blkB D.bytes k) (blkB b k) (pWs D k) cs w6 hlo.out.1 hlo.out.2 (by omega) rfl (Hlen.out k) (Hok.out k) HA6.out HB6.out hRS hc32.out.1 hc32.out.2 hc6
              rw [show ((0 : Nat) : Int) = 0 from rfl] at hcall
              have Hcall := Lib.hid hcall
              clear hcall hRS
              go_wp2_with fail
              refine Hcall.out.mono ?_
              rintro e w7 ⟨rfl, hE7⟩
              have HE7 := Lib.hid (HE6.out.trans hE7)
              clear hE7 Hcall
              cases hb : rReach (blkB D.bytes k) (blkB b k) (pWs D k).length 0 (pWs D k) with
              | true =>
                have Hk' : Hid (∀ j, j < k + 1 → pPoss1 (blkB D.bytes j) (blkB b j) (pWs D j) = true) := fun j hj => by
                  by_cases h : j = k
                  · subst h; exact hb
                  · exact Hk.out j (by omega)
                clear hb
                go_wp2
                go_roundw
                case rel => exact ⟨k + 1, by omega, by go_num, HE7.out, Hk'⟩
                case measure => simp [intOf]; omega
              | false =>
                have hr2 : Hid (pPossR D b = false) := by
                  show _ = _
                  rw [hrr.out, ← Bool.not_eq_true, List.all_eq_true]
                  intro h
                  have := h k (List.mem_range.2 hlt)
                  have hb' : pPoss1 (blkB D.bytes k) (blkB b k) (pWs D k) = false := hb
                  rw [hb'] at this
                  cases this
                clear hb
                go_wp2
                go_ret2
                exact ⟨by rw [he.out, hr2.out]; rfl, HE1.out.trans HE7.out⟩
            · have hlt2 : ¬ (k : Int) < (n : Int) := by omega
              obtain rfl : k = n := by omega
              have hr2 : Hid (pPossR D b = true) := by
                show _ = _
                rw [hrr.out, List.all_eq_true]
                exact fun j hj => Hk.out j (List.mem_range.1 hj)
              go_wp2
              go_ret2
              exact ⟨by rw [he.out, hr2.out]; rfl, HE1.out.trans HE5.out⟩
    · have t3 : ((b.length : Int) != (D.bytes.length : Int)) = true := by simp; omega
      have he : Hid (pPossE D b = 3) := by show _ = _; unfold pPossE; rw [if_pos h1, if_neg h2]
      have hrr : Hid (pPossR D b = false) := by show _ = _; unfold pPossR; rw [he.out]; rfl
      clear h1 h2
      have d0 := HK.out.cell 0
      have d1 := HK.out.cell 1
      simp at d0 d1
      go_wp2
      go_ret2
      exact ⟨by rw [he.out, hrr.out]; rfl, HE.out⟩
  · have t3 : (pCheck D != 0) = true := by simpa using h1
    have he : Hid (pPossE D b = pCheck D) := by show _ = _; unfold pPossE; rw [if_neg h1]
    have hrr : Hid (pPossR D b = false) := by show _ = _; unfold pPossR; rw [he.out, decide_eq_false h1]; rfl
    clear h1
    go_wp2
    go_ret2
    exact ⟨by rw [he.out, hrr.out]; rfl, HE.out⟩
end Go.Proofs.Ytdlalmbnkcadfaa
