/- slices: ranges swapped, rotated. -/
import Derived.Test.YtdlalmbnkcadfaaM10
import Derived.Test.YtdlalmbnkcadfaaM05
namespace Go.Proofs.Ytdlalmbnkcadfaa
open Go.RowKit

abbrev ncells (xs : List Nat) : List Value := xs.map fun n : Nat => Value.int .i64 (n : Int)
/-- A row of numbers that the call has made: block g holds xs, and spare cells behind. -/
def OI (w : World) (g cap : Nat) (xs : List Nat) : Prop := ∃ more : List Value, xs.length + more.length = cap ∧ Bk w g (ncells xs ++ more).toArray 3
section
variable {w w' : World} {g cap : Nat} {xs : List Nat}
theorem OI.lt (h : OI w g cap xs) : g < w.heap.size := by obtain ⟨m, _, h⟩ := h; exact h.lt
theorem OI.le (h : OI w g cap xs) : xs.length ≤ cap := by obtain ⟨m, h, _⟩ := h; omega
theorem OI.ext (h : OI w g cap xs) (e : Ext w w') : OI w' g cap xs := by obtain ⟨m, h1, h⟩ := h; exact ⟨m, h1, h.ext e⟩
theorem OI.drew (h : OI w g cap xs) : OI w.drew g cap xs := h.ext (Ext.refl w).drew
theorem OI.grown {row : Option Nat} (h : OI w g cap xs) (e : w.grownBy w' row) (hne : some g ≠ row) : OI w' g cap xs := by obtain ⟨m, h1, h⟩ := h; exact ⟨m, h1, h.grown e hne⟩
theorem OI.far (h : OI w g cap xs) {p : Addr} (hp : g ≠ p.block) (u : Value) : OI (w.setCell p u) g cap xs := by obtain ⟨m, h1, h⟩ := h; exact ⟨m, h1, h.far hp u⟩
theorem OI.cell (h : OI w g cap xs) {k : Nat} (hk : k < xs.length) : w.cell? ⟨g, k, none⟩ = some (.int .i64 (xs[k] : Int)) := by
  obtain ⟨m, _, h⟩ := h
  rw [h.cell]
  simp only [List.getElem?_toArray]
  rw [List.getElem?_append_left (by simpa using hk)]
  simp [hk]
theorem OI.is (h : OI w g cap xs) : Is w (some ⟨g, 0, none⟩) (xs.map fun n : Nat => (n : Int)) := by
  intro j v hj
  have hlt : j < xs.length := by have := (List.getElem?_eq_some_iff.1 hj).1; simpa using this
  simp [hlt] at hj
  subst hj
  exact ⟨g, 0, rfl, by rw [Nat.zero_add]; exact h.cell hlt⟩
theorem OI.frozen (h : OI w g cap xs) (k : Nat) : w.frozen? ⟨g, k, none⟩ = false := by obtain ⟨m, _, h⟩ := h; exact h.frozen k
theorem OI.set (h : OI w g cap xs) {k : Nat} (hk : k < xs.length) (v : Nat) : OI (w.setCell ⟨g, k, none⟩ (.int .i64 v)) g cap (xs.set k v) := by
  obtain ⟨m, h1, h⟩ := h
  refine ⟨m, by simpa using h1, ?_⟩
  have := h.set k (.int .i64 v)
  rw [List.setIfInBounds_toArray, List.set_append_left _ _ (by simpa using hk)] at this
  rw [show ncells (xs.set k v) = (ncells xs).set k (.int .i64 v) from List.map_set]
  exact this
end
theorem grown_set (w : World) (g k : Nat) (u : Value) : w.grownBy (w.setCell ⟨g, k, none⟩ u) (some g) :=
  ⟨rfl, rfl, rfl, by simp [World.setCell], fun j _ hne => Below.heap_setCell w ⟨g, k, none⟩ u j (fun e => hne (by rw [e]))⟩
theorem grown_refl (w : World) (row : Option Nat) : w.grownBy w row := Ext.grownBy (Ext.refl w) row
theorem grown_drew {w w' : World} {row : Option Nat} (h : w.grownBy w' row) : w.grownBy w'.drew row := h.trans (Ext.grownBy (Ext.refl w').drew row)

def SwInv (w wr : World) (g cap : Nat) (xs : List Nat) : Prop := w.grownBy wr (some g) ∧ OI wr g cap xs
/-- Two elements swapped. -/
def swp (xs : List Nat) (i j : Nat) : List Nat := (xs.set i (xs[j]?.getD 0)).set j (xs[i]?.getD 0)
theorem swp_length (xs : List Nat) (i j : Nat) : (swp xs i j).length = xs.length := by simp [swp]
def pSwapR (xs : List Nat) (a b n : Nat) : List Nat := (List.range n).foldl (fun xs k => swp xs (a + k) (b + k)) xs
theorem pSwapR_succ (xs : List Nat) (a b n : Nat) : pSwapR xs a b (n + 1) = swp (pSwapR xs a b n) (a + n) (b + n) := by simp [pSwapR, List.range_succ]
theorem swp_eq {xs : List Nat} {i j : Nat} (hi : i < xs.length) (hj : j < xs.length) : swp xs i j = (xs.set i xs[j]).set j xs[i] := by unfold swp; simp [hi, hj]
theorem SwInv.swap {w wr : World} {g cap : Nat} {xs : List Nat} (h : SwInv w wr g cap xs) {i j : Nat} (hi : i < xs.length) (hj : j < xs.length) :
    SwInv w (((wr.setCell ⟨g, i, none⟩ (.int .i64 (xs[j] : Int))).setCell ⟨g, j, none⟩ (.int .i64 (xs[i] : Int))).drew) g cap (swp xs i j) := by
  refine ⟨grown_drew ((h.1.trans (grown_set wr g i _)).trans (grown_set _ g j _)), ?_⟩
  rw [swp_eq hi hj]
  exact ((h.2.set hi _).set (k := j) (by simpa using hj) _).drew
theorem pSwapR_length (xs : List Nat) (a b n : Nat) : (pSwapR xs a b n).length = xs.length := by
  induction n with
  | zero => rfl
  | succ n ih => rw [pSwapR_succ, swp_length, ih]

set_option maxRecDepth 100000 in
set_option maxHeartbeats 2000000 in
theorem swapRange_any (g cap a b n : Nat) (xs : List Nat) (C : Value) (w : World) (hO : OI w g cap xs) (ha : a + n ≤ xs.length) (hb : b + n ≤ xs.length) (hl : xs.length ≤ 1000) (hab : a + n ≤ b) :
    Calls Try.prog 121 #[.slice (some ⟨g, 0, none⟩) xs.length cap, .int .i64 a, .int .i64 b, .int .i64 n, C] w fun e w' =>
      e = .returned (.tuple #[]) ∧ SwInv w w' g cap (pSwapR xs a b n) := by
  go_enter Try.func121, Try.ntmps121
  go_wp2
  go_loopw [10] (fun i wr => ∃ k : Nat, k ≤ n ∧ i = .int .i64 k ∧ SwInv w wr g cap (pSwapR xs a b k)) (fun i _ => n - (intOf i).toNat)
  case atStart => exact ⟨0, Nat.zero_le _, rfl, grown_refl _ _, hO⟩
  case round =>
    obtain ⟨k, hk, rfl, hG, hR⟩ := hrel
    by_cases hlt : k < n
    · have hlen := pSwapR_length xs a b k
      have i1 : a + k < (pSwapR xs a b k).length := by omega
      have i2 : b + k < (pSwapR xs a b k).length := by omega
      have x1 := hR.cell i1
      have x2 := hR.cell i2
      have f1 := hR.frozen (a + k)
      have f2 := hR.frozen (b + k)
      go_wp2
      go_region
      have hN := Lib.hid (SwInv.swap ⟨hG, hR⟩ i1 i2)
      clear hG hR x1 x2 f1 f2
      go_wp2
      go_roundw
      case rel => exact ⟨k + 1, by omega, by go_num, by rw [pSwapR_succ]; exact hN.out⟩
      case measure => simp [intOf]; omega
    · obtain rfl : k = n := by omega
      go_wp2
      go_end0
      exact ⟨rfl, hG, hR⟩

def pRot (m i j : Nat) (xs : List Nat) : List Nat :=
  if _h : i = 0 ∨ j = 0 then xs
  else if i = j then pSwapR xs (m - i) m i
  else if j < i then pRot m (i - j) j (pSwapR xs (m - i) m j)
  else pRot m i (j - i) (pSwapR xs (m - i) (m + j - i) i)
termination_by i + j
theorem pRot_eq (m i : Nat) (xs : List Nat) (hi : 1 ≤ i) : pRot m i i xs = pSwapR xs (m - i) m i := by
  rw [pRot, dif_neg (by omega), if_pos rfl]
theorem pRot_gt (m i j : Nat) (xs : List Nat) (hj : 1 ≤ j) (h : j < i) : pRot m i j xs = pRot m (i - j) j (pSwapR xs (m - i) m j) := by
  rw [pRot, dif_neg (by omega), if_neg (by omega), if_pos h]
theorem pRot_lt (m i j : Nat) (xs : List Nat) (hi : 1 ≤ i) (h : i < j) : pRot m i j xs = pRot m i (j - i) (pSwapR xs (m - i) (m + j - i) i) := by
  rw [pRot, dif_neg (by omega), if_neg (by omega), if_neg (by omega)]

theorem swapRange_int (g cap a b n L : Nat) (va vb vn : Int) (xs : List Nat) (C : Value) (w : World) (hO : OI w g cap xs) (ea : va = a) (eb : vb = b) (en : vn = n) (eL : L = xs.length) (ha : a + n ≤ xs.length) (hb : b + n ≤ xs.length) (hl : xs.length ≤ 1000) (hab : a + n ≤ b) :
    Calls Try.prog 121 #[.slice (some ⟨g, 0, none⟩) L cap, .int .i64 va, .int .i64 vb, .int .i64 vn, C] w fun e w' =>
      e = .returned (.tuple #[]) ∧ SwInv w w' g cap (pSwapR xs a b n) := by
  subst ea eb en eL
  exact swapRange_any g cap a b n xs C w hO ha hb hl hab
theorem SwInv.trans {w w1 w2 : World} {g cap : Nat} {xs ys : List Nat} (h : SwInv w w1 g cap xs) (k : SwInv w1 w2 g cap ys) : SwInv w w2 g cap ys := ⟨h.1.trans k.1, k.2⟩
set_option maxRecDepth 100000 in
set_option maxHeartbeats 2000000 in
theorem rotate_any (g cap a m b : Nat) (xs : List Nat) (C : Value) (w : World) (hO : OI w g cap xs) (ha : a < m) (hm : m < b) (hb : b ≤ xs.length) (hl : xs.length ≤ 1000) :
    Calls Try.prog 109 #[.slice (some ⟨g, 0, none⟩) xs.length cap, .int .i64 a, .int .i64 m, .int .i64 b, C] w fun e w' =>
      e = .returned (.tuple #[]) ∧ SwInv w w' g cap (pRot m (m - a) (b - m) xs) := by
  go_enter Try.func109, Try.ntmps109
  go_wp2
  go_loopw [10, 11] (fun vi vj wr => ∃ (i j : Nat) (ys : List Nat), 1 ≤ i ∧ 1 ≤ j ∧ i + a ≤ m ∧ m + j ≤ b ∧ vi = .int .i64 i ∧ vj = .int .i64 j ∧ ys.length = xs.length ∧ SwInv w wr g cap ys ∧ Hid (pRot m i j ys = pRot m (m - a) (b - m) xs)) (fun vi vj _ => (intOf vi).toNat + (intOf vj).toNat)
  case atStart => exact ⟨m - a, b - m, xs, by omega, by omega, by omega, by omega, by go_num, by go_num, rfl, ⟨grown_refl _ _, hO⟩, rfl⟩
  case round =>
    obtain ⟨i, j, ys, hi, hj, hia, hjb, rfl, rfl, hlen, hS, hP⟩ := hrel
    have Hlen := Lib.hid hlen
    have HP := Lib.hid hP.out
    have Hia := Lib.hid (And.intro hia hjb)
    clear hP
    rcases Nat.lt_trichotomy i j with hij | hij | hij
    · have t1 : ((i : Int) != j) = true := by simp; omega
      have t2 : ¬ ((j : Int) < i) := by omega
      go_wp2_with fail
      refine (swapRange_int g cap (m - i) (m + j - i) i _ _ _ _ ys C wr hS.2 (by omega) (by omega) rfl (by omega) (by omega) (by omega) (by omega) (by omega)).mono ?_
      rintro e w1 ⟨rfl, h1⟩
      have HS := Lib.hid (hS.trans h1)
      clear hS h1
      go_wp2
      go_roundw
      case rel => exact ⟨i, j - i, _, hi, by omega, hia, by omega, rfl, by go_num, by rw [pSwapR_length]; exact hlen, HS.out, by rw [← pRot_lt m i j ys hi hij]; exact HP.out⟩
      case measure => simp [intOf]; omega
    · subst hij
      have t1 : ((i : Int) != i) = false := by simp
      go_wp2_with fail
      refine (swapRange_int g cap (m - i) m i _ _ _ _ ys C wr hS.2 (by omega) rfl rfl (by omega) (by omega) (by omega) (by omega) (by omega)).mono ?_
      rintro e w1 ⟨rfl, h1⟩
      have HS := Lib.hid (hS.trans h1)
      clear hS h1
      go_wp2
      go_end0
      rw [pRot_eq m i ys hi] at HP
      rw [← HP.out]
      exact ⟨rfl, HS.out⟩
    · have t1 : ((i : Int) != j) = true := by simp; omega
      have t2 : ((j : Int) < i) := by omega
      go_wp2_with fail
      refine (swapRange_int g cap (m - i) m j _ _ _ _ ys C wr hS.2 (by omega) rfl rfl (by omega) (by omega) (by omega) (by omega) (by omega)).mono ?_
      rintro e w1 ⟨rfl, h1⟩
      have HS := Lib.hid (hS.trans h1)
      clear hS h1
      go_wp2
      go_roundw
      case rel => exact ⟨i - j, j, _, by omega, hj, by omega, hjb, by go_num, rfl, by rw [pSwapR_length]; exact hlen, HS.out, by rw [← pRot_gt m i j ys hj hij]; exact HP.out⟩
      case measure => simp [intOf]; omega
end Go.Proofs.Ytdlalmbnkcadfaa
/- device: the search's closure. -/
namespace Go.Proofs.Ytdlalmbnkcadfaa
open Go.RowKit

theorem cellMap {w w' : World} {r c : Nat} {es : Array MapEntry} {p : Addr} {v : Value} (hm : w.heap[r]? = some (.map es c)) (hg : w.grownBy w' (some r)) (h : w.cell? p = some v) : w'.cell? p = some v := by
  have hne : some p.block ≠ some r := fun e => by
    have : p.block = r := Option.some.inj e
    unfold World.cell? at h
    rw [this, hm] at h
    simp at h
  rw [World.cell?_of_block (hg.block p.block (cell_lt h) hne)]
  exact h
theorem Sl.grownMap {w w' : World} {r c : Nat} {es : Array MapEntry} {A : Option Addr} {cs : List Value} (h : Sl w A cs) (hm : w.heap[r]? = some (.map es c)) (hg : w.grownBy w' (some r)) : Sl w' A cs := fun j v hj => by
  obtain ⟨b, o, e, hc⟩ := h j v hj
  exact ⟨b, o, e, cellMap hm hg hc⟩
/-- A slice of slices of bytes. -/
def SS (w : World) (P : Option Addr) (ws : List BL) : Prop := ∀ j x, ws[j]? = some x → ∃ b o A c, P = some ⟨b, o, none⟩ ∧ w.cell? ⟨b, o + j, none⟩ = some (.slice A x.length c) ∧ x.length ≤ c ∧ By w A x
theorem SS.grownMap {w w' : World} {r c : Nat} {es : Array MapEntry} {P : Option Addr} {ws : List BL} (h : SS w P ws) (hm : w.heap[r]? = some (.map es c)) (hg : w.grownBy w' (some r)) : SS w' P ws := fun j x hj => by
  obtain ⟨b, o, A, d, e, h1, h2, h3⟩ := h j x hj
  exact ⟨b, o, A, d, e, cellMap hm hg h1, h2, Sl.grownMap h3 hm hg⟩
theorem SS.ext {w w' : World} {P : Option Addr} {ws : List BL} (h : SS w P ws) (hE : Ext w w') : SS w' P ws := fun j x hj => by
  obtain ⟨b, o, A, d, e, h1, h2, h3⟩ := h j x hj
  exact ⟨b, o, A, d, e, cellExt hE h1, h2, h3.ext hE⟩
theorem SS.nil (w : World) (P : Option Addr) : SS w P [] := fun j x h => by simp at h
theorem SS.at {w : World} {P : Option Addr} {ws : List BL} (h : SS w P ws) {j : Nat} (hj : j < ws.length) : ∃ b o A c, P = some ⟨b, o, none⟩ ∧ w.cell? ⟨b, o + j, none⟩ = some (.slice A ws[j].length c) ∧ ws[j].length ≤ c ∧ By w A ws[j] := h j _ (List.getElem?_eq_getElem hj)
theorem Bk.grownMap {w w' : World} {r c g : Nat} {es : Array MapEntry} {cs : Array Value} {t : TypeId} (h : Bk w g cs t) (hm : w.heap[r]? = some (.map es c)) (hg : w.grownBy w' (some r)) : Bk w' g cs t :=
  h.grown hg (fun e => by
    have : g = r := Option.some.inj e
    unfold Bk at h
    rw [this, hm] at h
    cases h)

/-- What the search's closure has captured. -/
structure Fr (w : World) (bt bm bw bf r : Nat) (A B P : Option Addr) (pc : Nat) (old want : BL) (ws : List BL) : Prop where
  t : Bk w bt #[.slice A 32 32, .slice B 32 32] 95
  a : By w A old
  b : By w B want
  m : Bk w bm #[.map (some r)] 116
  v : Bk w bw #[.slice P ws.length pc] 91
  p : SS w P ws
  f : Bk w bf #[.func (.func 89) #[] #[.pointer (some ⟨bt, 0, none⟩), .pointer (some ⟨bm, 0, none⟩), .pointer (some ⟨bw, 0, none⟩), .pointer (some ⟨bf, 0, none⟩)]] 117
theorem Fr.ext {w w' : World} {bt bm bw bf r : Nat} {A B P : Option Addr} {pc : Nat} {old want : BL} {ws : List BL} (h : Fr w bt bm bw bf r A B P pc old want ws) (e : Ext w w') : Fr w' bt bm bw bf r A B P pc old want ws :=
  ⟨h.t.ext e, h.a.ext e, h.b.ext e, h.m.ext e, h.v.ext e, h.p.ext e, h.f.ext e⟩
theorem Fr.grown {w w' : World} {bt bm bw bf r : Nat} {A B P : Option Addr} {pc : Nat} {old want : BL} {ws : List BL} {ks : List Stp} (h : Fr w bt bm bw bf r A B P pc old want ws) (hm : TM w r ks) (hg : w.grownBy w' (some r)) : Fr w' bt bm bw bf r A B P pc old want ws := by
  obtain ⟨es, c, hm, _⟩ := hm
  exact ⟨h.t.grownMap hm hg, Sl.grownMap h.a hm hg, Sl.grownMap h.b hm hg, h.m.grownMap hm hg, h.v.grownMap hm hg, h.p.grownMap hm hg, h.f.grownMap hm hg⟩

/-- What is true of a step: can the rest be explained? -/
def pW (old want : BL) (ws : List BL) (s : Stp) : Bool := pFrom old want ws (unused ws s.2).length s.1 s.2
theorem pW_eq (old want : BL) (ws : List BL) (k : Nat) (us : List Bool) (hl : ws.length ≤ us.length) :
    pW old want ws (k, us) = (old.drop k == want.drop k || (List.range ws.length).any fun i => !(us[i]?.getD false) && (List.range (pEnd (ws[i]?.getD []) want k - k)).any fun j => pW old want ws (k + j + 1, us.set i true)) := by
  have key : ∀ i, i < ws.length → us[i]?.getD false = false → (unused ws us).length = (unused ws (us.set i true)).length + 1 := fun i hi h => by
    have := (unused_set ws us i hi (by omega) h).length_eq
    simpa using this
  unfold pW
  cases hf : (unused ws us).length with
  | zero =>
    simp only [pFrom]
    have : ((List.range ws.length).any fun i => !(us[i]?.getD false) && (List.range (pEnd (ws[i]?.getD []) want k - k)).any fun j => pFrom old want ws (unused ws (us.set i true)).length (k + j + 1) (us.set i true)) = false := by
      rw [List.any_eq_false]
      intro i hi h
      simp only [Bool.and_eq_true, Bool.not_eq_true'] at h
      have := key i (List.mem_range.1 hi) h.1
      omega
    rw [this, Bool.or_false]
  | succ f =>
    simp only [pFrom]
    congr 1
    rw [Bool.eq_iff_iff, List.any_eq_true, List.any_eq_true]
    have e : ∀ i, i ∈ List.range ws.length → ((!(us[i]?.getD false) && (List.range (pEnd (ws[i]?.getD []) want k - k)).any fun j => pFrom old want ws f (k + j + 1) (us.set i true)) = true ↔
        (!(us[i]?.getD false) && (List.range (pEnd (ws[i]?.getD []) want k - k)).any fun j => pFrom old want ws (unused ws (us.set i true)).length (k + j + 1) (us.set i true)) = true) := fun i hi => by
      simp only [Bool.and_eq_true, Bool.not_eq_true']
      constructor
      · rintro ⟨h1, h2⟩
        have : (unused ws (us.set i true)).length = f := by have := key i (List.mem_range.1 hi) h1; omega
        exact ⟨h1, by rw [this]; exact h2⟩
      · rintro ⟨h1, h2⟩
        have : (unused ws (us.set i true)).length = f := by have := key i (List.mem_range.1 hi) h1; omega
        exact ⟨h1, by rw [this] at h2; exact h2⟩
    exact ⟨fun ⟨i, hi, h⟩ => ⟨i, hi, (e i hi).1 h⟩, fun ⟨i, hi, h⟩ => ⟨i, hi, (e i hi).2 h⟩⟩

/-- What a call of the closure leaves. -/
def FromPost (w : World) (r : Nat) (old want : BL) (ws : List BL) (ks : List Stp) (s : Stp) (e : Ending) (w' : World) : Prop :=
  e = .returned (.bool (pW old want ws s)) ∧ w.grownBy w' (some r) ∧ ∃ ks', TM w' r ks' ∧ (pW old want ws s = false → ∀ t ∈ ks', t ∈ ks ∨ pW old want ws t = false)

theorem stepBox (s : Stp) (h5 : s.2.length = 5) : ∃ a0 a1 a2 a3 a4, s.2 = [a0, a1, a2, a3, a4] ∧ stepV s = .agg #[.int .i64 (s.1 : Int), .bool a0, .bool a1, .bool a2, .bool a3, .bool a4] := by
  obtain ⟨k, us⟩ := s
  obtain ⟨a0, a1, a2, a3, a4, h⟩ := five h5
  have h' : us = _ := h
  subst h'
  exact ⟨a0, a1, a2, a3, a4, rfl, rfl⟩
set_option maxRecDepth 100000 in
set_option maxHeartbeats 1000000 in
theorem from_end (bt bm bw bf r pc k : Nat) (A B P : Option Addr) (old want : BL) (ws : List BL) (ks : List Stp) (us : List Bool) (w : World) (hF : Fr w bt bm bw bf r A B P pc old want ws) (hT : TM w r ks) (ho : old.length = 32) (hw : want.length = 32) (hk : k = 32) (h5 : us.length = 5) (hl : ws.length ≤ 5) :
    Calls Try.prog 89 #[stepV (k, us), .pointer (some ⟨bt, 0, none⟩), .pointer (some ⟨bm, 0, none⟩), .pointer (some ⟨bw, 0, none⟩), .pointer (some ⟨bf, 0, none⟩)] w (FromPost w r old want ws ks (k, us)) := by
  have hp : Hid (pW old want ws (k, us) = true) := by
    show _ = _
    rw [pW_eq _ _ _ _ _ (by omega), List.drop_eq_nil_of_le (by omega), List.drop_eq_nil_of_le (by omega)]; rfl
  obtain ⟨a0, a1, a2, a3, a4, rfl⟩ := five h5
  have h32 : (32 : Nat) = k := hk.symm
  have hk0 : k ≤ 32 := by omega
  clear hk
  show Calls Try.prog 89 #[.agg #[.int .i64 (k : Int), .bool a0, .bool a1, .bool a2, .bool a3, .bool a4], .pointer (some ⟨bt, 0, none⟩), .pointer (some ⟨bm, 0, none⟩), .pointer (some ⟨bw, 0, none⟩), .pointer (some ⟨bf, 0, none⟩)] w _
  go_enter Try.func89, Try.ntmps89
  go_wp2_with fail
  obtain ⟨W, hW, hE, hz, k5, k6⟩ := box2 w #[.int .i64 (k : Int), .bool a0, .bool a1, .bool a2, .bool a3, .bool a4] #[.bool false] 120 4
  rw [hW]; clear hW
  go_step3
  go_wp2_with fail
  have hFW := hF.ext hE
  have hS := Lib.hid (fun w' (h : Ext W w') => (⟨h, (hFW.t.ext h).cell 0, (hFW.t.ext h).cell 1, (k5.ext h).cell 0⟩ : Ext W w' ∧ w'.cell? ⟨bt, 0, none⟩ = some (.slice A 32 32) ∧ w'.cell? ⟨bt, 1, none⟩ = some (.slice B 32 32) ∧ w'.cell? ⟨w.heap.size, 0, none⟩ = some (.int .i64 (k : Int))))
  refine wp_region_rel 11 (by kernel_rfl) (by kernel_rfl) (Ext.refl W).drew ?_
  repeat (apply relW_fix
          · intro vs w' hw hf
            have hc := hS.out w' hw
            unfold okAt
            go_simp
            first | exact ⟨rfl, Ext.refl _⟩ | exact rfl
          · intro vs; go_simp; rfl)
  (apply relW_fix
   · intro vs w' hw hf
     have hc := hS.out w' hw
     skip
     unfold okAt
     go_simp
     refine ⟨Ext.refl _, ?_⟩
     go_at_call 73
     refine (bytesEq_any (xs := []) (ys := []) _ _ _ _ rfl rfl (By.nil _ _) (By.nil _ _)).mono ?_; rintro e w2 ⟨rfl, rfl⟩; exact ⟨_, rfl, rfl, Ext.refl _⟩
   · intro vs; go_simp; rfl)
  refine relW_nil fun vs w6 hw6 hf => ?_
  refine wpList_nil ?_
  have j6 := k6.ext hw6
  have c6 := j6.cell 0
  have f6 := j6.frozen 0
  simp at c6
  go_wp2
  have kk := (j6.set 0 (.bool true)).cell 0
  simp only [Array.setIfInBounds_def] at kk
  try rw [Exit.noGoto_ret]
  refine bodyPost_ret (v := .bool true) (by simp [results, Try.results89, go_sem, kk]) rfl ⟨by rw [hp.out], ?_, ks, ?_, fun h => by rw [hp.out] at h; cases h⟩
  · exact Ext.grownBy ((hE.trans hw6).setCell (by show _ ≤ _; simp only; omega) _) _
  · exact (hT.grown ((hE.trans hw6).grownBy none) (by simp)).grown (row := some (w.heap.size + 1)) (grown_set _ _ _ _) (by have := hT.lt; simp; omega)

theorem By.from {w : World} {b o : Nat} {bs : BL} (h : By w (some ⟨b, o, none⟩) bs) (k : Nat) : By w (some ⟨b, o + k, none⟩) (bs.drop k) := fun j v hj => by
  obtain ⟨b', o', e, hc⟩ := h (k + j) v (by rw [← hj]; simp [bcells])
  simp only [Option.some.injEq, Addr.mk.injEq, and_true] at e
  obtain ⟨rfl, rfl⟩ := e
  exact ⟨_, _, rfl, by rw [Nat.add_assoc]; exact hc⟩
set_option maxRecDepth 100000 in
set_option maxHeartbeats 1000000 in
theorem from_eq (bt bm bw bf r pc k : Nat) (A B P : Option Addr) (old want : BL) (ws : List BL) (ks : List Stp) (us : List Bool) (w : World) (hF : Fr w bt bm bw bf r A B P pc old want ws) (hT : TM w r ks) (ho : old.length = 32) (hw : want.length = 32) (hk : k < 32) (h5 : us.length = 5) (_hl : ws.length ≤ 5) (heq : Hid ((old.drop k == want.drop k) = true)) : Calls Try.prog 89 #[stepV (k, us), .pointer (some ⟨bt, 0, none⟩), .pointer (some ⟨bm, 0, none⟩), .pointer (some ⟨bw, 0, none⟩), .pointer (some ⟨bf, 0, none⟩)] w (FromPost w r old want ws ks (k, us)) := by
  have hp : Hid (pW old want ws (k, us) = true) := by
    show _ = _
    rw [pW_eq _ _ _ _ _ (by omega), heq.out]; rfl
  obtain ⟨a0, a1, a2, a3, a4, rfl⟩ := five h5
  have hne : ¬ 32 = k := by omega
  have hk0 : k ≤ 32 := by omega
  have hk1 : (k : Int) ≤ 32 := by omega
  obtain ⟨ab, ao, rfl, _⟩ := hF.a.at (j := k) (by omega)
  obtain ⟨eb, eo, rfl, _⟩ := hF.b.at (j := k) (by omega)
  show Calls Try.prog 89 #[.agg #[.int .i64 (k : Int), .bool a0, .bool a1, .bool a2, .bool a3, .bool a4], .pointer (some ⟨bt, 0, none⟩), .pointer (some ⟨bm, 0, none⟩), .pointer (some ⟨bw, 0, none⟩), .pointer (some ⟨bf, 0, none⟩)] w _
  go_enter Try.func89, Try.ntmps89
  go_wp2_with fail
  obtain ⟨W, hW, hE, hz, k5, k6⟩ := box2 w #[.int .i64 (k : Int), .bool a0, .bool a1, .bool a2, .bool a3, .bool a4] #[.bool false] 120 4
  rw [hW]; clear hW
  go_step3
  go_wp2_with fail
  have hFW := hF.ext hE
  have hS := Lib.hid (fun w' (h : Ext W w') => (⟨h, (hFW.t.ext h).cell 0, (hFW.t.ext h).cell 1, (k5.ext h).cell 0⟩ : Ext W w' ∧ w'.cell? ⟨bt, 0, none⟩ = some (.slice (some ⟨ab, ao, none⟩) 32 32) ∧ w'.cell? ⟨bt, 1, none⟩ = some (.slice (some ⟨eb, eo, none⟩) 32 32) ∧ w'.cell? ⟨w.heap.size, 0, none⟩ = some (.int .i64 (k : Int))))
  refine wp_region_rel 11 (by kernel_rfl) (by kernel_rfl) (Ext.refl W).drew ?_
  repeat (apply relW_fix
          · intro vs w' hw hf
            have hc := hS.out w' hw
            unfold okAt
            go_simp
            first | exact ⟨rfl, Ext.refl _⟩ | exact rfl
          · intro vs; go_simp; rfl)
  (apply relW_fix
   · intro vs w' hw hf
     have hc := hS.out w' hw
     skip
     unfold okAt
     go_simp
     refine ⟨Ext.refl _, ?_⟩
     go_at_call 73
     refine (bytesEq_any (xs := old.drop k) (ys := want.drop k) _ _ _ _ (by simp; omega) (by simp; omega) ((hFW.a.ext hw).from k) ((hFW.b.ext hw).from k)).mono ?_; rintro e w2 ⟨rfl, rfl⟩; rw [heq.out]; exact ⟨_, rfl, rfl, Ext.refl _⟩
   · intro vs; go_simp; rfl)
  refine relW_nil fun vs w6 hw6 hf => ?_
  refine wpList_nil ?_
  have j6 := k6.ext hw6
  have c6 := j6.cell 0
  have f6 := j6.frozen 0
  simp at c6
  go_wp2
  have kk := (j6.set 0 (.bool true)).cell 0
  simp only [Array.setIfInBounds_def] at kk
  try rw [Exit.noGoto_ret]
  refine bodyPost_ret (v := .bool true) (by simp [results, Try.results89, go_sem, kk]) rfl ⟨by rw [hp.out], ?_, ks, ?_, fun h => by rw [hp.out] at h; cases h⟩
  · exact Ext.grownBy ((hE.trans hw6).setCell (by show _ ≤ _; simp only; omega) _) _
  · exact (hT.grown ((hE.trans hw6).grownBy none) (by simp)).grown (row := some (w.heap.size + 1)) (grown_set _ _ _ _) (by have := hT.lt; simp; omega)
set_option maxRecDepth 100000 in
set_option maxHeartbeats 1000000 in
theorem from_tried (bt bm bw bf r pc k : Nat) (A B P : Option Addr) (old want : BL) (ws : List BL) (ks : List Stp) (us : List Bool) (w : World) (hF : Fr w bt bm bw bf r A B P pc old want ws) (hT : TM w r ks) (ho : old.length = 32) (hw : want.length = 32) (hk : k < 32) (h5 : us.length = 5) (_hl : ws.length ≤ 5) (heq : Hid ((old.drop k == want.drop k) = false)) (hp : Hid (pW old want ws (k, us) = false)) (hin : Hid ((k, us) ∈ ks)) : Calls Try.prog 89 #[stepV (k, us), .pointer (some ⟨bt, 0, none⟩), .pointer (some ⟨bm, 0, none⟩), .pointer (some ⟨bw, 0, none⟩), .pointer (some ⟨bf, 0, none⟩)] w (FromPost w r old want ws ks (k, us)) := by
  obtain ⟨a0, a1, a2, a3, a4, rfl⟩ := five h5
  have hne : ¬ 32 = k := by omega
  have hk0 : k ≤ 32 := by omega
  have hk1 : (k : Int) ≤ 32 := by omega
  obtain ⟨ab, ao, rfl, _⟩ := hF.a.at (j := k) (by omega)
  obtain ⟨eb, eo, rfl, _⟩ := hF.b.at (j := k) (by omega)
  show Calls Try.prog 89 #[.agg #[.int .i64 (k : Int), .bool a0, .bool a1, .bool a2, .bool a3, .bool a4], .pointer (some ⟨bt, 0, none⟩), .pointer (some ⟨bm, 0, none⟩), .pointer (some ⟨bw, 0, none⟩), .pointer (some ⟨bf, 0, none⟩)] w _
  go_enter Try.func89, Try.ntmps89
  go_wp2_with fail
  obtain ⟨W, hW, hE, hz, k5, k6⟩ := box2 w #[.int .i64 (k : Int), .bool a0, .bool a1, .bool a2, .bool a3, .bool a4] #[.bool false] 120 4
  rw [hW]; clear hW
  go_step3
  go_wp2_with fail
  have hFW := hF.ext hE
  have hS := Lib.hid (fun w' (h : Ext W w') => (⟨h, (hFW.t.ext h).cell 0, (hFW.t.ext h).cell 1, (k5.ext h).cell 0⟩ : Ext W w' ∧ w'.cell? ⟨bt, 0, none⟩ = some (.slice (some ⟨ab, ao, none⟩) 32 32) ∧ w'.cell? ⟨bt, 1, none⟩ = some (.slice (some ⟨eb, eo, none⟩) 32 32) ∧ w'.cell? ⟨w.heap.size, 0, none⟩ = some (.int .i64 (k : Int))))
  refine wp_region_rel 11 (by kernel_rfl) (by kernel_rfl) (Ext.refl W).drew ?_
  repeat (apply relW_fix
          · intro vs w' hw hf
            have hc := hS.out w' hw
            unfold okAt
            go_simp
            first | exact ⟨rfl, Ext.refl _⟩ | exact rfl
          · intro vs; go_simp; rfl)
  (apply relW_fix
   · intro vs w' hw hf
     have hc := hS.out w' hw
     skip
     unfold okAt
     go_simp
     refine ⟨Ext.refl _, ?_⟩
     go_at_call 73
     refine (bytesEq_any (xs := old.drop k) (ys := want.drop k) _ _ _ _ (by simp; omega) (by simp; omega) ((hFW.a.ext hw).from k) ((hFW.b.ext hw).from k)).mono ?_; rintro e w2 ⟨rfl, rfl⟩; rw [heq.out]; exact ⟨_, rfl, rfl, Ext.refl _⟩
   · intro vs; go_simp; rfl)
  refine relW_nil fun vs w6 hw6 hf => ?_
  refine wpList_nil ?_
  have j6 := k6.ext hw6
  have c6 := j6.cell 0
  have f6 := j6.frozen 0
  simp at c6
  have hF6 := hFW.ext hw6
  have cm := hF6.m.cell 0
  simp at cm
  have j5 := k5.ext hw6
  have s0 := j5.cell 0
  have s1 := j5.cell 1
  have s2 := j5.cell 2
  have s3 := j5.cell 3
  have s4 := j5.cell 4
  have s5 := j5.cell 5
  simp at s0 s1 s2 s3 s4 s5
  have hT6 := hT.grown ((hE.trans hw6).grownBy none) (by simp)
  have hlk := hT6.lookup (s := (k, [a0, a1, a2, a3, a4])) h5
  rw [decide_eq_true hin.out] at hlk
  have hlk2 : (Instr.lookup 116 (.map (some r)) (.agg #[.int .i64 (k : Int), .bool a0, .bool a1, .bool a2, .bool a3, .bool a4]) false).run Try.prog w6 = .ok (.bool true) w6 := hlk
  clear hlk
  go_wp2
  have kk := (j6.set 0 (.bool false)).cell 0
  simp only [Array.setIfInBounds_def] at kk
  try rw [Exit.noGoto_ret]
  refine bodyPost_ret (v := .bool false) (by simp [results, Try.results89, go_sem, kk]) rfl ⟨by rw [hp.out], ?_, ks, ?_, fun _ t ht => .inl ht⟩
  · exact Ext.grownBy ((hE.trans hw6).setCell (by show _ ≤ _; simp only; omega) _) _
  · exact hT6.grown (row := some (w.heap.size + 1)) (grown_set _ _ _ _) (by have := hT.lt; simp; omega)
end Go.Proofs.Ytdlalmbnkcadfaa
