/- Appends of one element in a region that draws its order: some blocks may have one cell set to one value. -/
import Derived.Test.YtdlalmbnkcadfaaN09
import Derived.Test.YtdlalmbnkcadfaaM23
import Derived.Test.YtdlalmbnkcadfaaN11
import Derived.Test.YtdlalmbnkcadfaaN07
namespace Go.Proofs.Ytdlalmbnkcadfaa
open Go.RowKit

structure RowR (al : Nat → Option (Nat × Value)) (w w' : World) : Prop where
  os : w'.os = w.os
  tape : w'.tape = w.tape
  output : w'.output = w.output
  size : w.heap.size ≤ w'.heap.size
  block : ∀ k, k < w.heap.size → w'.heap[k]? = w.heap[k]? ∨ ∃ cur t j x, al k = some (j, x) ∧ w.heap[k]? = some (.cells cur t (0, 0)) ∧ w'.heap[k]? = some (.cells (cur.setIfInBounds j x) t (0, 0))
theorem RowR.of_ext {al : Nat → Option (Nat × Value)} {w w' : World} (h : Ext w w') : RowR al w w' := ⟨h.os, h.tape, h.output, h.size, fun k hk => .inl (h.block k hk)⟩
theorem RowR.trans {al : Nat → Option (Nat × Value)} {a b c : World} (h : RowR al a b) (k : RowR al b c) : RowR al a c := by
  refine ⟨k.os.trans h.os, k.tape.trans h.tape, k.output.trans h.output, Nat.le_trans h.size k.size, fun i hi => ?_⟩
  have hi' : i < b.heap.size := Nat.lt_of_lt_of_le hi h.size
  rcases h.block i hi with e | ⟨cur, t, j, x, e1, e2, e3⟩
  · rcases k.block i hi' with f | ⟨cur, t, j, x, f1, f2, f3⟩
    · exact .inl (f.trans e)
    · exact .inr ⟨cur, t, j, x, f1, e.symm.trans f2, f3⟩
  · rcases k.block i hi' with f | ⟨cur', t', j', x', f1, f2, f3⟩
    · exact .inr ⟨cur, t, j, x, e1, e2, f.trans e3⟩
    · rw [e1] at f1
      obtain ⟨rfl, rfl⟩ := Prod.mk.inj (Option.some.inj f1)
      rw [e3] at f2
      injection f2 with f2
      injection f2 with g1 g2
      subst g1 g2
      refine .inr ⟨cur, t, j, x, e1, e2, f3.trans ?_⟩
      congr 2
      ext1
      · simp
      · simp
def PW.row (al : Nat → Option (Nat × Value)) : PW := ⟨RowR al, fun w => .of_ext (Ext.refl w), RowR.trans, fun h => h.size⟩
theorem RowR.below {al : Nat → Option (Nat × Value)} {w w' : World} {B : Nat} (h : RowR al w w') (hB : B ≤ w.heap.size) (hal : ∀ k, k < B → al k = none) : Below B w w' :=
  ⟨h.os, h.tape, h.output, h.size, fun k hk => (h.block k (by omega)).resolve_right fun ⟨_, _, _, _, e, _⟩ => by rw [hal k hk] at e; cases e⟩
theorem RowR.bk {al : Nat → Option (Nat × Value)} {w w' : World} {g : Nat} {cs : Array Value} {t : TypeId} (h : RowR al w w') (k : Bk w g cs t) (ha : al g = none) : Bk w' g cs t :=
  ((h.block g k.lt).resolve_right fun ⟨_, _, _, _, e, _⟩ => by rw [ha] at e; cases e).trans k
theorem RowR.heap {al : Nat → Option (Nat × Value)} {w w' : World} {g : Nat} (h : RowR al w w') (hg : g < w.heap.size) (ha : al g = none) : w'.heap[g]? = w.heap[g]? :=
  (h.block g hg).resolve_right fun ⟨_, _, _, _, e, _⟩ => by rw [ha] at e; cases e
theorem own_row {al : Nat → Option (Nat × Value)} {w w' : World} {B n : Nat} {e : TypeId} {v : Value} {xs : List Value} (h : w.ownsRow B e 1 v n xs)
    (hal : ∀ g j x, v.ownBlock = some g → al g = some (j, x) → n ≤ j ∨ xs[j]? = some x) (hr : RowR al w w') : w'.ownsRow B e 1 v n xs := by
  refine ⟨h.1, ?_⟩
  rcases h.2 with hn | ⟨g, cap, cur, rfl, hb, hh, h1, h2, h3, h4⟩
  · exact .inl hn
  · refine .inr ⟨g, cap, ?_⟩
    rcases hr.block g (Array.getElem?_eq_some_iff.1 hh).1 with e | ⟨cur', t, j, x, e1, e2, e3⟩
    · exact ⟨cur, rfl, hb, e.trans hh, h1, h2, h3, h4⟩
    · rw [hh] at e2
      injection e2 with e2
      injection e2 with g1 g2
      subst g1 g2
      refine ⟨cur.setIfInBounds j x, rfl, hb, e3, h1, h2, by simp [h3], ?_⟩
      rw [Array.toList_setIfInBounds]
      rcases hal g j x rfl e1 with hj | hj
      · rw [List.take_set_of_le (by omega)]; exact h4
      · have hjl : j < n := by
          have := (List.getElem?_eq_some_iff.1 hj).1
          have := h.1
          omega
        rw [← h4, List.getElem?_take, if_pos (by omega)] at hj
        have : cur.toList.set j x = cur.toList := by
          obtain ⟨hl, hx⟩ := List.getElem?_eq_some_iff.1 hj
          rw [← hx]
          exact List.set_getElem_self hl
        rw [this]; exact h4

theorem own_down {w : World} {B B' s n : Nat} {e : TypeId} {v : Value} {xs : List Value} (h : w.ownsRow B e s v n xs) (hB : B' ≤ B) : w.ownsRow B' e s v n xs :=
  ⟨h.1, h.2.imp id fun ⟨g, cap, cur, h1, h2, r⟩ => ⟨g, cap, cur, h1, Nat.le_trans hB h2, r⟩⟩
/-- append of one element at an own row. -/
theorem app_one (t e ty : TypeId) (i : TypeInfo) (z : Value) (bytes : Nat) (ht : Try.prog.underlying t = some (.slice e)) (hi : Try.prog.info? e = some i) (hz : i.zero = some z) (hs : i.size = 1) (hb : i.bytes = bytes) (hzs : z.cells.size = 1) (hby : bytes ≤ 100)
    (al : Nat → Option (Nat × Value)) (w : World) (B n : Nat) (v x : Value) (xs : List Value) (hown : w.ownsRow B e 1 v n xs) (b : Nat) (tb : TypeId) (hk : Bk w b #[x] tb) (h1 : x.oneCell' = true) (hl : n ≤ 100000) (hB : B ≤ w.heap.size)
    (hal : ∀ g, v.ownBlock = some g → al g = some (n, x)) :
    ∃ g cap w', (Builtin.append_ #[t, t] ty #[v, .slice (some ⟨b, 0, none⟩) 1 1]).run Try.prog w = .ok (.slice (some ⟨g, 0, none⟩) (n + 1) cap) w' ∧ RowR al w w' ∧
      w'.ownsRow B e 1 (.slice (some ⟨g, 0, none⟩) (n + 1) cap) (n + 1) (xs ++ [x]) ∧ (v.ownBlock = some g ∨ (w.heap.size ≤ g ∧ g < w'.heap.size)) := by
  have hnews : ∀ j u, [x][j]? = some u → w.cell? ((⟨b, 0, none⟩ : Addr).add j) = some u := World.news_of_block (cs := #[x]) hk
  have hbytes : (n + 1) * bytes ≤ 140737488355328 := by
    have : (n + 1) * bytes ≤ 100001 * 100 := Nat.mul_le_mul (by omega) hby
    omega
  rcases hown.2 with ⟨rfl, rfl⟩ | ⟨g0, cap0, cur, rfl, hb0, hh, c1, c2, c3, c4⟩
  · obtain ⟨g, cap, w', r1, r2, r3, r4, r5⟩ := run_append_lies (P := Try.prog) w t ty B e i z 1 bytes ht hi hz hs hb hzs (by omega) _ 0 xs hown ⟨b, 0, none⟩ 1 1 [x] (by simp) hnews (fun u hu => by simp at hu; subst hu; exact h1) (by omega) (by simp only [maxLen]; omega) hbytes hB w.heap.size rfl
    refine ⟨g, cap, w', r1, .of_ext ⟨r3.os, r3.tape, r3.output, r3.size, fun k hk => r3.block k hk (by simp [Value.ownBlock])⟩, r2, .inr ?_⟩
    rcases r4 with r4 | r4
    · simp [Value.ownBlock] at r4
    · exact ⟨by omega, r5⟩
  · by_cases hroom : n + 1 ≤ cap0
    · have hr := run_append_room (P := Try.prog) w t ty e i ht hi g0 n cap0 cur hh ⟨b, 0, none⟩ 1 1 [x] (by simp [hs]) hnews (fun u hu => by simp at hu; subst hu; exact h1) hroom (by simp [hs]; omega)
      rw [hs, Nat.mul_one] at hr
      have e1 : (cur.toList.take n ++ [x] ++ cur.toList.drop (n + [x].length)).toArray = cur.setIfInBounds n x := by
        have hn : n < cur.toList.length := by simp; omega
        apply Array.ext'
        rw [Array.toList_setIfInBounds]
        simp only [List.append_assoc, List.singleton_append, List.length_singleton]
        exact (List.set_eq_take_append_cons_drop (l := cur.toList) (a := x) (i := n)).trans (by rw [if_pos hn]) |>.symm
      rw [e1] at hr
      have hset : (w.setRow g0 (cur.setIfInBounds n x)).heap[g0]? = some (.cells (cur.setIfInBounds n x) e (0, 0)) := setRow_heap w g0 cur _ e (0, 0) hh
      have hsz : (w.setRow g0 (cur.setIfInBounds n x)).heap.size = w.heap.size := by simp [World.setRow]
      refine ⟨g0, cap0, _, hr, ⟨rfl, rfl, rfl, by rw [hsz]; exact Nat.le_refl _, fun k hk => ?_⟩, ⟨by simp [hown.1], .inr ⟨g0, cap0, _, rfl, hb0, hset, hroom, c2, by simpa using c3, ?_⟩⟩, .inl rfl⟩
      · by_cases hkg : k = g0
        · subst hkg
          exact .inr ⟨cur, e, n, x, hal k rfl, hh, hset⟩
        · left
          unfold World.setRow
          simp only
          rw [Array.getElem?_modify, if_neg (Ne.symm hkg)]
      · rw [Array.toList_setIfInBounds, Nat.mul_one]
        have hn : n < cur.toList.length := by simp; omega
        rw [List.set_eq_take_append_cons_drop, if_pos hn]
        have hxn : xs.length = n := by simpa using hown.1
        rw [Nat.mul_one] at c4
        have hl2 : (cur.toList.take n).length = n := by rw [c4]; exact hxn
        have := List.take_length_add_append (l₁ := cur.toList.take n) (l₂ := x :: cur.toList.drop (n + 1)) 1
        rw [hl2] at this
        rw [this, c4]
        rfl
    · obtain ⟨v', w', r1, r2, r3⟩ := run_append_arg_grows (P := Try.prog) w t ty e i z 1 bytes ht hi hz hs hb hzs (by omega) ⟨g0, 0, none⟩ n cap0 xs hown.1 (hown.cells rfl) ⟨b, 0, none⟩ 1 1 [x] (by simp) hnews (by omega) (by simp only [maxLen]; omega) hbytes
      obtain ⟨g, cap, rfl, q1, q2⟩ := r2.form (by omega)
      exact ⟨g, cap, w', r1, .of_ext ⟨r3.os, r3.tape, r3.output, r3.size, fun k hk => r3.block k hk (by simp)⟩, own_down r2 hB, .inr ⟨q1, q2⟩⟩
theorem okAt2_app {P : Program} {R : PW} {ops : Array Oper} {o : Oper} {a : Act} {w w' : World} {S : SW R} (hg : o.guard = none) (s x : Operand) (t : TypeId) (ho : o.op = .call { callee := .builtin .append, args := #[s, x], argTypes := #[t, t] })
    (v0 v1 v' : Value) (hs : a.eval s = v0) (hx : a.eval x = v1) (hr : (Builtin.append_ #[t, t] o.type #[v0, v1]).run P w = .ok v' w') (hS : S.p v' w.heap.size w'.heap.size w') (hE : R.r w w') : okAt2 P R ops o a w S := by
  have hw : Region.wanted o (yielded ops a.tmps) = true := by simp [Region.wanted, hg]
  unfold okAt2
  rw [if_pos hw]
  simp [execOp, ho, resolve, invoke, builtin, hs, hx, hr, Result.andThen, okRes2]
  exact ⟨hS, hE⟩
end Go.Proofs.Ytdlalmbnkcadfaa
/- law: all. -/
namespace Go.Proofs.Ytdlalmbnkcadfaa
open Go.RowKit

/-- A new block of one element; an own row behind an append. -/
def SW.one (al : Nat → Option (Nat × Value)) (N : Nat) (h : ∀ b, N ≤ b → al b = none) (x : Value) (t : TypeId) : SW (PW.row al) :=
  ⟨fun v _ _ w => ∃ b, v = .slice (some ⟨b, 0, none⟩) 1 1 ∧ Bk w b #[x] t ∧ N ≤ b, fun ⟨b, e, k, hb⟩ r => ⟨b, e, RowR.bk r k (h b hb), hb⟩⟩
def SW.app (al : Nat → Option (Nat × Value)) (N B : Nat) (e : TypeId) (Ov : Value) (n : Nat) (cs : List Value) : SW (PW.row al) :=
  ⟨fun v l h w => ∃ g cap, v = .slice (some ⟨g, 0, none⟩) n cap ∧ w.ownsRow B e 1 (.slice (some ⟨g, 0, none⟩) n cap) n cs ∧ (∀ j x, al g = some (j, x) → cs[j]? = some x) ∧ (Ov.ownBlock = some g ∨ (N ≤ g ∧ l ≤ g ∧ g < h)),
   fun ⟨g, cap, e1, ho, ha, hat⟩ r => ⟨g, cap, e1, own_row ho (fun g' j x hg hal => .inr (by simp only [Value.ownBlock, Option.some.injEq] at hg; subst hg; exact ha j x hal)) r, ha, hat⟩⟩
def al2 (Ov Pv : Value) (k : Nat) (x y : Value) : Nat → Option (Nat × Value) := fun b => if Ov.ownBlock = some b then some (k, x) else if Pv.ownBlock = some b then some (k, y) else none
theorem al2_none {Ov Pv : Value} {k b : Nat} {x y : Value} (h1 : Ov.ownBlock ≠ some b) (h2 : Pv.ownBlock ≠ some b) : al2 Ov Pv k x y b = none := by
  unfold al2; rw [if_neg h1, if_neg h2]
theorem al2_one {Ov Pv : Value} {k b : Nat} {x y : Value} (h1 : Ov.ownBlock = some b) : al2 Ov Pv k x y b = some (k, x) := by
  unfold al2; rw [if_pos h1]
theorem al2_two {Ov Pv : Value} {k b : Nat} {x y : Value} (h : Ov.ownBlock = none ∨ Ov.ownBlock ≠ Pv.ownBlock) (h2 : Pv.ownBlock = some b) : al2 Ov Pv k x y b = some (k, y) := by
  unfold al2
  rw [if_neg (fun e => by rcases h with h | h
                          · rw [h] at e; cases e
                          · exact h (e.trans h2.symm)), if_pos h2]
/-- One append, in the region. -/
theorem app_int (ty : TypeId) (al : Nat → Option (Nat × Value)) (w : World) (B : Nat) (v : Value) (xs : List Nat) (z : Nat) (hown : RI w B v xs) (b : Nat) (hk : Bk w b #[.int .i64 (z : Int)] 3) (hl : xs.length ≤ 100000) (hB : B ≤ w.heap.size)
    (hal : ∀ g, v.ownBlock = some g → al g = some (xs.length, .int .i64 (z : Int))) (hal' : ∀ g, w.heap.size ≤ g → al g = none) :
    ∃ g cap w', (Builtin.append_ #[32, 32] ty #[v, .slice (some ⟨b, 0, none⟩) 1 1]).run Try.prog w = .ok (.slice (some ⟨g, 0, none⟩) (xs.length + 1) cap) w' ∧ RowR al w w' ∧
      w'.ownsRow B 3 1 (.slice (some ⟨g, 0, none⟩) (xs.length + 1) cap) (xs.length + 1) (ncells (xs ++ [z])) ∧ (∀ j x, al g = some (j, x) → (ncells (xs ++ [z]))[j]? = some x) ∧ (v.ownBlock = some g ∨ (w.heap.size ≤ g ∧ g < w'.heap.size)) := by
  obtain ⟨i0, hi0, hz0, hz1, hz2⟩ := info_parts info_int
  obtain ⟨g, cap, w', h1, h2, h3, h4⟩ := app_one 32 3 ty i0 (.int .i64 0) 8 Try.underlying32 hi0 hz0 hz1 hz2 rfl (by omega) al w B xs.length v (.int .i64 (z : Int)) (ncells xs) hown b 3 hk rfl hl hB hal
  have e : ncells xs ++ [.int .i64 (z : Int)] = ncells (xs ++ [z]) := by simp
  rw [e] at h3
  refine ⟨g, cap, w', h1, h2, h3, fun j x hj => ?_, h4⟩
  rcases h4 with h4 | h4
  · rw [hal g h4] at hj
    obtain ⟨rfl, rfl⟩ := Prod.mk.inj (Option.some.inj hj)
    simp
  · rw [hal' g h4.1] at hj; cases hj
structure AlI (w wr : World) (Ov Pv : Value) (k p : Nat) : Prop where
  e : Ext w wr
  r : Bk wr w.heap.size #[.slice none 0 0, .slice none 0 0] 34
  f : Bk wr (w.heap.size + 1) #[Ov, Pv] 34
  o : RI wr (w.heap.size + 2) Ov (List.range k)
  p : RI wr (w.heap.size + 2) Pv (List.replicate k p)
  ne : Ov.ownBlock = none ∨ Ov.ownBlock ≠ Pv.ownBlock
set_option maxRecDepth 100000 in
set_option maxHeartbeats 4000000 in
theorem allF_any (n p : Nat) (w : World) (hn : n ≤ 1000) :
    Calls Try.prog 38 #[.int .i64 (n : Int), .int .i64 (p : Int)] w fun e w' => ∃ A c P d, e = .returned (.agg #[.slice A n c, .slice P n d]) ∧ Ext w w' ∧ Is w' A (allF n (p : Int)).order ∧ Is w' P (allF n (p : Int)).part := by
  obtain ⟨W, hW, hE, hz, k0, k1⟩ := box2 w #[.slice none 0 0, .slice none 0 0] #[.slice none 0 0, .slice none 0 0] 34 34
  have HE := Lib.hid hE
  have HK := Lib.hid k0
  have HK1 := Lib.hid k1
  clear hE hz k0 k1
  go_enter Try.func38, Try.ntmps38
  go_wp2_with fail
  clear hW
  go_loopw [6] (fun vi wr => ∃ (k : Nat) (Ov Pv : Value), k ≤ n ∧ vi = .int .i64 k ∧ Hid (AlI w wr Ov Pv k p)) (fun vi _ => n - (intOf vi).toNat)
  case atStart => exact ⟨0, .slice none 0 0, .slice none 0 0, Nat.zero_le _, rfl, ⟨HE.out, HK.out, HK1.out, World.ownsRow_nil _ _ _ _, World.ownsRow_nil _ _ _ _, .inl rfl⟩⟩
  case round =>
    obtain ⟨k, Ov, Pv, hk, rfl, HI⟩ := hrel
    by_cases hlt : k < n
    · obtain ⟨al, hal⟩ : ∃ al, al = al2 Ov Pv k (.int .i64 (k : Int)) (.int .i64 (p : Int)) := ⟨_, rfl⟩
      have hfree : ∀ b, b < w.heap.size + 2 ∨ wr.heap.size ≤ b → al b = none := fun b hb => by
        rw [hal]
        refine al2_none (fun e => ?_) (fun e => ?_)
        · have := HI.out.o.lt b e; omega
        · have := HI.out.p.lt b e; omega
      have Hfree := Lib.hid hfree
      have hal1 : Hid (∀ g, Ov.ownBlock = some g → al g = some ((List.range k).length, .int .i64 (k : Int))) := fun g hg => by rw [hal, List.length_range]; exact al2_one hg
      have hal2 : Hid (∀ g, Pv.ownBlock = some g → al g = some ((List.replicate k p).length, .int .i64 (p : Int))) := fun g hg => by rw [hal, List.length_replicate]; exact al2_two HI.out.ne hg
      have HIo : ∀ w', RowR al wr w' → RI w' (w.heap.size + 2) Ov (List.range k) := fun w' h => own_row HI.out.o (fun g j x hg hj => .inl (by rw [hal1.out g hg] at hj; have := (Prod.mk.inj (Option.some.inj hj)).1; omega)) h
      have HIp : ∀ w', RowR al wr w' → RI w' (w.heap.size + 2) Pv (List.replicate k p) := fun w' h => own_row HI.out.p (fun g j x hg hj => .inl (by rw [hal2.out g hg] at hj; have := (Prod.mk.inj (Option.some.inj hj)).1; omega)) h
      have HO := Lib.hid HIo
      have HP := Lib.hid HIp
      have hsz : w.heap.size + 2 ≤ wr.heap.size := by have := HI.out.f.lt; omega
      clear hal hfree HIo HIp
      go_wp2_with fail
      have hS := Lib.hid (fun w' (h : RowR al wr w') => (⟨h, (h.bk HI.out.f (Hfree.out _ (by omega))).cell 0, (h.bk HI.out.f (Hfree.out _ (by omega))).cell 1⟩ : RowR al wr w' ∧ w'.cell? ⟨w.heap.size + 1, 0, none⟩ = some Ov ∧ w'.cell? ⟨w.heap.size + 1, 1, none⟩ = some Pv))
      refine wp_region_r2 (PW.row al) 11 (by kernel_rfl) (by kernel_rfl) (RowR.of_ext (Ext.refl wr).drew) ?_
      (apply relW2_fix
       · intro vs iv w' hw hf
         have hc := hS.out w' hw
         unfold okAt2
         go_simp
         first | exact ⟨rfl, PW.refl _ _⟩ | exact rfl
       · intro vs; go_simp; rfl)
      (apply relW2_fix
       · intro vs iv w' hw hf
         have hc := hS.out w' hw
         unfold okAt2
         go_simp
         first | exact ⟨rfl, PW.refl _ _⟩ | exact rfl
       · intro vs; go_simp; rfl)
      (apply relW2_fix
       · intro vs iv w' hw hf
         have hc := hS.out w' hw
         unfold okAt2
         go_simp
         first | exact ⟨rfl, PW.refl _ _⟩ | exact rfl
       · intro vs; go_simp; rfl)
      (apply relW2_any (SW.one al wr.heap.size (fun b hb => Hfree.out b (.inr hb)) (.int .i64 (k : Int)) 3)
       · intro vs iv w' hw hf
         have hc := hS.out w' hw
         skip
         unfold okAt2
         go_simp
         exact ⟨⟨_, rfl, Bk.new _ _ _, RowR.size hw⟩, RowR.of_ext ((Ext.refl _).alloc _)⟩
       · intro vs; go_simp; rfl)
      (apply relW2_any (SW.app al wr.heap.size (w.heap.size + 2) 3 Ov (k + 1) (ncells (List.range k ++ [k])))
       · intro vs iv w' hw hf
         obtain ⟨b, eb, hb1, hb2⟩ := hf.out.1 (by kernel_rfl)
         have hw2 : wr.heap.size ≤ w'.heap.size := RowR.size hw
         obtain ⟨g, cap, w2, h1, h2, h3, h4, h5⟩ := app_int 32 al w' (w.heap.size + 2) Ov (List.range k) k (HO.out w' hw) b hb1 (by simp; omega) (by omega) hal1.out (fun g hg => Hfree.out g (.inr (by omega)))
         rw [List.length_range] at h1 h3
         refine okAt2_app rfl _ _ _ rfl _ _ _ rfl (by exact eb) h1 ⟨g, cap, rfl, h3, h4, ?_⟩ h2
         rcases h5 with h5 | h5
         · exact .inl h5
         · exact .inr ⟨by omega, h5.1, h5.2⟩
       · intro vs; go_simp; rfl)
      (apply relW2_fix
       · intro vs iv w' hw hf
         have hc := hS.out w' hw
         unfold okAt2
         go_simp
         first | exact ⟨rfl, PW.refl _ _⟩ | exact rfl
       · intro vs; go_simp; rfl)
      (apply relW2_fix
       · intro vs iv w' hw hf
         have hc := hS.out w' hw
         unfold okAt2
         go_simp
         first | exact ⟨rfl, PW.refl _ _⟩ | exact rfl
       · intro vs; go_simp; rfl)
      (apply relW2_fix
       · intro vs iv w' hw hf
         have hc := hS.out w' hw
         unfold okAt2
         go_simp
         first | exact ⟨rfl, PW.refl _ _⟩ | exact rfl
       · intro vs; go_simp; rfl)
      (apply relW2_any (SW.one al wr.heap.size (fun b hb => Hfree.out b (.inr hb)) (.int .i64 (p : Int)) 3)
       · intro vs iv w' hw hf
         have hc := hS.out w' hw
         skip
         unfold okAt2
         go_simp
         exact ⟨⟨_, rfl, Bk.new _ _ _, RowR.size hw⟩, RowR.of_ext ((Ext.refl _).alloc _)⟩
       · intro vs; go_simp; rfl)
      (apply relW2_any (SW.app al wr.heap.size (w.heap.size + 2) 3 Pv (k + 1) (ncells (List.replicate k p ++ [p])))
       · intro vs iv w' hw hf
         obtain ⟨b, eb, hb1, hb2⟩ := hf.out.1 (by kernel_rfl)
         have hw2 : wr.heap.size ≤ w'.heap.size := RowR.size hw
         obtain ⟨g, cap, w2, h1, h2, h3, h4, h5⟩ := app_int 32 al w' (w.heap.size + 2) Pv (List.replicate k p) p (HP.out w' hw) b hb1 (by simp; omega) (by omega) hal2.out (fun g hg => Hfree.out g (.inr (by omega)))
         rw [List.length_replicate] at h1 h3
         refine okAt2_app rfl _ _ _ rfl _ _ _ rfl (by exact eb) h1 ⟨g, cap, rfl, h3, h4, ?_⟩ h2
         rcases h5 with h5 | h5
         · exact .inl h5
         · exact .inr ⟨by omega, h5.1, h5.2⟩
       · intro vs; go_simp; rfl)
      (apply relW2_fix
       · intro vs iv w' hw hf
         have hc := hS.out w' hw
         unfold okAt2
         go_simp
         first | exact ⟨rfl, PW.refl _ _⟩ | exact rfl
       · intro vs; go_simp; rfl)
      refine relW2_nil fun vs iv w2 hw hf hap => ?_
      obtain ⟨⟨g2, cap2, e9, ho2, -, hat2⟩, -, ⟨g1, cap1, e4, ho1, -, hat1⟩, -, -⟩ := hf
      have hap := hap 4 9 (by omega) (by omega) (by omega)
      have hat1 : Ov.ownBlock = some g1 ∨ (wr.heap.size ≤ g1 ∧ (iv 4).1 ≤ g1 ∧ g1 < (iv 4).2) := hat1
      have hat2 : Pv.ownBlock = some g2 ∨ (wr.heap.size ≤ g2 ∧ (iv 9).1 ≤ g2 ∧ g2 < (iv 9).2) := hat2
      have hwr : RowR al wr w2 := hw
      have hne : g1 ≠ g2 := by
        rintro rfl
        rcases hat1 with a | a <;> rcases hat2 with b | b
        · rcases HI.out.ne with h | h
          · rw [h] at a; cases a
          · exact h (a.trans b.symm)
        · have := (HI.out.o.lt g1 a).2; omega
        · have := (HI.out.p.lt g1 b).2; omega
        · omega
      have kf := hwr.bk HI.out.f (Hfree.out _ (by omega))
      have kr := hwr.bk HI.out.r (Hfree.out _ (by omega))
      have hE2 : Ext w w2 := Below.trans HI.out.e (hwr.below (by omega) (fun k hk => Hfree.out k (by omega)))
      have o0 := kf.cell 0
      have o1 := kf.cell 1
      have f0 := kf.frozen 0
      have f1 := kf.frozen 1
      simp at o0 o1
      have Kf := Lib.hid kf
      have Kr := Lib.hid kr
      have HE2 := Lib.hid hE2
      have Ho1 : Hid (RI w2 (w.heap.size + 2) (.slice (some ⟨g1, 0, none⟩) (k + 1) cap1) (List.range (k + 1))) := by
        show World.ownsRow _ _ _ _ _ _ _
        rw [List.range_succ]
        simpa using ho1
      have Ho2 : Hid (RI w2 (w.heap.size + 2) (.slice (some ⟨g2, 0, none⟩) (k + 1) cap2) (List.replicate (k + 1) p)) := by
        show World.ownsRow _ _ _ _ _ _ _
        rw [List.replicate_succ']
        simpa using ho2
      have Hne := Lib.hid hne
      clear hw hap hwr hat1 hat2 ho1 ho2 hne kf kr hE2 hS HI HO HP hal1 hal2 Hfree
      go_wp2
      go_roundw
      case rel =>
        refine ⟨k + 1, .slice (some ⟨g1, 0, none⟩) (k + 1) cap1, .slice (some ⟨g2, 0, none⟩) (k + 1) cap2, by omega, by go_num, ⟨(HE2.out.setCell (Nat.le_succ _) _).setCell (Nat.le_succ _) _, (Kr.out.far (by simp) _).far (by simp) _, ?_, ?_, ?_, ?_⟩⟩
        · exact (Kf.out.set 0 _).set 1 _
        · exact (Ho1.out.low (by omega) _).low (by omega) _
        · exact (Ho2.out.low (by omega) _).low (by omega) _
        · right; simp [Value.ownBlock]; exact Hne.out
      case measure => simp [intOf]; omega
    · obtain rfl : k = n := by omega
      have o0 := HI.out.f.cell 0
      have o1 := HI.out.f.cell 1
      have r0 := HI.out.r.cell 0
      have r1 := HI.out.r.cell 1
      have f0 := HI.out.r.frozen 0
      have f1 := HI.out.r.frozen 1
      simp at o0 o1 r0 r1
      obtain ⟨A, c, rfl, hA⟩ := HI.out.o.is
      obtain ⟨P, d, rfl, hP⟩ := HI.out.p.is
      have HA := Lib.hid hA
      have HP := Lib.hid hP
      have hlo : Hid ((∀ a, A = some a → a.block ≠ w.heap.size) ∧ (∀ a, P = some a → a.block ≠ w.heap.size)) := by
        refine ⟨fun a ha => ?_, fun a ha => ?_⟩
        · have := HI.out.o.lt a.block (by rw [ha]; rfl); omega
        · have := HI.out.p.lt a.block (by rw [ha]; rfl); omega
      clear hA hP
      go_wp2
      have kk := (HI.out.r.set 0 (.slice A (List.range k).length c)).set 1 (.slice P (List.replicate k p).length d)
      have q0 := kk.cell 0
      have q1 := kk.cell 1
      simp only [Array.setIfInBounds_def] at q0 q1
      simp only [List.length_range, List.length_replicate] at q0 q1 ⊢
      refine bodyPost_ret (v := .agg #[.slice A k c, .slice P k d]) (by simp [results, Try.results38, go_sem, q0, q1]) rfl ⟨A, c, P, d, rfl, (HI.out.e.setCell (Nat.le_refl _) _).setCell (Nat.le_refl _) _, ?_, ?_⟩
      · exact (HA.out.far hlo.out.1 _).far hlo.out.1 _
      · have := (HP.out.far hlo.out.2 (.slice A k c) (p := ⟨w.heap.size, 0, none⟩)).far hlo.out.2 (.slice P k d) (p := ⟨w.heap.size, 1, none⟩)
        rw [List.map_replicate] at this
        exact this
end Go.Proofs.Ytdlalmbnkcadfaa
