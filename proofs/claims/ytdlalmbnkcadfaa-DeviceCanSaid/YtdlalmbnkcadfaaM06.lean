/- device: a block; a write that gets there with a part. -/
import Derived.Test.YtdlalmbnkcadfaaM05
import Derived.Deep.AppendLies
namespace Go.Proofs.Ytdlalmbnkcadfaa
open Go.RowKit

set_option maxHeartbeats 1000000 in
theorem block_any (g o n c : Nat) (P : Value) (k : Nat) (w : World) (hk : k * 32 + 32 ≤ n) (hn : n ≤ c) (hc : n ≤ 100000) :
    Calls Try.prog 64 #[.agg #[.slice (some ⟨g, o, none⟩) n c, P], .int .i64 (k : Int)] w fun e w' => e = .returned (.slice (some ⟨g, o + k * 32, none⟩) 32 32) ∧ Ext w w' := by
  have hne : ¬ c = k * 32 := by omega
  go_enter Try.func64, Try.ntmps64
  go_wp2
  go_ret
  exact ⟨rfl, (Ext.refl w).alloc _⟩

/-- The first bytes of a write, put onto a device's bytes. -/
def put1 (bytes : BL) (blk : Nat) (bs : BL) (part : Nat) : BL := bytes.take (blk * 32) ++ bs.take part ++ bytes.drop (blk * 32 + part)
theorem put1_length (bytes : BL) (blk : Nat) (bs : BL) (part : Nat) (h1 : part ≤ bs.length) (h2 : blk * 32 + part ≤ bytes.length) : (put1 bytes blk bs part).length = bytes.length := by
  unfold put1; simp; omega
theorem splice_put1 (bytes : BL) (more : List Value) (blk : Nat) (bs : BL) (part : Nat) (h1 : part ≤ bs.length) (h2 : blk * 32 + part ≤ bytes.length) :
    splice (bcells bytes ++ more) (blk * 32) (bcells (bs.take part)) = bcells (put1 bytes blk bs part) ++ more := by
  have e1 : (bcells (bs.take part)).length = part := by simp; omega
  have e2 : (bcells bytes).length = bytes.length := by simp
  unfold splice put1
  rw [e1, List.take_append_of_le_length (by rw [e2]; omega), List.drop_append_of_le_length (by rw [e2]; omega)]
  simp [bcells, List.map_take, List.map_drop, List.append_assoc]

theorem grown_setRow (w : World) (g : Nat) (cs : Array Value) : w.grownBy (w.setRow g cs) (some g) :=
  ⟨rfl, rfl, rfl, by simp, fun k _ hne => setRow_other w g k cs (fun e => hne (by rw [e]))⟩

theorem ext_grown {w w1 w2 : World} {row : Option Nat} (h : Ext w w1) (hg : w1.grownBy w2 row) : w.grownBy w2 row :=
  ⟨hg.os.trans h.os, hg.tape.trans h.tape, hg.output.trans h.output, Nat.le_trans h.size hg.size, fun k hk hne => (hg.block k (Nat.lt_of_lt_of_le hk h.size) hne).trans (h.block k hk)⟩
/-- copy into a row of the call's own. -/
theorem wpList_copy_to {P : Program} {w : World} {ops : Array Oper} {rest : List Oper} {o : Oper} {a : Act} {Q : Exit → Act → World → Prop} (hgd : o.guard = none) (d s : Operand) (dT sT : TypeId)
    (ho : o.op = .call { callee := .builtin .copy, args := #[d, s], argTypes := #[dT, sT] }) (elem : TypeId) (hu : P.underlying dT = some (.slice elem)) (hsz : (P.info? elem).map (·.size) = some 1)
    (dp sp : Option Addr) (dLen dCap sLen sCap : Nat) (hd : a.eval d = .slice dp dLen dCap) (hs : a.eval s = .slice sp sLen sCap)
    (g off : Nat) (cur : List Value) (t : TypeId) (hg : Bk w g cur.toArray t) (cs : List Value) (hn : cs.length = Nat.min sLen dLen)
    (hpos : 0 < cs.length → dp = some ⟨g, off, none⟩) (hsrc : Sl w sp cs)
    (hfit : off + cs.length ≤ cur.length) (h1 : ∀ v ∈ cs, v.oneCell' = true)
    (h : ∀ w', Bk w' g (splice cur off cs).toArray t → w.grownBy w' (some g) → wpList P ops Q rest (a.put o.dst (goInt cs.length)) w') :
    wpList P ops Q (o :: rest) a w := by
  by_cases h0 : cs.length = 0
  · obtain rfl : cs = [] := List.eq_nil_of_length_eq_zero h0
    refine wpList_copy_nothing hgd d s dT sT ho elem hu hsz dp sp dLen dCap sLen sCap hd hs (by simpa using hn.symm) ?_
    exact h w (by simpa [splice] using hg) (World.grownBy.refl w _)
  · obtain rfl := hpos (by omega)
    obtain ⟨b, o2, rfl, _⟩ := hsrc 0 cs[0] (List.getElem?_eq_getElem (by omega))
    have hsrc' : ∀ j v, cs[j]? = some v → w.cell? ((⟨b, o2, none⟩ : Addr).add j) = some v := fun j v hj => by
      obtain ⟨b', o', e, hc⟩ := hsrc j v hj
      simp only [Option.some.injEq, Addr.mk.injEq] at e
      obtain ⟨rfl, rfl, _⟩ := e
      rw [show (Addr.add ⟨b, o2, none⟩ j) = ⟨b, o2 + j, none⟩ from by unfold Addr.add; split <;> simp_all]
      exact hc
    refine wpList_copy_own hgd d s dT sT ho elem hu hsz g off dLen dCap ⟨b, o2, none⟩ sLen sCap hd hs cur.toArray t hg cs hn hsrc' (by simpa using hfit) h1 ?_
    exact h _ (by unfold Bk; simpa [splice] using setRow_heap w g _ _ t _ hg) (grown_setRow w g _)

set_option maxRecDepth 100000 in
set_option maxHeartbeats 1000000 in
theorem reach_any (g cap : Nat) (P : Value) (bytes bs : BL) (A : Option Addr) (c blk part : Nat) (w : World) (hO : OB w g cap bytes) (hcap : bytes.length ≤ 100000) (hA : By w A bs)
    (hb : blk * 32 + 32 ≤ bytes.length) (hp : part ≤ bs.length) (hp2 : part ≤ 32) (hbc : bs.length ≤ c) :
    Calls Try.prog 87 #[.agg #[.slice (some ⟨g, 0, none⟩) bytes.length cap, P], .agg #[.int .i64 (blk : Int), .slice A bs.length c], .int .i64 (part : Int)] w fun e w' =>
      e = .returned (.tuple #[]) ∧ OB w' g cap (put1 bytes blk bs part) ∧ w.grownBy w' (some g) := by
  go_enter Try.func87, Try.ntmps87
  go_wp2
  obtain ⟨W, hW, hE, hz, k0, k1⟩ := box2 w #[.slice (some ⟨g, 0, none⟩) bytes.length cap, P] #[.int .i64 (blk : Int), .slice A bs.length c] 84 49
  rw [hW]; clear hW
  have hS := Lib.hid (fun w' (h : Ext W w') => (⟨h, (k0.ext h).cell 0, (k0.ext h).cell 1, (k1.ext h).cell 0, (k1.ext h).cell 1⟩ : Ext W w' ∧ w'.cell? ⟨w.heap.size, 0, none⟩ = some (.slice (some ⟨g, 0, none⟩) bytes.length cap) ∧ w'.cell? ⟨w.heap.size, 1, none⟩ = some P ∧ w'.cell? ⟨w.heap.size + 1, 0, none⟩ = some (.int .i64 (blk : Int)) ∧ w'.cell? ⟨w.heap.size + 1, 1, none⟩ = some (.slice A bs.length c)))
  have q1 : (0 : Int) ≤ (part : Int) := by omega
  have q2 : (part : Int) ≤ (bs.length : Int) := by omega
  have q3 : (part : Int) ≤ (c : Int) := by omega
  have hble : bytes.length ≤ cap := by obtain ⟨m, h1, _⟩ := hO; omega
  refine wp_region_rel 8 (by kernel_rfl) (by kernel_rfl) (Ext.refl W).drew ?_
  repeat (apply relW_fix
          · intro vs w' hw hf
            have hc := hS.out w' hw
            unfold okAt
            go_simp
            first | exact ⟨rfl, Ext.refl _⟩ | exact rfl
          · intro vs; go_simp; rfl)
  (apply relW_fix
   · intro vs w' hw hf
     have hc := hS.out w' hw
     skip
     unfold okAt
     go_simp
     refine ⟨Ext.refl _, ?_⟩
     go_at_call 64
     refine (block_any g 0 bytes.length cap P blk _ hb hble (by omega)).mono ?_; rintro e w2 ⟨rfl, hb⟩; exact ⟨_, rfl, rfl, hb⟩
   · intro vs; go_simp; rfl)
  repeat (apply relW_fix
          · intro vs w' hw hf
            have hc := hS.out w' hw
            unfold okAt
            go_simp
            first | exact ⟨rfl, Ext.refl _⟩ | exact rfl
          · intro vs; go_simp; rfl)
  refine relW_nil fun vs w' hw hf => ?_
  have hO' := Lib.hid (hO.ext (hE.trans hw))
  have hA' := Lib.hid (hA.ext (hE.trans hw))
  obtain ⟨more, hm1, hm2⟩ := hO'.out
  have Hm := Lib.hid hm1
  have Hm2 := Lib.hid hm2
  clear hm1 hm2
  refine wpList_copy_to (P := Try.prog) rfl (.tmp 9) (.tmp 13) 22 22 rfl 5 Try.underlying22 u8size (some ⟨g, blk * 32, none⟩) A 32 32 part c (by rfl) (by rfl) g (blk * 32) (bcells bytes ++ more) _ Hm2.out (bcells (bs.take part)) ?_ (fun _ => rfl) ?_ ?_ ?_ ?_
  · have hmin : Nat.min part 32 = part := Nat.min_eq_left hp2
    rw [hmin]; simp; omega
  · exact hA'.out.take part
  · simp; omega
  · exact bcells_one _
  · intro w2 hb2 hg2
    refine wpList_nil ?_
    have Hg := Lib.hid hg2
    have Hb := Lib.hid hb2
    clear hg2 hb2 hO hA
    go_wp2
    go_end0
    refine ⟨rfl, ⟨more, ?_, ?_⟩, ?_⟩
    · rw [put1_length _ _ _ _ hp (by omega)]; exact Hm.out
    · rw [← splice_put1 _ _ _ _ _ hp (by omega)]; exact Hb.out
    · exact ext_grown (hE.trans hw) Hg.out

theorem reach_int (g cap : Nat) (P : Value) (bytes bs : BL) (A : Option Addr) (c : Nat) (blk part : Int) (w : World) (hO : OB w g cap bytes) (hcap : bytes.length ≤ 100000) (hA : By w A bs)
    (h0 : 0 ≤ blk) (hb : blk.toNat * 32 + 32 ≤ bytes.length) (hp0 : 0 ≤ part) (hp : part.toNat ≤ bs.length) (hp2 : part ≤ 32) (hbc : bs.length ≤ c) :
    Calls Try.prog 87 #[.agg #[.slice (some ⟨g, 0, none⟩) bytes.length cap, P], .agg #[.int .i64 blk, .slice A bs.length c], .int .i64 part] w fun e w' =>
      e = .returned (.tuple #[]) ∧ OB w' g cap (put1 bytes blk.toNat bs part.toNat) ∧ w.grownBy w' (some g) := by
  obtain ⟨b, rfl⟩ := Int.eq_ofNat_of_zero_le h0
  obtain ⟨p, rfl⟩ := Int.eq_ofNat_of_zero_le hp0
  rw [Int.toNat_natCast] at *
  rw [Int.toNat_natCast] at *
  exact reach_any g cap P bytes bs A c b p w hO hcap hA hb hp (by omega) hbc
end Go.Proofs.Ytdlalmbnkcadfaa
/- device: all writes are writes of the device. -/
namespace Go.Proofs.Ytdlalmbnkcadfaa
open Go.RowKit

abbrev isWr (A P : Option Addr) (n c m e : Nat) : Value := .func (.func 82) #[.agg #[.slice A n c, .slice P m e]] #[]

set_option maxHeartbeats 1000000 in
theorem all1_any (A P B : Option Addr) (n c m e d bi : Nat) (x : Wr) (w : World) (hn : n ≤ 9223372036854775807) (hx : x.bs.length ≤ 9223372036854775807)
    (hi : w.cell? ⟨bi, 0, none⟩ = some (isWr A P n c m e)) :
    Calls Try.prog 96 #[.agg #[.int .i64 x.blk, .slice B x.bs.length d], .pointer (some ⟨bi, 0, none⟩)] w fun r w' => r = .returned (.bool (!okWr (n / 32) x)) ∧ Ext w w' := by
  have hlt := cell_lt hi
  go_enter Try.func96, Try.ntmps96
  go_wp2_with fail
  refine (isWrite_any A P B n c m e d x _ hn hx).mono ?_
  rintro r w1 ⟨rfl, hb⟩
  go_wp2
  go_ret
  exact ⟨rfl, ((Ext.refl w).alloc _).trans hb⟩

def notWr (nb : Nat) (x : Wr) : Bool := !okWr nb x

set_option maxHeartbeats 1000000 in
theorem indexFunc2 (A P Q : Option Addr) (n c m e q bi : Nat) (ws : List Wr) (w : World) (hn : n ≤ 9223372036854775807) (hl : ws.length ≤ 1000000000) (hs : ∀ x ∈ ws, x.bs.length ≤ 9223372036854775807)
    (hQ : Ws w Q ws) (hi : w.cell? ⟨bi, 0, none⟩ = some (isWr A P n c m e)) :
    Calls Try.prog 105 #[.slice Q ws.length q, .func (.func 96) #[] #[.pointer (some ⟨bi, 0, none⟩)]] w fun r w' =>
      r = .returned (.int .i64 (idxOf (notWr (n / 32)) ws 0)) ∧ Ext w w' := by
  go_enter Try.func105, Try.ntmps105
  go_wp2
  go_loopw [8] (fun i wr => ∃ k : Nat, k ≤ ws.length ∧ i = .int .i64 k ∧ Hid (idxOf (notWr (n / 32)) (ws.drop k) k = idxOf (notWr (n / 32)) ws 0) ∧ Ext w wr) (fun i _ => ws.length - (intOf i).toNat)
  case atStart => exact ⟨0, Nat.zero_le _, rfl, rfl, Ext.refl _⟩
  case round =>
    obtain ⟨k, hk, rfl, hidx, hE⟩ := hrel
    by_cases hlt : k < ws.length
    · obtain ⟨b, o, B, d, rfl, h1, h2, h3, h4⟩ := hQ k ws[k] (List.getElem?_eq_getElem hlt)
      have g1 := cellExt hE h1
      have g2 := cellExt hE h2
      have g3 := cellExt hE hi
      have hsk := Lib.hid (hs ws[k] (List.getElem_mem hlt))
      clear h1 h2 h4 h3
      have Hs := Lib.hid (idxOf_step (notWr (n / 32)) ws k hlt)
      go_wp2_with fail
      refine (all1_any A P B n c m e d bi ws[k] _ hn hsk.out g3).mono ?_
      rintro r w1 ⟨rfl, hb⟩
      have hE1 := hE.trans hb
      have hnw : (!okWr (n / 32) ws[k]) = notWr (n / 32) ws[k] := rfl
      rw [hnw]
      clear hnw
      by_cases hp : notWr (n / 32) ws[k] = true
      · have e1 := hidx.out
        rw [Hs.out, if_pos hp] at e1
        have E1 := Lib.hid e1
        clear e1
        go_wp2
        go_ret
        exact ⟨ret_int E1.out, hE1⟩
      · have e1 := hidx.out
        rw [Hs.out, if_neg hp] at e1
        have E1 := Lib.hid e1
        have hp' : notWr (n / 32) ws[k] = false := by simpa using hp
        clear e1 hp
        go_wp2
        go_roundw
        case rel => exact ⟨k + 1, by omega, by go_num, E1, hE1⟩
        case measure => simp [intOf]; omega
    · have Hs := Lib.hid (idxOf_end (notWr (n / 32)) ws k hlt)
      go_wp2
      go_ret
      have e1 := hidx.out
      rw [Hs.out] at e1
      exact ⟨ret_int e1, hE⟩

set_option maxHeartbeats 1000000 in
theorem all_any (A P Q : Option Addr) (n c m e q : Nat) (ws : List Wr) (w : World) (hn : n ≤ 9223372036854775807) (hl : ws.length ≤ 1000000000) (hs : ∀ x ∈ ws, x.bs.length ≤ 9223372036854775807)
    (hQ : Ws w Q ws) :
    Calls Try.prog 81 #[.slice Q ws.length q, isWr A P n c m e] w fun r w' => r = .returned (.bool (ws.all (okWr (n / 32)))) ∧ Ext w w' := by
  have Hg := Lib.hid (idxOf_ge (notWr (n / 32)) ws 0)
  obtain ⟨W, hW, hE, hz, k0⟩ := box1 w #[isWr A P n c m e] 108
  have cont : Calls Try.prog 95 #[.slice Q ws.length q, .func (.func 96) #[] #[.pointer (some ⟨w.heap.size, 0, none⟩)]] W fun r w' => r = .returned (.bool (ws.any (notWr (n / 32)))) ∧ Ext W w' := by
    go_enter Try.func95, Try.ntmps95
    go_wp2_with fail
    refine (indexFunc2 A P Q n c m e q w.heap.size ws _ hn hl hs (hQ.ext hE) (k0.cell 0)).mono ?_
    rintro r w1 ⟨rfl, hb⟩
    go_wp2
    go_ret
    exact ⟨ret_bool Hg.out, hb⟩
  have hall : (!ws.any (notWr (n / 32))) = ws.all (okWr (n / 32)) := by
    rw [List.all_eq_not_any_not]; rfl
  have Hall := Lib.hid hall
  clear hall
  go_enter Try.func81, Try.ntmps81
  go_wp2_with fail
  refine cont.mono ?_
  rintro r w1 ⟨rfl, hb⟩
  clear cont hW
  go_wp2
  go_ret
  exact ⟨ret_bool Hall.out, hE.trans hb⟩
end Go.Proofs.Ytdlalmbnkcadfaa
/- device: open. -/
namespace Go.Proofs.Ytdlalmbnkcadfaa
open Go.RowKit

/-- What is wrong with a device. -/
def pCheck (D : Dk) : Int :=
  if D.bytes.length % 32 ≠ 0 ∨ D.bytes.length / 32 < 1 ∨ 256 < D.bytes.length / 32 then 4 else if 64 < D.pend.length then 5 else if D.pend.all (okWr (D.bytes.length / 32)) = true then 0 else 2

abbrev Rec := Wr × Option Addr × Nat
abbrev rcells (qs : List Rec) : List Value := qs.flatMap fun q => [.int .i64 q.1.blk, .slice q.2.1 q.1.bs.length q.2.2]
theorem rcells_length (qs : List Rec) : (rcells qs).length = qs.length * 2 := by
  induction qs with
  | nil => rfl
  | cons q r ih => simp only [rcells, List.flatMap_cons, List.length_append, List.length_cons, List.length_nil] at *; omega
theorem rcells_one (qs : List Rec) : ∀ v ∈ rcells qs, v.oneCell' = true := fun v hv => by
  obtain ⟨q, _, hv⟩ := List.mem_flatMap.1 hv
  simp at hv
  rcases hv with rfl | rfl <;> rfl
theorem rcells_at (qs : List Rec) (j : Nat) (q : Rec) (h : qs[j]? = some q) : (rcells qs)[j * 2]? = some (.int .i64 q.1.blk) ∧ (rcells qs)[j * 2 + 1]? = some (.slice q.2.1 q.1.bs.length q.2.2) := by
  induction qs generalizing j with
  | nil => simp at h
  | cons a r ih =>
    cases j with
    | zero => simp at h; subst h; simp [rcells]
    | succ j =>
      have := ih j (by simpa using h)
      have e1 : (j + 1) * 2 = j * 2 + 1 + 1 := by omega
      have e2 : (j + 1) * 2 + 1 = j * 2 + 1 + 1 + 1 := by omega
      rw [e2, e1]
      simpa [rcells] using this

/-- The call's own row of writes that wait; its bytes lie beside the row and beside block g. -/
structure PO (w : World) (B : Nat) (X : List Nat) (Pv : Value) (qs : List Rec) : Prop where
  own : w.ownsRow B 49 2 Pv qs.length (rcells qs)
  one : ∀ q ∈ qs, q.1.bs.length ≤ q.2.2 ∧ By w q.2.1 q.1.bs ∧ ∀ a, q.2.1 = some a → B ≤ a.block ∧ a.block < w.heap.size ∧ (∀ x ∈ X, a.block ≠ x) ∧ some a.block ≠ Pv.ownBlock
theorem PO.mono {w : World} {B : Nat} {X Y : List Nat} {Pv : Value} {qs : List Rec} (h : PO w B X Pv qs) (hY : ∀ y ∈ Y, y ∈ X) : PO w B Y Pv qs :=
  ⟨h.own, fun q hq => by obtain ⟨h1, h2, h3⟩ := h.one q hq; exact ⟨h1, h2, fun a ha => by obtain ⟨a1, a2, a3, a4⟩ := h3 a ha; exact ⟨a1, a2, fun y hy => a3 y (hY y hy), a4⟩⟩⟩
theorem PO.form {w : World} {B : Nat} {X : List Nat} {Pv : Value} {qs : List Rec} (h : PO w B X Pv qs) : ∃ A c, Pv = .slice A qs.length c ∧ qs.length ≤ c := by
  rcases h.own.2 with ⟨hv, hn⟩ | ⟨g, cap, cur, hv, _, _, hc, _⟩
  · exact ⟨none, 0, by rw [hv, hn], by omega⟩
  · exact ⟨_, cap, hv, hc⟩
theorem PO.nil (w : World) (B : Nat) (X : List Nat) : PO w B X (.slice none 0 0) [] := ⟨World.ownsRow_nil _ _ _ _, fun q hq => by cases hq⟩
theorem PO.far {w : World} {B : Nat} {X : List Nat} {Pv : Value} {qs : List Rec} (h : PO w B X Pv qs) {p : Addr} (hX : p.block ∈ X) (ho : some p.block ≠ Pv.ownBlock) (u : Value) : PO (w.setCell p u) B X Pv qs := by
  have hg : w.grownBy (w.setCell p u) (some p.block) := ⟨rfl, rfl, rfl, by simp [World.setCell], fun k _ hne => Below.heap_setCell w p u k (fun e => hne (by rw [e]))⟩
  refine ⟨h.own.kept hg ?_, fun q hq => ?_⟩
  · cases hv : Pv.ownBlock with
    | none => exact .inl rfl
    | some k => exact .inr (fun e => ho (by rw [hv]; exact e.symm))
  · obtain ⟨h1, h2, h3⟩ := h.one q hq
    refine ⟨h1, h2.far (fun a ha => (h3 a ha).2.2.1 _ hX) u, fun a ha => ?_⟩
    obtain ⟨a1, a2, a3, a4⟩ := h3 a ha
    exact ⟨a1, by simpa [World.setCell] using a2, a3, a4⟩
theorem PO.grown {w w' : World} {B : Nat} {X : List Nat} {Pv : Value} {qs : List Rec} (h : PO w B X Pv qs) {k : Nat} (hg : w.grownBy w' (some k)) (hX : k ∈ X) (ho : some k ≠ Pv.ownBlock) : PO w' B X Pv qs := by
  refine ⟨h.own.kept hg ?_, fun q hq => ?_⟩
  · cases hv : Pv.ownBlock with
    | none => exact .inl rfl
    | some k => exact .inr (fun e => ho (by rw [hv]; exact e.symm))
  · obtain ⟨h1, h2, h3⟩ := h.one q hq
    refine ⟨h1, h2.grown (fun a ha e => (h3 a ha).2.2.1 _ hX (Option.some.inj e)) hg, fun a ha => ?_⟩
    obtain ⟨a1, a2, a3, a4⟩ := h3 a ha
    exact ⟨a1, Nat.lt_of_lt_of_le a2 hg.size, a3, a4⟩
theorem PO.at {w : World} {B : Nat} {X : List Nat} {Pv : Value} {qs : List Rec} (h : PO w B X Pv qs) {k : Nat} (hk : k < qs.length) :
    ∃ r pc, Pv = .slice (some ⟨r, 0, none⟩) qs.length pc ∧ B ≤ r ∧ w.cell? ⟨r, k * 2, none⟩ = some (.int .i64 qs[k].1.blk) ∧ w.cell? ⟨r, k * 2 + 1, none⟩ = some (.slice qs[k].2.1 qs[k].1.bs.length qs[k].2.2) := by
  obtain ⟨g, cap, hv, hB, _⟩ := h.own.form (by omega)
  subst hv
  obtain ⟨c1, c2⟩ := rcells_at qs k qs[k] (List.getElem?_eq_getElem hk)
  exact ⟨g, cap, rfl, hB, (h.own.cellAt (k * 2) (by omega)).trans c1, (h.own.cellAt (k * 2 + 1) (by omega)).trans c2⟩
/-- A device that the call has made. -/
def OD (w : World) (B : Nat) (v : Value) (D : Dk) : Prop :=
  ∃ g c Pv qs, v = .agg #[.slice (some ⟨g, 0, none⟩) D.bytes.length c, Pv] ∧ B ≤ g ∧ D.bytes.length ≤ c ∧ OB w g c D.bytes ∧ PO w B [g] Pv qs ∧ qs.map Prod.fst = D.pend

theorem PO.ext {w w' : World} {B : Nat} {X : List Nat} {Pv : Value} {qs : List Rec} (h : PO w B X Pv qs) (e : Ext w w') : PO w' B X Pv qs :=
  ⟨ownsRow_ext h.own e, fun q hq => by
    obtain ⟨h1, h2, h3⟩ := h.one q hq
    exact ⟨h1, h2.ext e, fun a ha => by obtain ⟨a1, a2, a3, a4⟩ := h3 a ha; exact ⟨a1, Nat.lt_of_lt_of_le a2 e.size, a3, a4⟩⟩⟩

/-- A new box that holds a write. -/
def SV.box (B : Nat) (x : Wr) : SV := ⟨fun v w => ∃ b A c, v = .slice (some ⟨b, 0, none⟩) 1 1 ∧ Bk w b #[.int .i64 x.blk, .slice A x.bs.length c] 49 ∧ x.bs.length ≤ c ∧ By w A x.bs ∧ ∀ a, A = some a → B ≤ a.block ∧ a.block < w.heap.size,
  fun ⟨b, A, c, h1, h2, h3, h4, h5⟩ e => ⟨b, A, c, h1, h2.ext e, h3, h4.ext e, fun a ha => ⟨(h5 a ha).1, Nat.lt_of_lt_of_le (h5 a ha).2 e.size⟩⟩⟩
def SV.wr (B : Nat) (x : Wr) : SV := ⟨fun v w => WrV w B v x, fun ⟨A, c, h1, h2, h3, h4⟩ e => ⟨A, c, h1, h2, h3.ext e, fun a ha => ⟨(h4 a ha).1, Nat.lt_of_lt_of_le (h4 a ha).2 e.size⟩⟩⟩

theorem PO.push {w w' : World} {B : Nat} {X : List Nat} {Pv : Value} {qs : List Rec} (h : PO w B X Pv qs) {g' cap : Nat} {q : Rec}
    (hown : w'.ownsRow B 49 2 (.slice (some ⟨g', 0, none⟩) (qs.length + 1) cap) (qs.length + 1) (rcells qs ++ [.int .i64 q.1.blk, .slice q.2.1 q.1.bs.length q.2.2]))
    (hgrow : w.grownBy w' Pv.ownBlock) (hat : Pv.ownBlock = some g' ∨ g' = w.heap.size)
    (h1 : q.1.bs.length ≤ q.2.2) (h2 : By w q.2.1 q.1.bs) (h3 : ∀ a, q.2.1 = some a → B ≤ a.block ∧ a.block < w.heap.size ∧ (∀ x ∈ X, a.block ≠ x) ∧ some a.block ≠ Pv.ownBlock) :
    PO w' B X (.slice (some ⟨g', 0, none⟩) (qs.length + 1) cap) (qs ++ [q]) := by
  have key : ∀ r : Rec, r.1.bs.length ≤ r.2.2 → By w r.2.1 r.1.bs → (∀ a, r.2.1 = some a → B ≤ a.block ∧ a.block < w.heap.size ∧ (∀ x ∈ X, a.block ≠ x) ∧ some a.block ≠ Pv.ownBlock) →
      r.1.bs.length ≤ r.2.2 ∧ By w' r.2.1 r.1.bs ∧ ∀ a, r.2.1 = some a → B ≤ a.block ∧ a.block < w'.heap.size ∧ (∀ x ∈ X, a.block ≠ x) ∧ some a.block ≠ (Value.slice (some ⟨g', 0, none⟩) (qs.length + 1) cap).ownBlock := by
    intro r r1 r2 r3
    refine ⟨r1, r2.grown (fun a ha => (r3 a ha).2.2.2) hgrow, fun a ha => ?_⟩
    obtain ⟨a1, a2, a3, a4⟩ := r3 a ha
    refine ⟨a1, Nat.lt_of_lt_of_le a2 hgrow.size, a3, ?_⟩
    simp only [Value.ownBlock]
    rcases hat with e | e
    · rw [e] at a4; exact a4
    · intro e2; simp only [Option.some.injEq] at e2; omega
  refine ⟨?_, ?_⟩
  · have : rcells (qs ++ [q]) = rcells qs ++ [.int .i64 q.1.blk, .slice q.2.1 q.1.bs.length q.2.2] := by simp [rcells]
    rw [this, List.length_append]
    exact hown
  · intro r hr
    rcases List.mem_append.1 hr with hr | hr
    · obtain ⟨r1, r2, r3⟩ := h.one r hr
      exact key r r1 r2 r3
    · simp only [List.mem_singleton] at hr
      subst hr
      exact key r h1 h2 h3
end Go.Proofs.Ytdlalmbnkcadfaa
