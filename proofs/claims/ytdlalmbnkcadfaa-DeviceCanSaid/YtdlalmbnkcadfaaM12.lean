/- device: the search's closure, at a step that is new. -/
import Derived.Test.YtdlalmbnkcadfaaM11
import Derived.Test.YtdlalmbnkcadfaaM10
namespace Go.Proofs.Ytdlalmbnkcadfaa
open Go.RowKit
attribute [local go_sem] Oper.semAt_some

section
variable {F : Fence} {n : Nat} {P : Program}
/-- The law of a range over a function, with one loop variable that is copied into a slot. -/
theorem rangeG1 {α : Type} {g : Operand} {t0 : Tmp} (t1 : Tmp) {assign body : Code} {Q : Exit → Act → World → Prop} {a : Act} {w : World}
    (hro : F.round = none) (h1 : 1 ≤ n) {gf : Nat} {lb : Array Value} (hg : a.eval g = .func (.func gf) #[] lb) (hFg : F.fn gf) (eg : ∀ args w, (callFunc gf args).run P w = .ok (.enter gf args) w)
    {v : α → Value} {Kp : World → World → Prop} {S Sp : List α → Prop} {N : Nat} {w0 : World} (hseq : SeqStopsK F (n - 1) P gf lb (fun x => #[v x]) Kp S Sp N w0)
    (hKt : ∀ {A B C : World}, Kp A B → Kp B C → Kp A C) (hKb : ∀ (W : World) (l : Nat) (o o' : Obj), w.heap.size ≤ l → W.heap[l]? = some o → o.isCells = false → o.isWalk = false → Kp W (W.putObj l o')) (hb0 : Below w0.heap.size w0 w)
    (I : List α → World → Prop) (Ix : Code → List α → World → Prop) (hI : OwnFrom w.heap.size I) (hIx : ∀ c, OwnFrom w.heap.size (Ix c)) (h0 : I [] w)
    (hassign : ∀ (l : Nat) (x : α) (W : World) (K : Act → World → Prop), K { tmps := (a.tmps.setIfInBounds t0 (v x)).setIfInBounds t1 (v x), defers := [] } W →
      assign.wpIn (F.inRound l) (n - 1 - 1) P (Exit.then K (fun _ _ _ => False)) { tmps := a.tmps.setIfInBounds t0 (v x), defers := [] } W)
    (hbody : ∀ (l : Nat) (pre : List α) (x : α) (W : World), I pre W → pre.length < N → body.wpIn (F.inRound l) (n - 1 - 1) P (ownPostG w.heap.size Kp I Ix (pre ++ [x]) W) { tmps := (a.tmps.setIfInBounds t0 (v x)).setIfInBounds t1 (v x), defers := [] } W)
    (hdone : ∀ (D : Nat) (xs : List α) (W : World), w.heap.size ≤ D → S xs → I xs W → W.heap[D]? = some (.deferred (some [])) → Q .normal { a with defers := { target := .collected D, args := #[] } :: a.defers } W)
    (hstop : ∀ (D : Nat) (c : Code) (pre : List α) (W : World), w.heap.size ≤ D → Sp pre → Ix c pre W → W.heap[D]? = some (.deferred (some [])) → c.wpIn F n P Q { a with defers := { target := .collected D, args := #[] } :: a.defers } W) :
    (Code.rangeFunc g #[t0] assign body).wpIn F n P Q a w :=
  wpIn_rangeFunc_ownG hro h1 hg hFg eg hseq hKt hKb hb0 (fun _ => rfl) I Ix hI hIx h0 _ (fun l x W K hK => by simpa using hassign l x W K hK) hbody hdone hstop
end

theorem grown_new {w a b : World} {r : Nat} {row : Option Nat} (h : w.grownBy a (some r)) (k : a.grownBy b row) (hr : ∀ j, row = some j → w.heap.size ≤ j ∨ j = r) : w.grownBy b (some r) :=
  ⟨k.os.trans h.os, k.tape.trans h.tape, k.output.trans h.output, Nat.le_trans h.size k.size, fun i hi hne => (k.block i (Nat.lt_of_lt_of_le hi h.size) (fun e => by
    rcases hr i e.symm with h' | h'
    · omega
    · exact hne (by rw [h']))).trans (h.block i hi hne)⟩
theorem ne_map {w : World} {p : Addr} {v : Value} {r : Nat} {ks : List Stp} (h : w.cell? p = some v) (hT : TM w r ks) : p.block ≠ r := fun e => by
  obtain ⟨es, c, hm, _⟩ := hT
  unfold World.cell? at h
  rw [e, hm] at h
  simp at h
/-- What a round keeps. -/
def KpG (N r : Nat) (X Y : World) : Prop := X.heap.size ≤ Y.heap.size ∧ ∀ k, k < N → k ≠ r → Y.heap[k]? = X.heap[k]?
theorem KpG.trans {N r : Nat} {X Y Z : World} (h : KpG N r X Y) (k : KpG N r Y Z) : KpG N r X Z := ⟨Nat.le_trans h.1 k.1, fun i hi hr => (k.2 i hi hr).trans (h.2 i hi hr)⟩
theorem KpG.put {N r : Nat} (W : World) {l : Nat} {o : Obj} (h : N ≤ l) : KpG N r W (W.putObj l o) := ⟨by simp, fun k hk _ => World.putObj_heap_other (by omega)⟩
theorem KpG.cell {N r : Nat} {X Y : World} (h : KpG N r X Y) {p : Addr} {v : Value} (h1 : p.block < N) (h2 : p.block ≠ r) (hc : X.cell? p = some v) : Y.cell? p = some v := by
  rw [World.cell?_of_block (h.2 p.block h1 h2)]
  exact hc
theorem KpG.by {N r : Nat} {X Y : World} (h : KpG N r X Y) {b o : Nat} {bs : BL} (h1 : b < N) (h2 : b ≠ r) (hA : By X (some ⟨b, o, none⟩) bs) : By Y (some ⟨b, o, none⟩) bs := fun j v hj => by
  obtain ⟨b', o', e, hc⟩ := hA j v hj
  simp only [Option.some.injEq, Addr.mk.injEq, and_true] at e
  obtain ⟨rfl, rfl⟩ := e
  exact ⟨_, _, rfl, h.cell h1 h2 hc⟩
/-- Between two rounds; where a round has found it. -/
def FrI (W0 : World) (r : Nat) (old want : BL) (ws : List BL) (ks : List Stp) (k : Nat) (us : List Bool) (i : Nat) {e : Nat} (pre : List (UpTo k e)) (W : World) : Prop :=
  W0.grownBy W (some r) ∧ (∃ ks', TM W r ks' ∧ ∀ t ∈ ks', t ∈ ks ∨ t = (k, us) ∨ pW old want ws t = false) ∧ ∀ x ∈ pre, pW old want ws (x.1, us.set i true) = false
def FrX (w W0 : World) (r : Nat) (old want : BL) (ws : List BL) (k : Nat) (us : List Bool) {e : Nat} (c : Code) (_ : List (UpTo k e)) (W : World) : Prop :=
  c = .ret ∧ w.grownBy W (some r) ∧ Bk W (w.heap.size + 1) #[.bool true] 4 ∧ (∃ ks', TM W r ks') ∧ pW old want ws (k, us) = true ∧ W0.heap.size ≤ W.heap.size ∧ ∀ j, j < W0.heap.size → j ≠ r → j ≠ w.heap.size + 1 → W.heap[j]? = W0.heap[j]?
theorem FrI.own {W0 : World} {r : Nat} {old want : BL} {ws : List BL} {ks : List Stp} {k : Nat} {us : List Bool} {i e : Nat} (hr : r < W0.heap.size) : OwnFrom W0.heap.size (FrI W0 r old want ws ks k us i (e := e)) := fun pre W W' row ⟨h1, ⟨ks', h2, h3⟩, h4⟩ hg hrow =>
  ⟨grown_new h1 hg (fun j e => .inl (hrow j e).1), ⟨ks', h2.grown hg (fun e => by have := (hrow r e).1; omega), h3⟩, h4⟩
theorem FrX.own {w W0 : World} {r : Nat} {old want : BL} {ws : List BL} {k : Nat} {us : List Bool} {e : Nat} (hr : r < W0.heap.size ∧ w.heap.size + 1 < W0.heap.size) (c : Code) : OwnFrom W0.heap.size (FrX w W0 r old want ws k us (e := e) c) := fun pre W W' row ⟨h0, h1, h2, ⟨ks', h3⟩, h4, h5, h6⟩ hg hrow =>
  ⟨h0, grown_new h1 hg (fun j e => .inl (by have := (hrow j e).1; omega)), h2.grown hg (fun e => by have := (hrow _ e.symm).1; omega), ⟨ks', h3.grown hg (fun e => by have := (hrow r e).1; omega)⟩, h4, Nat.le_trans h5 hg.size, fun j hj h7 h8 => (hg.block j (by omega) (fun e => by have := (hrow j e.symm).1; omega)).trans (h6 j hj h7 h8)⟩
theorem set_five (x : Value) (a0 a1 a2 a3 a4 : Bool) (i : Nat) (h : i < 5) : ∃ b0 b1 b2 b3 b4, [a0, a1, a2, a3, a4].set i true = [b0, b1, b2, b3, b4] ∧
    (#[x, .bool a0, .bool a1, .bool a2, .bool a3, .bool a4] : Array Value).setIfInBounds (1 + i) (.bool true) = #[x, .bool b0, .bool b1, .bool b2, .bool b3, .bool b4] := by
  match i, h with
  | 0, _ => exact ⟨_, _, _, _, _, rfl, rfl⟩
  | 1, _ => exact ⟨_, _, _, _, _, rfl, rfl⟩
  | 2, _ => exact ⟨_, _, _, _, _, rfl, rfl⟩
  | 3, _ => exact ⟨_, _, _, _, _, rfl, rfl⟩
  | 4, _ => exact ⟨_, _, _, _, _, rfl, rfl⟩
theorem five_at (x : Value) (a0 a1 a2 a3 a4 : Bool) (i : Nat) (h : i < 5) : (#[x, .bool a0, .bool a1, .bool a2, .bool a3, .bool a4] : Array Value)[1 + i]? = some (.bool ([a0, a1, a2, a3, a4][i]?.getD false)) := by
  match i, h with
  | 0, _ => rfl
  | 1, _ => rfl
  | 2, _ => rfl
  | 3, _ => rfl
  | 4, _ => rfl
abbrev mark (D : Nat) : Deferred := { target := .collected D, args := #[] }
/-- A frame on its way out comes to its marks. -/
theorem leaves_marks {F : Fence} {n : Nat} {P : Program} {fn : Func} {tmps : Array Value} {R : Ending → World → Prop} (Q : World → Prop) (hfin : ∀ w, Q w → LeavesIn F n P fn tmps R [] .returning w) (base : Nat)
    (hstep : ∀ w D, base ≤ D → Q w → w.heap[D]? = some (.deferred (some [])) → Q (w.putObj D (.deferred none))) : ∀ (ds : List Nat) (w : World), ds.Nodup → (∀ D ∈ ds, base ≤ D ∧ w.heap[D]? = some (.deferred (some []))) → Q w →
    LeavesInM F n P fn tmps R (ds.map mark) .returning w
  | [], w, _, _, hQ => hfin w hQ
  | D :: ds, w, hn, hd, hQ => by
    obtain ⟨h1, h2⟩ := hd D (List.mem_cons_self ..)
    refine ⟨by simp, .inl ⟨D, _, rfl, run_takeDeferred h2, ?_⟩⟩
    have hn' := List.nodup_cons.1 hn
    refine leaves_marks Q hfin base hstep ds _ hn'.2 (fun D' h' => ⟨(hd D' (List.mem_cons_of_mem _ h')).1, ?_⟩) (hstep w D h1 hQ h2)
    have hne : D' ≠ D := fun e => hn'.1 (e ▸ h')
    exact (World.putObj_heap_other hne).trans (hd D' (List.mem_cons_of_mem _ h')).2
/-- What a call of the closure leaves, told of the world while its frame is on its way out. -/
def OutQ (w : World) (r : Nat) (old want : BL) (ws : List BL) (ks : List Stp) (s : Stp) (v : Bool) (W : World) : Prop :=
  w.grownBy W (some r) ∧ Bk W (w.heap.size + 1) #[.bool v] 4 ∧ ∃ ks', TM W r ks' ∧ (pW old want ws s = false → ∀ t ∈ ks', t ∈ ks ∨ pW old want ws t = false)
theorem OutQ.step {w : World} {r : Nat} {old want : BL} {ws : List BL} {ks : List Stp} {s : Stp} {v : Bool} {W : World} {D : Nat} (hD : w.heap.size ≤ D) (h : OutQ w r old want ws ks s v W) (hh : W.heap[D]? = some (.deferred (some []))) : OutQ w r old want ws ks s v (W.putObj D (.deferred none)) := by
  obtain ⟨h1, h2, ks', h3, h4⟩ := h
  refine ⟨grown_new h1 (grown_put _ _ _) (fun j e => .inl (by cases e; exact hD)), h2.grown (grown_put _ D _) (fun e => ?_), ks', h3.grown (grown_put _ D _) (fun e => ?_), h4⟩
  · have e' : w.heap.size + 1 = D := Option.some.inj e
    unfold Bk at h2
    rw [e', hh] at h2; cases h2
  · have e' : D = r := Option.some.inj e
    obtain ⟨es, c, hm, _⟩ := h3
    rw [← e', hh] at hm; cases hm
/-- The marks of the loops that have been. -/
def Mks (w : World) (W : World) (ds : List Nat) : Prop := ds.Nodup ∧ ∀ D ∈ ds, w.heap.size ≤ D ∧ W.heap[D]? = some (.deferred (some []))
theorem Mks.grown {w W W' : World} {ds : List Nat} {r : Nat} {ks : List Stp} (h : Mks w W ds) (hT : TM W r ks) (hg : W.grownBy W' (some r)) : Mks w W' ds :=
  ⟨h.1, fun D hD => by
    obtain ⟨h1, h2⟩ := h.2 D hD
    refine ⟨h1, (hg.block D (Array.getElem?_eq_some_iff.1 h2).1 (fun e => ?_)).trans h2⟩
    obtain ⟨es, c, hm, _⟩ := hT
    rw [← Option.some.inj e, h2] at hm; cases hm⟩
theorem Mks.push {w W : World} {ds : List Nat} {D N : Nat} (h : Mks w W ds) (hlt : ∀ D ∈ ds, D < N) (hN : N ≤ D) (hw : w.heap.size ≤ D) (hD : W.heap[D]? = some (.deferred (some []))) : Mks w W (D :: ds) :=
  ⟨List.nodup_cons.2 ⟨fun h' => by have := hlt D h'; omega, h.1⟩, fun D' h' => by
    rcases List.mem_cons.1 h' with e | h'
    · rw [e]; exact ⟨hw, hD⟩
    · exact h.2 D' h'⟩
theorem Mks.lt {w W : World} {ds : List Nat} (h : Mks w W ds) : ∀ D ∈ ds, D < W.heap.size := fun D hD => (Array.getElem?_eq_some_iff.1 (h.2 D hD).2).1
/-- Has none of the first i writes served? -/
def noneB (old want : BL) (ws : List BL) (k : Nat) (us : List Bool) (i : Nat) : Bool := (List.range i).any fun i => !(us[i]?.getD false) && (List.range (pEnd (ws[i]?.getD []) want k - k)).any fun j => pW old want ws (k + j + 1, us.set i true)
theorem noneB_succ (old want : BL) (ws : List BL) (k : Nat) (us : List Bool) (i : Nat) : noneB old want ws k us (i + 1) = (noneB old want ws k us i || (!(us[i]?.getD false) && (List.range (pEnd (ws[i]?.getD []) want k - k)).any fun j => pW old want ws (k + j + 1, us.set i true))) := by
  unfold noneB
  rw [List.range_succ, List.any_append]
  simp
def LpI (w wr : World) (bt bm bw bf r : Nat) (A B P : Option Addr) (pc : Nat) (old want : BL) (ws : List BL) (ks : List Stp) (k : Nat) (us : List Bool) (cs : Array Value) (i : Nat) : Prop :=
  w.grownBy wr (some r) ∧ Fr wr bt bm bw bf r A B P pc old want ws ∧ Bk wr w.heap.size cs 120 ∧ Bk wr (w.heap.size + 1) #[.bool false] 4 ∧
  (∃ ks', TM wr r ks' ∧ ∀ t ∈ ks', t ∈ ks ∨ t = (k, us) ∨ pW old want ws t = false) ∧ noneB old want ws k us i = false
set_option maxRecDepth 100000 in
set_option maxHeartbeats 1000000 in
theorem from_new (bt bm bw bf r pc k : Nat) (A B P : Option Addr) (old want : BL) (ws : List BL) (ks : List Stp) (us : List Bool) (w : World) (hF : Fr w bt bm bw bf r A B P pc old want ws) (hT : TM w r ks) (ho : old.length = 32) (hw : want.length = 32) (hk : k < 32) (h5 : us.length = 5) (_hl : ws.length ≤ 5) (heq : Hid ((old.drop k == want.drop k) = false)) (hin : Hid ((k, us) ∉ ks)) (hws : ∀ x ∈ ws, x.length = 32) (hmemo : Hid (∀ t ∈ ks, (unused ws t.2).length ≤ (unused ws us).length → pW old want ws t = false))
    (IH : Hid (∀ (k' : Nat) (us' : List Bool) (ks' : List Stp) (w' : World), Fr w' bt bm bw bf r A B P pc old want ws → TM w' r ks' → us'.length = 5 → k' ≤ 32 → (unused ws us').length < (unused ws us).length →
      (∀ t ∈ ks', (unused ws t.2).length ≤ (unused ws us').length → pW old want ws t = false) →
      Calls Try.prog 89 #[stepV (k', us'), .pointer (some ⟨bt, 0, none⟩), .pointer (some ⟨bm, 0, none⟩), .pointer (some ⟨bw, 0, none⟩), .pointer (some ⟨bf, 0, none⟩)] w' (FromPost w' r old want ws ks' (k', us')))) : Calls Try.prog 89 #[stepV (k, us), .pointer (some ⟨bt, 0, none⟩), .pointer (some ⟨bm, 0, none⟩), .pointer (some ⟨bw, 0, none⟩), .pointer (some ⟨bf, 0, none⟩)] w (FromPost w r old want ws ks (k, us)) := by
  obtain ⟨a0, a1, a2, a3, a4, rfl⟩ := five h5
  have hne : ¬ 32 = k := by omega
  have hk0 : k ≤ 32 := by omega
  have hk1 : (k : Int) ≤ 32 := by omega
  obtain ⟨ab, ao, rfl, _⟩ := hF.a.at (j := k) (by omega)
  obtain ⟨eb, eo, rfl, _⟩ := hF.b.at (j := k) (by omega)
  show Calls Try.prog 89 #[.agg #[.int .i64 (k : Int), .bool a0, .bool a1, .bool a2, .bool a3, .bool a4], .pointer (some ⟨bt, 0, none⟩), .pointer (some ⟨bm, 0, none⟩), .pointer (some ⟨bw, 0, none⟩), .pointer (some ⟨bf, 0, none⟩)] w _
  refine callsIn_wide.1 (callsIn_of_wp_marks (n := 11) Try.func89 rfl trivial ((wpIn_wide (n := 11)).2 ?_))
  simp only [Try.ntmps89, List.size_toArray, List.length_cons, List.length_nil, Nat.reduceAdd, Nat.reduceSub, Array.replicate_succ, Array.replicate_zero, List.push_toArray, List.append_toArray, List.nil_append, List.cons_append]
  go_wp2_with fail
  obtain ⟨W, hW, hE, hz, k5, k6⟩ := box2 w #[.int .i64 (k : Int), .bool a0, .bool a1, .bool a2, .bool a3, .bool a4] #[.bool false] 120 4
  rw [hW]; clear hW
  go_step3
  go_wp2_with fail
  have hFW := hF.ext hE
  have hS := Lib.hid (fun w' (h : Ext W w') => (⟨h, (hFW.t.ext h).cell 0, (hFW.t.ext h).cell 1, (k5.ext h).cell 0⟩ : Ext W w' ∧ w'.cell? ⟨bt, 0, none⟩ = some (.slice (some ⟨ab, ao, none⟩) 32 32) ∧ w'.cell? ⟨bt, 1, none⟩ = some (.slice (some ⟨eb, eo, none⟩) 32 32) ∧ w'.cell? ⟨w.heap.size, 0, none⟩ = some (.int .i64 (k : Int))))
  refine wp_region_rel 11 (by kernel_rfl) (by kernel_rfl) (Ext.refl W).drew ?_
  repeat (apply relW_fix
          · intro vs w' hw hf
            have hc := hS.out w' hw
            unfold okAt
            go_simp
            first | exact ⟨rfl, Ext.refl _⟩ | exact rfl
          · intro vs; go_simp; rfl)
  (apply relW_fix
   · intro vs w' hw hf
     have hc := hS.out w' hw
     skip
     unfold okAt
     go_simp
     refine ⟨Ext.refl _, ?_⟩
     go_at_call 73
     refine (bytesEq_any (xs := old.drop k) (ys := want.drop k) _ _ _ _ (by simp; omega) (by simp; omega) ((hFW.a.ext hw).from k) ((hFW.b.ext hw).from k)).mono ?_; rintro e w2 ⟨rfl, rfl⟩; rw [heq.out]; exact ⟨_, rfl, rfl, Ext.refl _⟩
   · intro vs; go_simp; rfl)
  refine relW_nil fun vs w6 hw6 hf => ?_
  refine wpList_nil ?_
  have j6 := k6.ext hw6
  have c6 := j6.cell 0
  have f6 := j6.frozen 0
  simp at c6
  have hF6 := hFW.ext hw6
  have cm := hF6.m.cell 0
  simp at cm
  have j5 := k5.ext hw6
  have s0 := j5.cell 0
  have s1 := j5.cell 1
  have s2 := j5.cell 2
  have s3 := j5.cell 3
  have s4 := j5.cell 4
  have s5 := j5.cell 5
  simp at s0 s1 s2 s3 s4 s5
  have hT6 := hT.grown ((hE.trans hw6).grownBy none) (by simp)
  have hlk := hT6.lookup (s := (k, [a0, a1, a2, a3, a4])) h5
  rw [decide_eq_false hin.out] at hlk
  have hlk2 : (Instr.lookup 116 (.map (some r)) (.agg #[.int .i64 (k : Int), .bool a0, .bool a1, .bool a2, .bool a3, .bool a4]) false).run Try.prog w6 = .ok (.bool false) w6 := hlk
  clear hlk
  obtain ⟨w7, hup, hT7, hg7⟩ := hT6.update (s := (k, [a0, a1, a2, a3, a4])) h5 hin.out
  have hup2 : (Instr.mapUpdate 116 (.map (some r)) (.agg #[.int .i64 (k : Int), .bool a0, .bool a1, .bool a2, .bool a3, .bool a4]) (.bool true)).run Try.prog w6 = .ok () w7 := hup
  clear hup
  have hz0 := hz.out
  have hA : Hid (LpI w w7 bt bm bw bf r (some ⟨ab, ao, none⟩) (some ⟨eb, eo, none⟩) P pc old want ws ks k [a0, a1, a2, a3, a4] #[.int .i64 (k : Int), .bool a0, .bool a1, .bool a2, .bool a3, .bool a4] 0) := by
    obtain ⟨es6, cc6, hm6, _⟩ := id hT6
    refine ⟨((hE.trans hw6).grownBy _).trans hg7, hF6.grown hT6 hg7, j5.grownMap hm6 hg7, j6.grownMap hm6 hg7, ⟨_, hT7, fun t ht => ?_⟩, rfl⟩
    rcases List.mem_append.1 ht with h | h
    · exact .inl h
    · exact .inr (.inl (by simpa using h))
  have hF7 := hF6.grown hT6 hg7
  have cw := hF7.v.cell 0
  simp at cw
  have Hz := hz
  have Heq := heq
  clear hS k5 k6 j5 j6 hF6 hFW hT6 hz hz0 hF hf heq hne hg7 hT7 hF7
  go_wp2
  go_step3
  go_wp2
  clear cw hup2 hlk2 c6 f6 s0 s1 s2 s3 s4 s5 cm
  refine wp_loop (fun a wr => ∃ (i : Nat) (ds : List Nat) (u7 u8 u9 u10 u29 u30 u31 u32 u33 u34 u35 u36 u37 u38 u39 u40 u41 u42 u43 u44 u45 u46 u47 u48 u49 u50 u51 u52 u53 u54 : Value), i ≤ ws.length ∧ u29 = .int .i64 (i : Int) ∧ LpI w wr bt bm bw bf r (some ⟨ab, ao, none⟩) (some ⟨eb, eo, none⟩) P pc old want ws ks k [a0, a1, a2, a3, a4] #[.int .i64 (k : Int), .bool a0, .bool a1, .bool a2, .bool a3, .bool a4] i ∧ Mks w wr ds ∧ a = { tmps := #[(Value.agg #[.int .i64 (k : Int), .bool a0, .bool a1, .bool a2, .bool a3, .bool a4]), (Value.pointer (some ⟨bt, 0, none⟩)), (Value.pointer (some ⟨bm, 0, none⟩)), (Value.pointer (some ⟨bw, 0, none⟩)), (Value.pointer (some ⟨bf, 0, none⟩)), (Value.pointer (some ⟨w.heap.size, 0, none⟩)), (Value.pointer (some ⟨w.heap.size + 1, 0, none⟩)), u7, u8, u9, u10, .pointer (some ⟨bt, 0, none⟩), .slice (some ⟨ab, ao, none⟩) 32 32, .pointer (some ⟨w.heap.size, 0, none⟩), .int .i64 (k : Int), .slice (some ⟨ab, ao + k, none⟩) (32 - k) (32 - k), .pointer (some ⟨bt, 1, none⟩), .slice (some ⟨eb, eo, none⟩) 32 32, .pointer (some ⟨w.heap.size, 0, none⟩), .int .i64 (k : Int), .slice (some ⟨eb, eo + k, none⟩) (32 - k) (32 - k), .bool false, .map (some r), .agg #[.int .i64 (k : Int), .bool a0, .bool a1, .bool a2, .bool a3, .bool a4], .bool false, .map (some r), .agg #[.int .i64 (k : Int), .bool a0, .bool a1, .bool a2, .bool a3, .bool a4], .slice P ws.length pc, .int .i64 (ws.length : Int), u29, u30, u31, u32, u33, u34, u35, u36, u37, u38, u39, u40, u41, u42, u43, u44, u45, u46, u47, u48, u49, u50, u51, u52, u53, u54], defers := ds.map mark })
    (fun a _ => ws.length - (intOf (a.tmps.getD 29 undef)).toNat) ⟨0, [], _, _, _, _, _, _, _, _, _, _, _, _, _, _, _, _, _, _, _, _, _, _, _, _, _, _, _, _, _, _, Nat.zero_le _, rfl, hA.out, ⟨List.nodup_nil, fun D h => by cases h⟩, rfl⟩ ?_
  rintro a wr ⟨i, ds, u7, u8, u9, u10, u29, u30, u31, u32, u33, u34, u35, u36, u37, u38, u39, u40, u41, u42, u43, u44, u45, u46, u47, u48, u49, u50, u51, u52, u53, u54, hi, rfl, ⟨hgr, hFr, j5, j6, ⟨ks1, hT1, hk1⟩, hno⟩, hmk, rfl⟩
  · skip
    have HK1 := Lib.hid hk1
    have Hno := Lib.hid hno
    have Hg := Lib.hid hgr
    clear hk1 hno hgr hA
    have s0 := j5.cell 0
    have s1 := j5.cell 1
    have s2 := j5.cell 2
    have s3 := j5.cell 3
    have s4 := j5.cell 4
    have s5 := j5.cell 5
    simp at s0 s1 s2 s3 s4 s5
    have c6 := j6.cell 0
    have f6 := j6.frozen 0
    simp at c6
    by_cases hlt : i < ws.length
    · obtain ⟨pb, po, wA, wc, rfl, hpw, hwc, hwA⟩ := hFr.p.at hlt
      have h32 := hws ws[i] (List.getElem_mem hlt)
      rw [h32] at hpw hwc
      have hii : i < 5 := by omega
      have hci := (j5.cell (1 + i)).trans (five_at (.int .i64 (k : Int)) a0 a1 a2 a3 a4 i hii)
      have hbt := hFr.t.lt
      have ct0 := hFr.t.cell 0
      have ct1 := hFr.t.cell 1
      simp at ct0 ct1
      have hb5 : w.heap.size < wr.heap.size := j5.lt
      by_cases hu : [a0, a1, a2, a3, a4][i]?.getD false = true
      · rw [hu] at hci
        have HN : Hid (noneB old want ws k [a0, a1, a2, a3, a4] (i + 1) = false) := by show _ = _; rw [noneB_succ, Hno.out, hu]; rfl
        clear hu
        have hEV := Lib.hid ((Ext.refl wr).alloc (.cells #[.int .i64 (i : Int)] 3))
        go_wp2
        refine ⟨⟨i + 1, ds, _, _, _, _, _, _, _, _, _, _, _, _, _, _, _, _, _, _, _, _, _, _, _, _, _, _, _, _, _, _, by omega, by go_num, ⟨Hg.out.trans (hEV.out.grownBy _), hFr.ext hEV.out, j5.ext hEV.out, j6.ext hEV.out, ⟨ks1, hT1.grown (hEV.out.grownBy none) (by simp), HK1.out⟩, HN.out⟩, hmk.grown hT1 (hEV.out.grownBy _), rfl⟩, ?_⟩
        simp [intOf]; omega
      · have hu' : [a0, a1, a2, a3, a4][i]?.getD false = false := by simpa using hu
        rw [hu'] at hci
        have Hu := Lib.hid hu'
        clear hu hu'
        go_wp2_with fail
        obtain ⟨V, hV, hEV, hzV, k7⟩ := box1 wr #[.int .i64 (i : Int)] 3
        rw [hV]; clear hV
        refine (explains_any _ _ wA 32 wc (k : Int) V).mono ?_
        rintro e W0 ⟨rfl, hW0⟩
        obtain ⟨W0', hW0', hE0, hz0, kt, kw, kk⟩ := box3 V #[.slice (some ⟨ab, ao, none⟩) 32 32, .slice (some ⟨eb, eo, none⟩) 32 32] #[.slice wA 32 wc] #[.int .i64 (k : Int)] 95 22 3
        rw [hW0'] at hW0
        subst hW0
        clear hW0'
        go_wp2_with fail
        have HE0 := hEV.trans hE0
        have hF0 := hFr.ext HE0
        have j50 := j5.ext HE0
        have j60 := j6.ext HE0
        have k70 := k7.ext hE0
        have hT0 := hT1.grown (HE0.grownBy none) (by simp)
        have hrl := hT1.lt
        have hzV1 := hzV.out
        have hz01 := hz0.out
        have hb6 : w.heap.size + 1 < wr.heap.size := j6.lt
        obtain ⟨xb, xo, rfl, hxc⟩ := hwA.at (j := 0) (by omega)
        have hxb : xb < wr.heap.size := cell_lt hxc
        have hxr : xb ≠ r := ne_map hxc hT1
        obtain ⟨_, _, hea, hac⟩ := hFr.a.at (j := 0) (by omega)
        obtain ⟨_, _, heb, hbc⟩ := hFr.b.at (j := 0) (by omega)
        simp only [Option.some.injEq, Addr.mk.injEq, and_true] at hea heb
        obtain ⟨rfl, rfl⟩ := hea
        obtain ⟨rfl, rfl⟩ := heb
        have hbb : eb < wr.heap.size := cell_lt hbc
        have hbr : eb ≠ r := ne_map hbc hT1
        have hpe : pEnd ws[i] want k ≤ 32 := by rw [← h32]; exact pEnd_le (by omega)
        have ckk := kk.cell 0
        have ckw := kw.cell 0
        have ckt := kt.cell 1
        simp at ckk ckw ckt
        obtain ⟨e, hee⟩ : ∃ e, pEnd ws[i] want k = e := ⟨_, rfl⟩
        have hstops := explains_stops (V.heap.size + 1 + 1) (V.heap.size + 1) V.heap.size k e (some ⟨xb, xo, none⟩) (some ⟨eb, eo, none⟩) wc 32 ws[i] want h32 hw hk0 hee (KpG W0.heap.size r) W0
          (fun X Y hk ⟨x1, x2, x3, x4⟩ => ⟨hk.cell (by show V.heap.size + 1 < _; omega) (by show V.heap.size + 1 ≠ r; omega) x1, hk.cell (by show V.heap.size < _; omega) (by show V.heap.size ≠ r; omega) x2, hk.by (by omega) hxr x3, hk.by (by omega) hbr x4⟩)
          ckk ckw ckt (hwA.ext HE0) (hF0.b)
        refine (wpIn_wide (n := 11)).1 ?_
        refine rangeG1 9 rfl (by decide) (gf := 100) rfl trivial (enters_of Try.func100 (by kernel_rfl) rfl) hstops KpG.trans (fun W l o o' h1 h2 h3 h4 => KpG.put W h1) (Below.refl _ _)
          (FrI W0 r old want ws ks k [a0, a1, a2, a3, a4] i) (FrX w W0 r old want ws k [a0, a1, a2, a3, a4])
          (FrI.own hT0.lt) (FrX.own (by omega)) ⟨grown_refl _ _, ⟨ks1, hT0, HK1.out⟩, fun x h => by cases h⟩ ?assign ?body ?done ?stop
        case assign =>
          intro l x W K hK
          simp only [List.setIfInBounds_toArray, List.set_cons_succ, List.set_cons_zero] at hK ⊢
          gi_wp2
          exact hK
        case body =>
          rintro l pre x W ⟨hgW, ⟨ks2, hT2, hk2⟩, hpre⟩ _
          simp only [List.setIfInBounds_toArray, List.set_cons_succ, List.set_cons_zero]
          obtain ⟨es0, cc0, hm0, _⟩ := id hT0
          have FW := hF0.grown hT0 hgW
          have J5 := j50.grownMap hm0 hgW
          have J6 := j60.grownMap hm0 hgW
          have J7 := k70.grownMap hm0 hgW
          have HgW := Lib.hid hgW
          have Hk2 := Lib.hid hk2
          have Hpre := Lib.hid hpre
          clear hgW hk2 hpre hstops ckk ckw ckt kt kw kk
          have l5 := J5.lt
          have l6 := J6.lt
          have l7 := J7.lt
          have lf := FW.f.lt
          have t0 := J5.cell 0
          have t1 := J5.cell 1
          have t2 := J5.cell 2
          have t3 := J5.cell 3
          have t4 := J5.cell 4
          have t5 := J5.cell 5
          have t6 := J6.cell 0
          have g6 := J6.frozen 0
          simp at t0 t1 t2 t3 t4 t5
          obtain ⟨X, hX, hEX, hzX, kX⟩ := box1 W #[.int .i64 (x.1 : Int), .bool a0, .bool a1, .bool a2, .bool a3, .bool a4] 120
          have hci2 := (kX.cell (1 + i)).trans (five_at (.int .i64 (x.1 : Int)) a0 a1 a2 a3 a4 i hii)
          have hfi2 := kX.frozen (1 + i)
          have t7 := (J7.ext hEX).cell 0
          simp at t7
          obtain ⟨b0, b1, b2, b3, b4, hbs, hset⟩ := set_five (.int .i64 (x.1 : Int)) a0 a1 a2 a3 a4 i hii
          have kY := kX.set (1 + i) (.bool true)
          rw [hset] at kY
          obtain ⟨Y, hY⟩ : ∃ Y, X.setCell ⟨W.heap.size, 1 + i, none⟩ (.bool true) = Y := ⟨_, rfl⟩
          rw [hY] at kY
          have hEY : Hid (Ext W Y) := by rw [← hY]; exact hEX.setCell (Nat.le_refl _) _
          have tf := (FW.f.ext hEY.out).cell 0
          have y0 := kY.cell 0
          have y1 := kY.cell 1
          have y2 := kY.cell 2
          have y3 := kY.cell 3
          have y4 := kY.cell 4
          have y5 := kY.cell 5
          simp at tf y0 y1 y2 y3 y4 y5
          have Hbs := Lib.hid hbs
          have HzX := Lib.hid hzX
          clear hbs hset hzX hzV1 hz01
          gi_wp2_with fail
          refine ⟨trivial, ?_⟩
          have TY := hT2.grown (hEY.out.grownBy none) (by simp)
          have FY := FW.ext hEY.out
          have hun : (unused ws [a0, a1, a2, a3, a4]).length = (unused ws [b0, b1, b2, b3, b4]).length + 1 := by
            have := (unused_set ws [a0, a1, a2, a3, a4] i hlt hii Hu.out).length_eq
            rw [Hbs.out] at this
            simpa using this
          have IHc := IH.out x.1 [b0, b1, b2, b3, b4] ks2 Y FY TY rfl (by have := x.2.2; omega) (by omega) (fun t ht hle => by
            rcases Hk2.out t ht with h | h | h
            · exact hmemo.out t h (by omega)
            · rw [h] at hle; simp only at hle; omega
            · exact h)
          have Hun := Lib.hid hun
          have JY6 := J6.ext hEY.out
          obtain ⟨esY, ccY, hmY, _⟩ := id TY
          clear hY hX t0 t1 t2 t3 t4 t5 t7 tf y0 y1 y2 y3 y4 y5 hci2 hfi2 hun
          refine (CallsIn.inRound l (callsIn_wide.2 IHc)).mono ?_
          rintro rr Z ⟨rfl, hgZ, ks3, hT3, hk3⟩
          have JZ6 := JY6.grownMap hmY hgZ
          have Hg3 : Hid (W.grownBy Z (some r)) := (hEY.out.grownBy (some r)).trans hgZ
          have HgZ : Hid (W0.grownBy Z (some r)) := HgW.out.trans Hg3.out
          have Hk3 := Lib.hid hk3
          have z6 := JZ6.cell 0
          have g6 := JZ6.frozen 0
          simp at z6
          clear IHc hk3 hgZ
          cases hpw : pW old want ws (x.1, [b0, b1, b2, b3, b4]) with
          | true =>
            have Hpw := Lib.hid hpw
            clear hpw
            gi_wp2
            refine ⟨(KeepsFrom.of_grownBy Hg3.out (fun j e => by cases e; exact hT0.lt)).trans ((KeepsOthers.setCell _ _ _).from _), rfl, ?_, JZ6.set 0 (.bool true), ⟨ks3, ?_⟩, ?_, ?_, fun j hj hr h6 => ?_⟩
            · exact grown_new (((Hg.out.trans (HE0.grownBy _)).trans HgW.out).trans Hg3.out) (grown_set _ _ _ _) (fun j e => .inl (by cases e; exact Nat.le_succ _))
            · exact hT3.grown (row := some (w.heap.size + 1)) (grown_set _ _ _ _) (by have := hT.lt; simp; omega)
            · rw [pW_eq _ _ _ _ _ (by simp; omega), Bool.or_eq_true]
              refine .inr (List.any_eq_true.2 ⟨i, List.mem_range.2 hlt, ?_⟩)
              rw [Hu.out, List.getElem?_eq_getElem hlt, Option.getD_some]
              simp only [Bool.not_false, Bool.true_and]
              have hx1 := x.2.1
              have hx2 := x.2.2
              exact List.any_eq_true.2 ⟨x.1 - k - 1, List.mem_range.2 (by omega), by rw [Hbs.out, show k + (x.1 - k - 1) + 1 = x.1 by omega]; exact Hpw.out⟩
            · exact Nat.le_trans HgZ.out.size (grown_set Z (w.heap.size + 1) 0 (.bool true)).size
            · exact ((grown_set Z (w.heap.size + 1) 0 (.bool true)).block j (Nat.lt_of_lt_of_le hj HgZ.out.size) (fun e => h6 (Option.some.inj e))).trans (HgZ.out.block j hj (fun e => hr (Option.some.inj e)))
          | false =>
            have Hpw := Lib.hid hpw
            clear hpw
            gi_wp2
            refine ⟨KeepsFrom.of_grownBy Hg3.out (fun j e => by cases e; exact hT0.lt), ⟨Hg3.out.size, fun k hk hr => Hg3.out.block k (Nat.lt_of_lt_of_le hk HgW.out.size) (fun e => hr (Option.some.inj e))⟩, HgZ.out, ⟨ks3, hT3, fun t ht => ?_⟩, fun y hy => ?_⟩
            · rcases Hk3.out Hpw.out t ht with h | h
              · exact Hk2.out t h
              · exact .inr (.inr h)
            · rcases List.mem_append.1 hy with h | h
              · exact Hpre.out y h
              · rw [List.mem_singleton.1 h, Hbs.out]; exact Hpw.out
        case done =>
          rintro D ys W hD rfl ⟨hgW, ⟨ks2, hT2, hk2⟩, hpre⟩ hDh
          obtain ⟨es0, cc0, hm0, _⟩ := id hT0
          have HN : Hid (noneB old want ws k [a0, a1, a2, a3, a4] (i + 1) = false) := by
            show _ = _
            rw [noneB_succ, Hno.out, Hu.out, List.getElem?_eq_getElem hlt, Option.getD_some, hee]
            simp only [Bool.false_or, Bool.not_false, Bool.true_and]
            rw [List.any_eq_false]
            intro j hj hcon
            have hj' := List.mem_range.1 hj
            have := hpre ⟨k + j + 1, by omega, by omega⟩ (mem_upTo k e (k + j + 1) (by omega) (by omega) (e - k) (by omega))
            rw [this] at hcon; cases hcon
          have hrel : LpI w W bt bm bw bf r (some ⟨ab, ao, none⟩) (some ⟨eb, eo, none⟩) (some ⟨pb, po, none⟩) pc old want ws ks k [a0, a1, a2, a3, a4] #[.int .i64 (k : Int), .bool a0, .bool a1, .bool a2, .bool a3, .bool a4] (i + 1) :=
            ⟨(Hg.out.trans (HE0.grownBy _)).trans hgW, hF0.grown hT0 hgW, j50.grownMap hm0 hgW, j60.grownMap hm0 hgW, ⟨ks2, hT2, hk2⟩, HN.out⟩
          have hmks : Mks w W (D :: ds) := ((hmk.grown hT1 (HE0.grownBy _)).grown hT0 hgW).push (N := W0.heap.size) (fun D h => Nat.lt_of_lt_of_le (hmk.lt D h) HE0.size) hD (by have := HE0.size; omega) hDh
          have Hrel := Lib.hid hrel
          have Hmks := Lib.hid hmks
          clear hrel hmks hpre hk2 hgW HN hstops ckk ckw ckt hzV1 hz01
          go_wp2
          refine ⟨⟨i + 1, D :: ds, _, _, _, _, _, _, _, _, _, _, _, _, _, _, _, _, _, _, _, _, _, _, _, _, _, _, _, _, _, _, by omega, by go_num, Hrel.out, Hmks.out, rfl⟩, ?_⟩
          simp [intOf]; omega
        case stop =>
          rintro D cc pre W hD _ ⟨rfl, hgW, hb, ⟨ks2, hT2⟩, hp, _, hrest⟩ hDh
          have HgW := Lib.hid hgW
          have Hp := Lib.hid hp
          have hsz0 := Lib.hid HE0.size
          have hmks : Hid (Mks w W (D :: ds)) := by
            refine ⟨List.nodup_cons.2 ⟨fun h' => ?_, hmk.1⟩, fun D' h' => ?_⟩
            · have := hmk.lt D h'
              have := hsz0.out
              omega
            · rcases List.mem_cons.1 h' with e | h'
              · rw [e]; exact ⟨by have := hsz0.out; omega, hDh⟩
              · obtain ⟨d1, d2⟩ := (hmk.grown hT1 (HE0.grownBy (some r))).2 D' h'
                refine ⟨d1, (hrest D' (Array.getElem?_eq_some_iff.1 d2).1 (fun e => ?_) (fun e => ?_)).trans d2⟩
                · obtain ⟨es0, cc0, hm0, _⟩ := id hT0
                  rw [e, hm0] at d2; cases d2
                · have h8 := j60
                  unfold Bk at h8
                  rw [e, h8] at d2; cases d2
          refine (wpIn_wide (n := 11)).2 ?_
          go_wp2
          try rw [Exit.noGoto_ret]
          refine leaves_marks (OutQ w r old want ws ks (k, [a0, a1, a2, a3, a4]) true) (fun W' h => ?_) w.heap.size (fun W' D hD h hh => h.step hD hh) (D :: ds) _ hmks.out.1 hmks.out.2 ⟨HgW.out, hb, ks2, hT2, fun h => ?_⟩
          · obtain ⟨h1, h2, ks', h3, h4⟩ := h
            have kk := h2.cell 0
            simp at kk
            exact ⟨_, by simp [results, Try.results89, go_sem, kk]; rfl, by rw [Hp.out], h1, ks', h3, h4⟩
          · rw [Hp.out] at h; cases h
    · obtain rfl : i = ws.length := by omega
      have hp : Hid (pW old want ws (k, [a0, a1, a2, a3, a4]) = false) := by
        show _ = _
        rw [pW_eq _ _ _ _ _ (by simp; omega)]
        have h1 := Hno.out
        unfold noneB at h1
        rw [h1, Heq.out]
        rfl
      go_wp2
      try rw [Exit.noGoto_ret]
      refine leaves_marks (OutQ w r old want ws ks (k, [a0, a1, a2, a3, a4]) false) (fun W' h => ?_) w.heap.size (fun W' D hD h hh => h.step hD hh) ds _ hmk.1 (fun D hD => ⟨(hmk.2 D hD).1, ?_⟩) ⟨?_, j6.set 0 (.bool false), ks1, ?_, fun _ t ht => ?_⟩
      · obtain ⟨h1, h2, ks', h3, h4⟩ := h
        have kk := h2.cell 0
        simp at kk
        exact ⟨_, by simp [results, Try.results89, go_sem, kk]; rfl, by rw [hp.out], h1, ks', h3, h4⟩
      · have h2 := (hmk.2 D hD).2
        refine (Below.heap_setCell _ _ _ D (fun e => ?_)).trans h2
        have e' : D = w.heap.size + 1 := e
        unfold Bk at j6
        rw [← e', h2] at j6
        cases j6
      · exact grown_new Hg.out (grown_set _ _ _ _) (fun j e => .inl (by cases e; exact Nat.le_succ _))
      · exact hT1.grown (row := some (w.heap.size + 1)) (grown_set _ _ _ _) (by have := hT.lt; simp; omega)
      · rcases HK1.out t ht with h | h | h
        · exact .inl h
        · exact .inr (by rw [h]; exact hp.out)
        · exact .inr h
end Go.Proofs.Ytdlalmbnkcadfaa
