/- A region that draws its order, whose operations read, make new memory and call, ahead of a tail in one order: ONE walk in the order of the text serves every order. Each operation is told what its own forebears have left, and nothing else. -/
import Derived.Test.YtdlalmbnkcadfaaM01
import Derived.Lib.Hide
import Derived.Orders
namespace Go.Proofs.Ytdlalmbnkcadfaa
open Go.RowKit

/-- What is said of a value; new blocks do not mind. -/
structure SV where
  p : Value → World → Prop
  keep : ∀ {v : Value} {w w' : World}, p v w → Ext w w' → p v w'
def SV.eq (u : Value) : SV := ⟨fun v _ => v = u, fun h _ => h⟩

/-- What an operation, run in w, must come to. -/
def okRes (P : Program) (w : World) (S : SV) : Result Next → Prop
  | .ok (.value v) w' => S.p v w' ∧ Ext w w'
  | .ok .skip w' => S.p undef w' ∧ Ext w w'
  | .ok (.enter f args) w' => Ext w w' ∧ Calls P f args w' fun e w'' => ∃ v, e = .returned v ∧ S.p v w'' ∧ Ext w' w''
  | _ => False
section
variable (P : Program) (w w' : World) (S : SV)
@[go_sem] theorem okRes_value (v : Value) : okRes P w S (.ok (.value v) w') = (S.p v w' ∧ Ext w w') := rfl
@[go_sem] theorem okRes_skip : okRes P w S (.ok .skip w') = (S.p undef w' ∧ Ext w w') := rfl
@[go_sem] theorem okRes_enter (f : FuncId) (args : Array Value) : okRes P w S (.ok (.enter f args) w') = (Ext w w' ∧ Calls P f args w' fun e w'' => ∃ v, e = .returned v ∧ S.p v w'' ∧ Ext w' w'') := rfl
end
/-- An operation in the state a, in w: wanted, it runs to a value of which S holds; not wanted: of 'undef' S holds. -/
def okAt (P : Program) (ops : Array Oper) (o : Oper) (a : Act) (w : World) (S : SV) : Prop :=
  if Region.wanted o (yielded ops a.tmps) = true then okRes P w S ((execOp a.eval o).run P w) else S.p undef w

/-- The forebears of each operation. -/
def mkTab (ops : Array Oper) : Array (List Nat) :=
  ops.foldl (fun T o => T.push (o.after.toList.foldl (fun l e => if Region.binds .any e then (e.on :: T.getD e.on []).foldl (fun l x => if l.contains x then l else x :: l) l else l) [])) #[]
def okTab (ops : Array Oper) (T : Array (List Nat)) : Bool :=
  (List.range ops.size).all fun i => match ops[i]? with
    | none => false
    | some o => (o.after.toList.all fun e => !Region.binds .any e || decide (e.on < i)) &&
      (T.getD i []).all fun j => decide (j < i) && o.after.toList.any fun e => Region.binds .any e && (e.on == j || (T.getD e.on []).contains j)
/-- An operation that only looks at its slots, and that nothing behind it disturbs, but what waits for it. -/
def pureB (o : Oper) : Bool := o.guard.isNone && match o.op with
  | .move _ => true
  | .assign _ => true
  | .extract _ _ => true
  | _ => false
def looseB (ops : Array Oper) (j : Nat) : Bool := match ops[j]? with
  | none => false
  | some o => pureB o && (List.range ops.size).all fun i => decide (i ≤ j) || match ops[i]? with
    | none => false
    | some x => x.after.toList.any (fun e => Region.binds .any e && e.on == j) || o.apart ops x
def relB (ops : Array Oper) (T : Array (List Nat)) (N : Nat) (lz : Bool := false) : Bool :=
  okTab ops T && Region.noSelect ops && decide (N ≤ ops.size) &&
  ((List.range N).all fun i => (List.range N).all fun j => match ops[i]?, ops[j]? with
    | some x, some y => (match x.dst with
      | some d => (decide (i = j) || y.dst != some d) && (!(y.looksAt ops).contains d || (T.getD j []).contains i)
      | none => true)
    | _, _ => false) &&
  ((List.range ops.size).all fun k => decide (k < N) || (List.range k).all fun j => (T.getD k []).contains j || (lz && decide (j < N) && looseB ops j))

def Facts (T : Array (List Nat)) (i : Nat) : List (Nat × SV) → (Nat → Value) → World → Prop
  | [], _, _ => True
  | x :: r, vs, w => ((T.getD i []).contains x.1 = true → x.2.p (vs x.1) w) ∧ Facts T i r vs w
def AllFacts : List (Nat × SV) → (Nat → Value) → World → Prop
  | [], _, _ => True
  | x :: r, vs, w => x.2.p (vs x.1) w ∧ AllFacts r vs w

/-- THE WALK in the order of the text. -/
def relW (P : Program) (ops : Array Oper) (T : Array (List Nat)) (W : World) (Fin : Act → World → Prop) : Nat → List Oper → List (Nat × SV) → ((Nat → Value) → Act) → Prop
  | _, [], G, A => ∀ vs w, Ext W w → AllFacts G vs w → Fin (A vs) w
  | i, o :: r, G, A =>
    (∃ u, (∀ vs w, Ext W w → Facts T i G vs w → okAt P ops o (A vs) w (SV.eq u)) ∧ relW P ops T W Fin (i + 1) r G (fun vs => (A vs).put o.dst u)) ∨
    (∃ S, (∀ vs w, Ext W w → Facts T i G vs w → okAt P ops o (A vs) w S) ∧ relW P ops T W Fin (i + 1) r ((i, S) :: G) (fun vs => (A vs).put o.dst (vs i)))

/-- What an operation leaves: a fixed value, or something of which S holds. -/
inductive Sp where
  | fix (u : Value)
  | any (S : SV)
def Sp.sv : Sp → SV
  | .fix u => SV.eq u
  | .any S => S
def Sp.val (s : Sp) (x : Value) : Value := match s with
  | .fix u => u
  | .any _ => x
def canon (ops : Array Oper) (sp : Nat → Sp) (a : Act) (vs : Nat → Value) : Nat → Act
  | 0 => a
  | i + 1 => (canon ops sp a vs i).put ((ops[i]?).bind (·.dst)) ((sp i).val (vs i))

def gOf (sp : Nat → Sp) : Nat → List (Nat × SV)
  | 0 => []
  | i + 1 => match sp i with
    | .fix _ => gOf sp i
    | .any S => (i, S) :: gOf sp i

theorem canon_succ (ops : Array Oper) (sp : Nat → Sp) (a : Act) (vs : Nat → Value) (i : Nat) :
    canon ops sp a vs (i + 1) = (canon ops sp a vs i).put ((ops[i]?).bind (·.dst)) ((sp i).val (vs i)) := rfl
theorem canon_congr {ops : Array Oper} {sp sp' : Nat → Sp} {a : Act} {vs vs' : Nat → Value} : ∀ {i : Nat}, (∀ j, j < i → sp j = sp' j ∧ vs j = vs' j) → canon ops sp a vs i = canon ops sp' a vs' i
  | 0, _ => rfl
  | i + 1, h => by
    unfold canon
    rw [canon_congr (i := i) fun j hj => h j (by omega), (h i (by omega)).1, (h i (by omega)).2]
theorem gOf_congr {sp sp' : Nat → Sp} : ∀ {i : Nat}, (∀ j, j < i → sp j = sp' j) → gOf sp i = gOf sp' i
  | 0, _ => rfl
  | i + 1, h => by
    unfold gOf
    rw [gOf_congr (i := i) fun j hj => h j (by omega), h i (by omega)]
def upd (sp : Nat → Sp) (i : Nat) (s : Sp) : Nat → Sp := fun j => if j = i then s else sp j

theorem relW_specs {P : Program} {ops : Array Oper} {T : Array (List Nat)} {W : World} {Fin : Act → World → Prop} {a : Act} : ∀ (l : List Oper) (i : Nat) (sp0 : Nat → Sp),
    relW P ops T W Fin i l (gOf sp0 i) (fun vs => canon ops sp0 a vs i) → (∀ k, k < l.length → l[k]? = ops[i + k]?) →
    ∃ sp : Nat → Sp, (∀ j, j < i → sp j = sp0 j) ∧
      (∀ k, k < l.length → ∀ o, ops[i + k]? = some o → ∀ vs w, Ext W w → Facts T (i + k) (gOf sp (i + k)) vs w → okAt P ops o (canon ops sp a vs (i + k)) w (sp (i + k)).sv) ∧
      (∀ vs w, Ext W w → AllFacts (gOf sp (i + l.length)) vs w → Fin (canon ops sp a vs (i + l.length)) w)
  | [], i, sp0, h, _ => ⟨sp0, fun _ _ => rfl, fun k hk => absurd hk (Nat.not_lt_zero _), h⟩
  | o :: r, i, sp0, h, hl => by
    have go : ∀ s : Sp, (∀ vs w, Ext W w → Facts T i (gOf sp0 i) vs w → okAt P ops o (canon ops sp0 a vs i) w s.sv) →
        relW P ops T W Fin (i + 1) r (gOf (upd sp0 i s) (i + 1)) (fun vs => canon ops (upd sp0 i s) a vs (i + 1)) →
        ∃ sp : Nat → Sp, (∀ j, j < i → sp j = sp0 j) ∧
          (∀ k, k < (o :: r).length → ∀ o', ops[i + k]? = some o' → ∀ vs w, Ext W w → Facts T (i + k) (gOf sp (i + k)) vs w → okAt P ops o' (canon ops sp a vs (i + k)) w (sp (i + k)).sv) ∧
          (∀ vs w, Ext W w → AllFacts (gOf sp (i + (o :: r).length)) vs w → Fin (canon ops sp a vs (i + (o :: r).length)) w) := by
      intro s h1 h2
      obtain ⟨sp, e1, e2, e3⟩ := relW_specs r (i + 1) (upd sp0 i s) h2 (fun k hk => by have := hl (k + 1) (by simp; omega); simpa [Nat.add_assoc, Nat.add_comm 1 k] using this)
      have hlow : ∀ j, j < i → sp j = sp0 j := fun j hj => by rw [e1 j (by omega)]; unfold upd; rw [if_neg (by omega)]
      have hi : sp i = s := by rw [e1 i (by omega)]; unfold upd; rw [if_pos rfl]
      refine ⟨sp, hlow, fun k hk o' ho' vs w hw hf => ?_, fun vs w hw hf => ?_⟩
      · match k, hk, ho', hf with
        | 0, _, ho', hf =>
          have ho : ops[i]? = some o := by have := hl 0 (by simp); simpa using this.symm
          have : o' = o := by rw [Nat.add_zero, ho] at ho'; exact (Option.some.inj ho').symm
          subst this
          rw [Nat.add_zero] at hf ⊢
          rw [hi, canon_congr (sp' := sp0) (vs' := vs) fun j hj => ⟨hlow j hj, rfl⟩]
          rw [gOf_congr hlow] at hf
          exact h1 vs w hw hf
        | k + 1, hk, ho', hf =>
          have e : i + (k + 1) = i + 1 + k := by omega
          rw [e] at ho' hf ⊢
          exact e2 k (by simpa using hk) o' ho' vs w hw hf
      · have e : i + (o :: r).length = i + 1 + r.length := by simp; omega
        rw [e] at hf ⊢
        exact e3 vs w hw hf
    have ho : ops[i]? = some o := by have := hl 0 (by simp); simpa using this.symm
    rcases h with ⟨u, h1, h2⟩ | ⟨S, h1, h2⟩
    · refine go (.fix u) h1 ?_
      have e1 : gOf (upd sp0 i (.fix u)) (i + 1) = gOf sp0 i := by
        show (match upd sp0 i (.fix u) i with | .fix _ => gOf (upd sp0 i (.fix u)) i | .any S => (i, S) :: gOf (upd sp0 i (.fix u)) i) = _
        have : upd sp0 i (.fix u) i = .fix u := by unfold upd; rw [if_pos rfl]
        rw [this]
        exact gOf_congr fun j hj => by unfold upd; rw [if_neg (by omega)]
      have e2 : (fun vs => canon ops (upd sp0 i (.fix u)) a vs (i + 1)) = fun vs => (canon ops sp0 a vs i).put o.dst u := by
        funext vs
        rw [canon_succ]
        have : upd sp0 i (.fix u) i = .fix u := by unfold upd; rw [if_pos rfl]
        rw [this, ho, canon_congr (sp' := sp0) (vs' := vs) fun j hj => ⟨by unfold upd; rw [if_neg (by omega)], rfl⟩]
        rfl
      rw [e1, e2]; exact h2
    · refine go (.any S) h1 ?_
      have e1 : gOf (upd sp0 i (.any S)) (i + 1) = (i, S) :: gOf sp0 i := by
        show (match upd sp0 i (.any S) i with | .fix _ => gOf (upd sp0 i (.any S)) i | .any S' => (i, S') :: gOf (upd sp0 i (.any S)) i) = _
        have : upd sp0 i (.any S) i = .any S := by unfold upd; rw [if_pos rfl]
        rw [this]
        show (i, S) :: _ = _
        rw [gOf_congr (sp' := sp0) fun j hj => by unfold upd; rw [if_neg (by omega)]]
      have e2 : (fun vs => canon ops (upd sp0 i (.any S)) a vs (i + 1)) = fun vs => (canon ops sp0 a vs i).put o.dst (vs i) := by
        funext vs
        rw [canon_succ]
        have : upd sp0 i (.any S) i = .any S := by unfold upd; rw [if_pos rfl]
        rw [this, ho, canon_congr (sp' := sp0) (vs' := vs) fun j hj => ⟨by unfold upd; rw [if_neg (by omega)], rfl⟩]
        rfl
      rw [e1, e2]; exact h2

theorem facts_of {T : Array (List Nat)} {i : Nat} {sp : Nat → Sp} {vs : Nat → Value} {w : World} : ∀ {m : Nat},
    (∀ j, j < m → (T.getD i []).contains j = true → (sp j).sv.p ((sp j).val (vs j)) w) → Facts T i (gOf sp m) vs w
  | 0, _ => trivial
  | m + 1, h => by
    have ih := facts_of (m := m) fun j hj hc => h j (by omega) hc
    unfold gOf
    have hm := h m (by omega)
    cases hs : sp m with
    | fix u => exact ih
    | any S => rw [hs] at hm; exact ⟨hm, ih⟩
theorem allFacts_of {sp : Nat → Sp} {vs : Nat → Value} {w : World} : ∀ {m : Nat},
    (∀ j, j < m → (sp j).sv.p ((sp j).val (vs j)) w) → AllFacts (gOf sp m) vs w
  | 0, _ => trivial
  | m + 1, h => by
    have ih := allFacts_of (m := m) fun j hj => h j (by omega)
    unfold gOf
    have hm := h m (by omega)
    cases hs : sp m with
    | fix u => exact ih
    | any S => rw [hs] at hm; exact ⟨hm, ih⟩

section
variable {P : Program} {ops : Array Oper} {T : Array (List Nat)} {N : Nat} {lz : Bool} {sp : Nat → Sp} {a : Act}

def dstOf (ops : Array Oper) (j : Nat) : Option Tmp := (ops[j]?).bind (·.dst)
/-- b is a, and the operations of L below N have left their values. -/
structure Agr (ops : Array Oper) (N : Nat) (sp : Nat → Sp) (a : Act) (L : Nat → Prop) (vs : Nat → Value) (b : Act) : Prop where
  defers : b.defers = a.defers
  one : ∀ j, j < N → L j → ∀ t, dstOf ops j = some t → b.tmps[t]? = (a.tmps[t]?).map fun _ => (sp j).val (vs j)
  rest : ∀ t, (∀ j, j < N → L j → dstOf ops j ≠ some t) → b.tmps[t]? = a.tmps[t]?

theorem agr_start {L : Nat → Prop} (hL : ∀ j, ¬ L j) (vs : Nat → Value) : Agr ops N sp a L vs a := ⟨rfl, fun j _ h => absurd h (hL j), fun _ _ => rfl⟩

theorem agr_put {L : Nat → Prop} {vs vs' : Nat → Value} {b : Act} {i : Nat} (h : Agr ops N sp a L vs b) (hi : i < N) (hn : ¬ L i)
    (hd : ∀ i j t, i < N → j < N → i ≠ j → dstOf ops i = some t → dstOf ops j ≠ some t) (hvs : ∀ j, L j → vs' j = vs j) :
    Agr ops N sp a (fun j => L j ∨ j = i) vs' (b.put (dstOf ops i) ((sp i).val (vs' i))) := by
  cases hdi : dstOf ops i with
  | none =>
    refine ⟨h.defers, fun j hj hL t ht => ?_, fun t ht => h.rest t fun j hj hL => ht j hj (.inl hL)⟩
    rcases hL with hL | rfl
    · rw [hvs j hL]; exact h.one j hj hL t ht
    · rw [hdi] at ht; cases ht
  | some d =>
    have hbd : b.tmps[d]? = a.tmps[d]? := h.rest d fun j hj hL hjd => hd i j d hi hj (fun e => hn (e ▸ hL)) hdi hjd
    have hlt : d < b.tmps.size ↔ d < a.tmps.size := by
      constructor
      · intro hlt
        rcases Nat.lt_or_ge d a.tmps.size with h' | h'
        · exact h'
        · rw [Array.getElem?_eq_none h', Array.getElem?_eq_getElem hlt] at hbd; cases hbd
      · intro hlt
        rcases Nat.lt_or_ge d b.tmps.size with h' | h'
        · exact h'
        · rw [Array.getElem?_eq_none h', Array.getElem?_eq_getElem hlt] at hbd; cases hbd
    refine ⟨h.defers, fun j hj hL t ht => ?_, fun t ht => ?_⟩
    · show (b.tmps.setIfInBounds d _)[t]? = _
      rw [Array.getElem?_setIfInBounds]
      rcases hL with hL | rfl
      · have hne : d ≠ t := fun e => hd i j d hi hj (fun e' => hn (e' ▸ hL)) hdi (e ▸ ht)
        rw [if_neg hne, hvs j hL]; exact h.one j hj hL t ht
      · rw [hdi] at ht
        obtain rfl := Option.some.inj ht
        rw [if_pos rfl]
        by_cases hl : d < b.tmps.size
        · rw [if_pos hl, Array.getElem?_eq_getElem (hlt.1 hl)]; rfl
        · rw [if_neg hl, Array.getElem?_eq_none (Nat.le_of_not_lt (mt hlt.2 hl))]; rfl
    · show (b.tmps.setIfInBounds d _)[t]? = _
      have hne : d ≠ t := fun e => ht i hi (.inr rfl) (by rw [hdi, e])
      rw [Array.getElem?_setIfInBounds, if_neg hne]
      exact h.rest t fun j hj hL => ht j hj (.inl hL)

theorem agr_canon (hd : ∀ i j t, i < N → j < N → i ≠ j → dstOf ops i = some t → dstOf ops j ≠ some t) (vs : Nat → Value) : ∀ {i : Nat}, i ≤ N → Agr ops N sp a (fun j => j < i) vs (canon ops sp a vs i)
  | 0, _ => agr_start (fun j h => by omega) vs
  | i + 1, hi => by
    have h := agr_put (vs' := vs) (agr_canon hd vs (i := i) (by omega)) (by omega) (Nat.lt_irrefl i) hd (fun _ _ => rfl)
    rw [canon_succ]
    exact ⟨h.defers, fun j hj hL t ht => h.one j hj (by omega) t ht, fun t ht => h.rest t fun j hj hL => ht j hj (by omega)⟩

theorem agr_tmp {L L' : Nat → Prop} {vs : Nat → Value} {b c : Act} (h : Agr ops N sp a L vs b) (h' : Agr ops N sp a L' vs c) (t : Tmp)
    (hl : ∀ j, j < N → dstOf ops j = some t → L j ∧ L' j) : b.tmps[t]? = c.tmps[t]? := by
  by_cases hx : ∃ j, j < N ∧ dstOf ops j = some t
  · obtain ⟨j, hj, ht⟩ := hx
    rw [h.one j hj (hl j hj ht).1 t ht, h'.one j hj (hl j hj ht).2 t ht]
  · rw [h.rest t fun j hj _ ht => hx ⟨j, hj, ht⟩, h'.rest t fun j hj _ ht => hx ⟨j, hj, ht⟩]

theorem agr_exec {L L' : Nat → Prop} {vs : Nat → Value} {b c : Act} (h : Agr ops N sp a L vs b) (h' : Agr ops N sp a L' vs c) (o : Oper)
    (hs : ∀ cs q, o.op ≠ .select cs q) (hl : ∀ t ∈ o.looksAt ops, ∀ j, j < N → dstOf ops j = some t → L j ∧ L' j) :
    execOp b.eval o = execOp c.eval o ∧ Region.wanted o (yielded ops b.tmps) = Region.wanted o (yielded ops c.tmps) := by
  have ht : ∀ t ∈ o.looksAt ops, b.tmps[t]? = c.tmps[t]? := fun t ht => agr_tmp h h' t (hl t ht)
  refine ⟨execOp_congr o hs fun x hx => ?_, ?_⟩
  · cases x with
    | tmp t =>
      have := ht t (List.mem_append_left _ (List.mem_filterMap.2 ⟨.tmp t, by simpa using hx, rfl⟩))
      simp only [Act.eval, Array.getD_eq_getD_getElem?, this]
    | const v => rfl
    | global g => rfl
    | func f => rfl
  · unfold Region.wanted
    cases hg : o.guard with
    | none => rfl
    | some gw =>
      obtain ⟨g, want⟩ := gw
      have : yielded ops b.tmps g = yielded ops c.tmps g := by
        unfold yielded
        cases hgd : (ops[g]?).bind (·.dst) with
        | none => rfl
        | some d =>
          have := ht d (List.mem_append_right _ (by rw [hg]; simp [hgd]))
          simp only [Option.bind_some, this]
      simp only [this]

theorem okAt_wp {Q : Exit → Act → World → Prop} {o : Oper} {b c : Act} {w : World} {S : SV} {i : Nat} {K : Act → World → Prop} (hi : ops[i]? = some o)
    (he : execOp b.eval o = execOp c.eval o) (hw : Region.wanted o (yielded ops b.tmps) = Region.wanted o (yielded ops c.tmps))
    (h : okAt P ops o c w S) (hK : ∀ v w', S.p v w' → Ext w w' → K (b.put o.dst v) w') : wpOp P ops Q i K b w := by
  unfold wpOp
  simp only [hi]
  unfold okAt at h
  rw [← he, ← hw] at h
  split
  · rename_i hwt
    rw [if_pos hwt] at h
    refine .inl ?_
    unfold Oper.wp
    generalize (execOp b.eval o).run P w = r at h ⊢
    cases r with
    | ok x w' =>
      cases x with
      | value v => exact hK _ _ h.1 h.2
      | skip => exact hK _ _ h.1 h.2
      | enter f args =>
        refine Calls.mono h.2 fun e w'' ⟨v, he, hS, hE⟩ => ?_
        subst he
        exact hK _ _ hS (h.1.trans hE)
      | _ => exact absurd h (by simp [okRes])
    | halt x w' => exact absurd h (by simp [okRes])
  · rename_i hwt
    rw [if_neg hwt] at h
    exact hK _ _ h (Ext.refl _)

/-- What the check says. -/
structure RelOk (ops : Array Oper) (T : Array (List Nat)) (N : Nat) (lz : Bool) : Prop where
  down : ∀ i o, ops[i]? = some o → ∀ e ∈ o.after, Region.binds .any e = true → e.on < i
  anc : ∀ i o, ops[i]? = some o → ∀ j ∈ T.getD i [], j < i ∧ ∃ e ∈ o.after, Region.binds .any e = true ∧ (e.on = j ∨ j ∈ T.getD e.on [])
  sel : Region.noSelect ops = true
  le : N ≤ ops.size
  dst : ∀ i j t, i < N → j < N → i ≠ j → dstOf ops i = some t → dstOf ops j ≠ some t
  look : ∀ j o, j < N → ops[j]? = some o → ∀ t ∈ o.looksAt ops, ∀ i, i < N → dstOf ops i = some t → i ∈ T.getD j []
  tail : ∀ k, k < ops.size → N ≤ k → ∀ j, j < k → j ∈ T.getD k [] ∨ (lz = true ∧ j < N ∧ looseB ops j = true)
theorem relOk (h : relB ops T N lz = true) : RelOk ops T N lz := by
  unfold relB okTab at h
  simp only [Bool.and_eq_true, List.all_eq_true, List.mem_range, decide_eq_true_eq] at h
  obtain ⟨⟨⟨⟨h1, h2⟩, h3⟩, h4⟩, h5⟩ := h
  have g1 : ∀ i o, ops[i]? = some o → (∀ e ∈ o.after, Region.binds .any e = true → e.on < i) ∧ ∀ j ∈ T.getD i [], j < i ∧ ∃ e ∈ o.after, Region.binds .any e = true ∧ (e.on = j ∨ j ∈ T.getD e.on []) := by
    intro i o ho
    have hlt : i < ops.size := (Array.getElem?_eq_some_iff.1 ho).1
    have := h1 i hlt
    rw [ho] at this
    simp only [Bool.and_eq_true, List.all_eq_true, decide_eq_true_eq, List.any_eq_true, Bool.or_eq_true, Bool.not_eq_true', beq_iff_eq, List.contains_iff_mem] at this
    refine ⟨fun e he hb => ?_, fun j hj => ⟨(this.2 j hj).1, ?_⟩⟩
    · rcases this.1 e (Array.mem_toList_iff.2 he) with h | h
      · rw [hb] at h; cases h
      · exact h
    · obtain ⟨e, he, hb, hx⟩ := (this.2 j hj).2
      exact ⟨e, Array.mem_toList_iff.1 he, hb, hx⟩
  refine ⟨fun i o ho => (g1 i o ho).1, fun i o ho => (g1 i o ho).2, h2, h3, fun i j t hi hj hne hdi hdj => ?_, fun j o hj ho t ht i hi hdi => ?_, fun k hk hN j hj => ?_⟩
  · have := h4 i hi j hj
    unfold dstOf at hdi hdj
    cases hoi : ops[i]? with
    | none => rw [hoi] at hdi; cases hdi
    | some x =>
      cases hoj : ops[j]? with
      | none => rw [hoj] at hdj; cases hdj
      | some y =>
        rw [hoi] at hdi; rw [hoj] at hdj
        simp only [Option.bind_some] at hdi hdj
        rw [hoi, hoj] at this
        simp only [hdi, hdj, Bool.and_eq_true, Bool.or_eq_true, decide_eq_true_eq] at this
        rcases this.1 with h | h
        · exact hne h
        · simp at h
  · have := h4 i hi j hj
    unfold dstOf at hdi
    cases hoi : ops[i]? with
    | none => rw [hoi] at hdi; cases hdi
    | some x =>
      rw [hoi] at hdi
      simp only [Option.bind_some] at hdi
      rw [hoi, ho] at this
      simp only [hdi, Bool.and_eq_true, Bool.or_eq_true, Bool.not_eq_true', List.contains_iff_mem] at this
      rcases this.2 with h | h
      · have := List.contains_iff_mem.2 ht; rw [h] at this; cases this
      · exact h
  · have h6 := h5 k hk
    simp only [Bool.or_eq_true, decide_eq_true_eq, List.all_eq_true, List.mem_range] at h6
    rcases h6 with h | h
    · omega
    · have h7 := h j hj
      simp only [Bool.and_eq_true, decide_eq_true_eq] at h7
      rcases h7 with h7 | h7
      · exact .inl (List.contains_iff_mem.1 h7)
      · exact .inr ⟨h7.1.1, h7.1.2, h7.2⟩

theorem getD_true_false {l : Array Bool} {i : Nat} (h : i < l.size) : l.getD i true = l.getD i false := by simp [h]

/-- How many are listed. -/
def cnt (l : Array Bool) : Nat := (List.range l.size).countP fun i => l.getD i false
theorem cnt_le (l : Array Bool) : cnt l ≤ l.size := by
  have := List.countP_le_length (p := fun i => l.getD i false) (l := List.range l.size)
  simpa [cnt] using this
theorem cnt_all {l : Array Bool} (h : cnt l = l.size) : ∀ i, i < l.size → l.getD i false = true := by
  have := List.countP_eq_length (p := fun i => l.getD i false) (l := List.range l.size)
  simp only [List.length_range] at this
  exact fun i hi => this.1 h i (List.mem_range.2 hi)
theorem countP_upd (l : Array Bool) (i : Nat) : ∀ m, i < l.size → l.getD i false = false →
    (List.range m).countP (fun j => (l.setIfInBounds i true).getD j false) = (List.range m).countP (fun j => l.getD j false) + if i < m then 1 else 0
  | 0, _, _ => by simp
  | m + 1, hi, h0 => by
    rw [List.range_succ, List.countP_append, List.countP_append, countP_upd l i m hi h0]
    by_cases him : i = m
    · subst him
      have h1 : (l.setIfInBounds i true).getD i false = true := by simp [hi]
      rw [List.countP_singleton, List.countP_singleton, h1, h0]
      simp
    · rw [List.countP_singleton, List.countP_singleton, getD_set_ne false him]
      have e : (i < m + 1) ↔ (i < m) := by omega
      simp only [e]
      omega
theorem cnt_set {l : Array Bool} {i : Nat} (hi : i < l.size) (h0 : l.getD i false = false) : cnt (l.setIfInBounds i true) = cnt l + 1 := by
  unfold cnt
  rw [Array.size_setIfInBounds, countP_upd l i l.size hi h0, if_pos hi]

/-- A listing that is closed downwards holds all forebears. -/
theorem anc_listed (hR : RelOk ops T N lz) {L : Nat → Prop} (hL : ∀ i o, L i → ops[i]? = some o → ∀ e ∈ o.after, Region.binds .any e = true → L e.on) :
    ∀ (i : Nat) (o : Oper), ops[i]? = some o → (∀ e ∈ o.after, Region.binds .any e = true → L e.on) → ∀ j ∈ T.getD i [], L j := by
  intro i
  induction i using Nat.strongRecOn with
  | _ i ih =>
    intro o ho hd j hj
    obtain ⟨_, e, he, hb, hx⟩ := hR.anc i o ho j hj
    have hLe := hd e he hb
    rcases hx with rfl | hx
    · exact hLe
    · have hlt := hR.down i o ho e he hb
      have hs : e.on < ops.size := by have := (Array.getElem?_eq_some_iff.1 ho).1; omega
      exact ih e.on hlt ops[e.on] (Array.getElem?_eq_getElem hs) (hL e.on _ hLe (Array.getElem?_eq_getElem hs)) j hx

/-- The tail, in its one order. -/
theorem tail_any {Q : Exit → Act → World → Prop} (hR : RelOk ops T N lz) : ∀ (fuel k : Nat) (listed : Array Bool) (b : Act) (w : World), N ≤ k → k + fuel = ops.size → listed.size = ops.size →
    (∀ i, i < ops.size → (listed.getD i false = true ↔ i < k)) → wpList P ops Q (ops.toList.drop k) b w → wpAny P .any ops Q fuel listed b w
  | 0, k, listed, b, w, _, hk, hz, hl, h => by
    have hkn : k = ops.size := by omega
    refine ⟨?_, ?_⟩
    · rw [List.eq_nil_iff_forall_not_mem]
      intro i hi
      obtain ⟨h0, o, ho, _⟩ := mem_ready.1 hi
      have hlt : i < ops.size := (Array.getElem?_eq_some_iff.1 ho).1
      rw [getD_true_false (by omega), (hl i hlt).2 (by omega)] at h0
      cases h0
    · rw [List.drop_eq_nil_of_le (by simp; omega)] at h
      exact h
  | fuel + 1, k, listed, b, w, hN, hk, hz, hl, h => by
    have hlt : k < ops.size := by omega
    have hok : ops[k]? = some ops[k] := Array.getElem?_eq_getElem hlt
    have hrk : k ∈ Region.ready .any ops listed := by
      refine mem_ready.2 ⟨?_, _, hok, fun e he hb => ?_⟩
      · rw [getD_true_false (by omega)]
        have := mt (hl k hlt).1 (by omega)
        simpa using this
      · have := hR.down k _ hok e he hb
        exact (hl e.on (by omega)).2 this
    refine ⟨fun h0 => (by rw [h0] at hrk; cases hrk), fun i hi => ?_⟩
    obtain ⟨h0, o, ho, hall⟩ := mem_ready.1 hi
    have hio : i < ops.size := (Array.getElem?_eq_some_iff.1 ho).1
    rw [getD_true_false (by omega)] at h0
    have hik : k ≤ i := by
      rcases Nat.lt_or_ge i k with h' | h'
      · rw [(hl i hio).2 h'] at h0; cases h0
      · exact h'
    have hie : i = k := by
      rcases Nat.lt_or_ge k i with h' | h'
      · have hL : ∀ i o, (listed.getD i false = true) → ops[i]? = some o → ∀ e ∈ o.after, Region.binds .any e = true → listed.getD e.on false = true := by
          intro i' o' hi' ho' e he hb
          have hlt' : i' < ops.size := (Array.getElem?_eq_some_iff.1 ho').1
          have h1 := (hl i' hlt').1 hi'
          have h2 := hR.down i' o' ho' e he hb
          exact (hl e.on (by omega)).2 (by omega)
        have h1 := anc_listed hR (L := fun i => listed.getD i false = true) hL i o ho hall k ((hR.tail i hio (by omega) k h').resolve_right fun h => (by have := h.2.1; omega))
        have := (hl k hlt).1 h1
        omega
      · omega
    subst hie
    have hdrop : ops.toList.drop i = ops[i] :: ops.toList.drop (i + 1) := by
      rw [List.drop_eq_getElem_cons (by simpa using hlt)]; simp
    rw [hdrop] at h
    unfold wpOp
    rw [hok]
    simp only [wpList] at h
    have hnext : ∀ b w, wpList P ops Q (ops.toList.drop (i + 1)) b w → wpAny P .any ops Q fuel (listed.setIfInBounds i true) b w := fun b w h =>
      tail_any hR fuel (i + 1) _ b w (by omega) (by omega) (by rw [Array.size_setIfInBounds]; exact hz) (fun j hj => by
        by_cases hji : i = j
        · subst hji; simp [hz, hlt]
        · rw [getD_set_ne false hji, hl j hj]; omega) h
    simp only
    split
    · rename_i hw
      rw [if_pos hw] at h
      rcases h with h | h
      · exact .inl (Oper.wp_mono hnext h)
      · exact .inr h
    · rename_i hw
      rw [if_neg hw] at h
      exact hnext _ _ h

theorem cnt_of_lt {l : Array Bool} {N : Nat} (hN : N ≤ l.size) (h : ∀ i, i < l.size → (l.getD i false = true ↔ i < N)) : cnt l = N := by
  have key : ∀ m, m ≤ l.size → (List.range m).countP (fun i => l.getD i false) = min m N := by
    intro m
    induction m with
    | zero => intro _; simp
    | succ m ih =>
      intro hm
      rw [List.range_succ, List.countP_append, ih (by omega), List.countP_singleton]
      by_cases hmN : m < N
      · rw [if_pos ((h m (by omega)).2 hmN)]; omega
      · rw [if_neg (mt (h m (by omega)).1 hmN)]; omega
  unfold cnt
  rw [key l.size (Nat.le_refl _)]
  omega

theorem agr_eq {L : Nat → Prop} {vs : Nat → Value} {b c : Act} (h : Agr ops N sp a L vs b) (h' : Agr ops N sp a (fun j => j < N) vs c) (hL : ∀ j, j < N → L j) : b = c := by
  have ht : b.tmps = c.tmps := Array.ext_getElem? fun t => agr_tmp h h' t fun j hj _ => ⟨hL j hj, hj⟩
  have hd : b.defers = c.defers := h.defers.trans h'.defers.symm
  cases b; cases c
  simp only at ht hd
  rw [ht, hd]

theorem pure_yields {o : Oper} (hp : pureB o = true) {b : Act} {w : World} {S : SV} (h : okAt P ops o b w S) : ∃ v, Yields P ops o v b ∧ S.p v w := by
  obtain ⟨dst, op, type, pos, after, guard⟩ := o
  unfold pureB at hp
  simp only [Bool.and_eq_true, Option.isNone_iff_eq_none] at hp
  obtain ⟨rfl, hp⟩ := hp
  have hw : ∀ y, Region.wanted (⟨dst, op, type, pos, after, none⟩ : Oper) y = true := fun y => rfl
  unfold okAt at h
  rw [if_pos (hw _)] at h
  cases op with
  | move x => exact ⟨b.eval x, .inl ⟨hw _, fun w' => rfl⟩, h.1⟩
  | assign x => exact ⟨b.eval x, .inl ⟨hw _, fun w' => rfl⟩, h.1⟩
  | extract t ix =>
    have he : ∀ w', (execOp b.eval ⟨dst, .extract t ix, type, pos, after, none⟩).run P w' = ((Instr.extract (b.eval t) ix).run P w').andThen fun v w' => .ok (.value v) w' := fun w' => by
      simp only [execOp, Sem.run_bind, Sem.run_pure]
    rw [he] at h
    unfold Yields
    simp only [he]
    generalize b.eval t = tv at h ⊢
    unfold Instr.extract at h ⊢
    cases tv with
    | tuple vs =>
      simp only at h ⊢
      cases hv : vs[ix]? with
      | none => rw [hv] at h; exact absurd h (by simp [stuck, okRes, Result.andThen])
      | some v => rw [hv] at h; exact ⟨v, .inl ⟨hw _, fun w' => rfl⟩, h.1⟩
    | _ => exact absurd h (by simp [stuck, okRes, Result.andThen])
  | _ => simp at hp

theorem prefix_any {Q : Exit → Act → World → Prop} {W : World} (hR : RelOk ops T N lz) (hQ : lz = true → ∀ d v c a w, Q (.panic c) (a.put d v) w → Q (.panic c) a w)
    (H : ∀ i, i < N → ∀ o, ops[i]? = some o → ∀ vs w, Ext W w → Facts T i (gOf sp i) vs w → okAt P ops o (canon ops sp a vs i) w (sp i).sv)
    (hF : ∀ vs w, Ext W w → AllFacts (gOf sp N) vs w → wpList P ops Q (ops.toList.drop N) (canon ops sp a vs N) w) :
    ∀ (fuel : Nat) (listed : Array Bool) (b : Act) (w : World) (vs : Nat → Value), listed.size = ops.size → cnt listed + fuel = ops.size → Ext W w →
      Agr ops N sp a (fun j => listed.getD j false = true) vs b → (∀ j, j < N → listed.getD j false = true → (sp j).sv.p ((sp j).val (vs j)) w) →
      (∀ i, N ≤ i → listed.getD i false = false) →
      (∀ i o, listed.getD i false = true → ops[i]? = some o → ∀ e ∈ o.after, Region.binds .any e = true → listed.getD e.on false = true) →
      wpAny P .any ops Q fuel listed b w := by
  intro fuel
  induction fuel with
  | zero =>
    intro listed b w vs hz hc hW hA hS hhi hdn
    have hall := cnt_all (l := listed) (by omega)
    have hN : N = ops.size := by
      rcases Nat.lt_or_ge N ops.size with h | h
      · have h1 := hhi N (Nat.le_refl _)
        rw [hall N (by omega)] at h1; cases h1
      · have := hR.le; omega
    refine tail_any hR 0 N listed b w (Nat.le_refl _) (by omega) hz (fun i hi => ⟨fun _ => by omega, fun _ => hall i (by omega)⟩) ?_
    rw [agr_eq hA (agr_canon hR.dst vs (Nat.le_refl _)) fun j hj => hall j (by omega)]
    exact hF vs w hW (allFacts_of fun j hj => hS j hj (hall j (by omega)))
  | succ fuel ih =>
    intro listed b w vs hz hc hW hA hS hhi hdn
    by_cases hp : ∀ i, i < N → listed.getD i false = true
    · have hiff : ∀ i, i < listed.size → (listed.getD i false = true ↔ i < N) := by
        intro i _
        refine ⟨fun h => ?_, hp i⟩
        rcases Nat.lt_or_ge i N with h' | h'
        · exact h'
        · rw [hhi i h'] at h; cases h
      have hcN := cnt_of_lt (by rw [hz]; exact hR.le) hiff
      refine tail_any hR (fuel + 1) N listed b w (Nat.le_refl _) (by omega) hz (fun i hi => hiff i (by omega)) ?_
      rw [agr_eq hA (agr_canon hR.dst vs (Nat.le_refl _)) hp]
      exact hF vs w hW (allFacts_of fun j hj => hS j hj (hp j hj))
    · have hex : ∃ m, m < N ∧ listed.getD m false = false ∧ ∀ j, j < m → listed.getD j false = true := by
        have key : ∀ m, (∀ j, j < m → listed.getD j false = true) ∨ ∃ m', m' < m ∧ listed.getD m' false = false ∧ ∀ j, j < m' → listed.getD j false = true := by
          intro m
          induction m with
          | zero => exact .inl fun j hj => absurd hj (Nat.not_lt_zero _)
          | succ m ihm =>
            rcases ihm with h | ⟨m', h1, h2⟩
            · by_cases hm : listed.getD m false = true
              · refine .inl ?_
                intro j hj
                rcases Nat.lt_or_ge j m with h' | h'
                · exact h j h'
                · have : j = m := by omega
                  rw [this]; exact hm
              · exact .inr ⟨m, Nat.lt_succ_self m, by simpa using hm, h⟩
            · exact .inr ⟨m', by omega, h2⟩
        rcases key N with h | h
        · exact absurd h hp
        · exact h
      obtain ⟨m, hmN, hm0, hmlt⟩ := hex
      have hms : m < ops.size := by have := hR.le; omega
      have hrm : m ∈ Region.ready .any ops listed := mem_ready.2 ⟨by rw [getD_true_false (by omega)]; exact hm0, _, Array.getElem?_eq_getElem hms, fun e he hb => hmlt _ (hR.down m _ (Array.getElem?_eq_getElem hms) e he hb)⟩
      have step : ∀ i o v w', i < N → ops[i]? = some o → listed.getD i false = false → (∀ e ∈ o.after, Region.binds .any e = true → listed.getD e.on false = true) →
          (sp i).sv.p v w' → Ext w w' → wpAny P .any ops Q fuel (listed.setIfInBounds i true) (b.put o.dst v) w' := by
        intro i o v w' hiN ho h0 hall hv hE
        have hio : i < ops.size := (Array.getElem?_eq_some_iff.1 ho).1
        have hval : (sp i).val ((fun j => if j = i then v else vs j) i) = v := by
          simp only [if_pos]
          cases hsi : sp i with
          | fix u => rw [hsi] at hv; exact (show v = u from hv).symm
          | any S => rfl
        have hod : o.dst = dstOf ops i := by unfold dstOf; rw [ho]; rfl
        have hA' := agr_put (vs' := fun j => if j = i then v else vs j) hA hiN (by rw [h0]; simp) hR.dst (fun j hj => by
          have : j ≠ i := fun e => by rw [e, h0] at hj; cases hj
          simp only [if_neg this])
        rw [hval, ← hod] at hA'
        have hset : ∀ j, (listed.setIfInBounds i true).getD j false = true ↔ (listed.getD j false = true ∨ j = i) := fun j => by
          by_cases hji : i = j
          · subst hji; simp [hz, hio]
          · rw [getD_set_ne false hji]
            exact ⟨.inl, fun h => h.resolve_right fun e => hji e.symm⟩
        refine ih (listed.setIfInBounds i true) _ w' (fun j => if j = i then v else vs j) (by rw [Array.size_setIfInBounds]; exact hz) (by rw [cnt_set (by omega) h0]; omega) (hW.trans hE) ?_ ?_ ?_ ?_
        · exact ⟨hA'.defers, fun j hj hL => hA'.one j hj ((hset j).1 hL), fun t ht => hA'.rest t fun j hj hL => ht j hj ((hset j).2 hL)⟩
        · intro j hj hL
          by_cases hji : j = i
          · subst hji
            rw [hval]; exact hv
          · simp only [if_neg hji]
            exact (sp j).sv.keep (hS j hj (((hset j).1 hL).resolve_right hji)) hE
        · intro j hj
          have hne : i ≠ j := by omega
          rw [getD_set_ne false hne]; exact hhi j hj
        · intro j oj hL hoj e he hb
          refine (hset e.on).2 ?_
          rcases (hset j).1 hL with h | rfl
          · exact .inl (hdn j oj h hoj e he hb)
          · rw [ho] at hoj
            obtain rfl := Option.some.inj hoj
            exact .inl (hall e he hb)
      have run : ∀ i o, i < N → ops[i]? = some o → (∀ e ∈ o.after, Region.binds .any e = true → listed.getD e.on false = true) →
          execOp b.eval o = execOp (canon ops sp a vs i).eval o ∧ Region.wanted o (yielded ops b.tmps) = Region.wanted o (yielded ops (canon ops sp a vs i).tmps) ∧ okAt P ops o (canon ops sp a vs i) w (sp i).sv := by
        intro i o hiN ho hall
        have hanc := anc_listed hR (L := fun i => listed.getD i false = true) hdn i o ho hall
        have hlook : ∀ t ∈ o.looksAt ops, ∀ j, j < N → dstOf ops j = some t → listed.getD j false = true ∧ j < i := fun t ht j hj hd => by
          have hj := hR.look i o hiN ho t ht j hj hd
          exact ⟨hanc j hj, (hR.anc i o ho j hj).1⟩
        obtain ⟨hex, hwt⟩ := agr_exec hA (agr_canon hR.dst vs (Nat.le_of_lt hiN)) o (fun cs q => Region.noSelect_spec hR.sel i o cs q ho) hlook
        exact ⟨hex, hwt, H i hiN o ho vs w hW (facts_of fun j hj hc => hS j (by omega) (hanc j (List.contains_iff_mem.1 hc)))⟩
      by_cases hlo : lz = true ∧ looseB ops m = true
      · obtain ⟨hlz, hlo⟩ := hlo
        have hom : ops[m]? = some ops[m] := Array.getElem?_eq_getElem hms
        have hall : ∀ e ∈ ops[m].after, Region.binds .any e = true → listed.getD e.on false = true := fun e he hb => hmlt _ (hR.down m _ hom e he hb)
        obtain ⟨e1, e2, e3⟩ := run m _ hmN hom hall
        unfold looseB at hlo
        rw [hom] at hlo
        simp only [Bool.and_eq_true, List.all_eq_true, List.mem_range, Bool.or_eq_true, decide_eq_true_eq] at hlo
        obtain ⟨hpu, hfr⟩ := hlo
        have hok : okAt P ops ops[m] b w (sp m).sv := by
          unfold okAt at e3 ⊢
          rw [e1, e2]; exact e3
        obtain ⟨v, hy, hv⟩ := pure_yields hpu hok
        refine wpAny_first hom (Region.noSelect_spec hR.sel) (hQ hlz _ _) fuel listed b w ?_ hrm hy (step m _ v w hmN hom hm0 hall hv (Ext.refl _))
        intro j oj hoj hne hun hno
        have hjs : j < ops.size := (Array.getElem?_eq_some_iff.1 hoj).1
        rw [getD_true_false (by omega)] at hun
        have := hfr j hjs
        rw [hoj] at this
        rcases this with h | h
        · exfalso
          have := hmlt j (by omega)
          rw [hun] at this; cases this
        · simp only [Bool.or_eq_true, List.any_eq_true, Bool.and_eq_true, beq_iff_eq] at h
          rcases h with ⟨e, he, hb, hem⟩ | h
          · exact absurd hem (hno e (Array.mem_toList_iff.1 he) hb)
          · exact h
      refine ⟨fun h0 => (by rw [h0] at hrm; cases hrm), fun i hi => ?_⟩
      obtain ⟨h0, o, ho, hall⟩ := mem_ready.1 hi
      have hio : i < ops.size := (Array.getElem?_eq_some_iff.1 ho).1
      rw [getD_true_false (by omega)] at h0
      have hanc := anc_listed hR (L := fun i => listed.getD i false = true) hdn i o ho hall
      have hiN : i < N := by
        rcases Nat.lt_or_ge i N with h' | h'
        · exact h'
        · rcases hR.tail i hio h' m (by omega) with h | h
          · have := hanc m h
            rw [hm0] at this; cases this
          · exact absurd ⟨h.1, h.2.2⟩ hlo
      obtain ⟨hex, hwt, hok⟩ := run i o hiN ho hall
      exact okAt_wp ho hex hwt hok fun v w' hv hE => step i o v w' hiN ho h0 hall hv hE

/-- **ONE WALK SERVES EVERY ORDER.** -/
theorem wp_region_rel0 {id : Nat} {l : List Oper} {Q : Exit → Act → World → Prop} {w W : World} (N : Nat) (hm : P.follows .mixedOrders = true) (hB : relB l.toArray (mkTab l.toArray) N lz = true) (hQ : lz = true → ∀ d v c a w, Q (.panic c) (a.put d v) w → Q (.panic c) a w) (hW : Ext W w.drew)
    (h : relW P l.toArray (mkTab l.toArray) W (fun a' w' => wpList P l.toArray Q (l.drop N) a' w') 0 (l.take N) [] (fun _ => a)) : (Code.region id l.toArray true).wp P Q a w := by
  have hR := relOk hB
  refine wp_region_any hm ?_
  have hN := hR.le
  obtain ⟨sp, _, h2, h3⟩ := relW_specs (a := a) (l.take N) 0 (fun _ => .fix undef) h (fun k hk => by
    have hk' : k < N := by simp at hk; omega
    simp [hk'])
  have hlen : (l.take N).length = N := by simp at hN ⊢; omega
  rw [hlen] at h2 h3
  simp only [Nat.zero_add] at h2 h3
  have hrep : ∀ i, (Array.replicate l.toArray.size false).getD i false = false := fun i => by
    simp only [Array.getD_eq_getD_getElem?, Array.getElem?_replicate]
    split <;> rfl
  refine prefix_any (sp := sp) (a := a) (W := W) hR hQ (fun i hi o ho => h2 i hi o ho) (fun vs w' hw hf => by simpa using h3 vs w' hw hf) _ _ a _ (fun _ => undef) (by simp) ?_ hW ?_ ?_ ?_ ?_
  · have : cnt (Array.replicate l.toArray.size false) = 0 := by
      unfold cnt
      rw [List.countP_eq_zero]
      intro i _
      rw [hrep]; simp
    omega
  · exact agr_start (fun j => by rw [hrep]; simp) _
  · intro j _ h; rw [hrep] at h; cases h
  · intro i _; exact hrep i
  · intro i o h; rw [hrep] at h; cases h
theorem wp_region_rel {id : Nat} {l : List Oper} {Q : Exit → Act → World → Prop} {w W : World} (N : Nat) (hm : P.follows .mixedOrders = true) (hB : relB l.toArray (mkTab l.toArray) N = true) (hW : Ext W w.drew)
    (h : relW P l.toArray (mkTab l.toArray) W (fun a' w' => wpList P l.toArray Q (l.drop N) a' w') 0 (l.take N) [] (fun _ => a)) : (Code.region id l.toArray true).wp P Q a w :=
  wp_region_rel0 N hm hB (fun h => by cases h) hW h
/-- The same, where copies may come up late. -/
theorem wp_region_rell {id : Nat} {l : List Oper} {Q : Exit → Act → World → Prop} {w W : World} (N : Nat) (hm : P.follows .mixedOrders = true) (hB : relB l.toArray (mkTab l.toArray) N true = true) (hQ : ∀ t v c a w, Q (.panic c) (a.put (some t) v) w → Q (.panic c) a w) (hW : Ext W w.drew)
    (h : relW P l.toArray (mkTab l.toArray) W (fun a' w' => wpList P l.toArray Q (l.drop N) a' w') 0 (l.take N) [] (fun _ => a)) : (Code.region id l.toArray true).wp P Q a w :=
  wp_region_rel0 N hm hB (fun _ d v c a w h => match d, h with | none, h => h | some t, h => hQ t v c a w h) hW h
end

section
variable {P : Program} {ops : Array Oper} {T : Array (List Nat)} {W : World} {Fin : Act → World → Prop} {i : Nat} {o : Oper} {r : List Oper} {G : List (Nat × SV)} {A A' : (Nat → Value) → Act}
theorem relW_fix {u : Value} (h1 : ∀ vs w, Ext W w → Hid (Facts T i G vs w) → okAt P ops o (A vs) w (SV.eq u)) (hA : ∀ vs, (A vs).put o.dst u = A' vs)
    (h2 : relW P ops T W Fin (i + 1) r G A') : relW P ops T W Fin i (o :: r) G A :=
  .inl ⟨u, h1, by rw [show (fun vs => (A vs).put o.dst u) = A' from funext hA]; exact h2⟩
theorem relW_any (S : SV) (h1 : ∀ vs w, Ext W w → Hid (Facts T i G vs w) → okAt P ops o (A vs) w S) (hA : ∀ vs, (A vs).put o.dst (vs i) = A' vs)
    (h2 : relW P ops T W Fin (i + 1) r ((i, S) :: G) A') : relW P ops T W Fin i (o :: r) G A :=
  .inr ⟨S, h1, by rw [show (fun vs => (A vs).put o.dst (vs i)) = A' from funext hA]; exact h2⟩
theorem relW_nil (h : ∀ vs w, Ext W w → AllFacts G vs w → Fin (A vs) w) : relW P ops T W Fin i [] G A := h
end
def SV.is (xs : List Int) : SV := ⟨fun v w => ∃ p c, v = .slice p xs.length c ∧ Is w p xs, fun ⟨p, c, h1, h2⟩ e => ⟨p, c, h1, h2.ext e⟩⟩
end Go.Proofs.Ytdlalmbnkcadfaa
