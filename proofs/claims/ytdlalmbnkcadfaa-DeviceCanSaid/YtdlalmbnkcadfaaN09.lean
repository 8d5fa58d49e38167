/- The walk of a region that draws its order (Rel), under any preorder of worlds, and with each operation's own stretch of new blocks. -/
import Derived.Test.YtdlalmbnkcadfaaM02
namespace Go.Proofs.Ytdlalmbnkcadfaa
open Go.RowKit

/-- What may become of a world. -/
structure PW where
  r : World → World → Prop
  refl : ∀ w, r w w
  trans : ∀ {a b c}, r a b → r b c → r a c
  size : ∀ {a b}, r a b → a.heap.size ≤ b.heap.size
def PW.ext : PW := ⟨Ext, Ext.refl, Ext.trans, fun h => h.size⟩
/-- What is said of a value that an operation left which began with so many blocks and ended with so many. -/
structure SW (R : PW) where
  p : Value → Nat → Nat → World → Prop
  keep : ∀ {v : Value} {l h : Nat} {w w' : World}, p v l h w → R.r w w' → p v l h w'
def SW.eq (R : PW) (u : Value) : SW R := ⟨fun v _ _ _ => v = u, fun h _ => h⟩
def SV.w (S : SV) : SW PW.ext := ⟨fun v _ _ w => S.p v w, fun h e => S.keep h e⟩

def okRes2 (P : Program) (R : PW) (w : World) (S : SW R) : Result Next → Prop
  | .ok (.value v) w' => S.p v w.heap.size w'.heap.size w' ∧ R.r w w'
  | .ok .skip w' => S.p undef w.heap.size w'.heap.size w' ∧ R.r w w'
  | .ok (.enter f args) w' => R.r w w' ∧ Calls P f args w' fun e w'' => ∃ v, e = .returned v ∧ S.p v w.heap.size w''.heap.size w'' ∧ R.r w' w''
  | _ => False
section
variable (P : Program) (R : PW) (w w' : World) (S : SW R)
@[go_sem] theorem okRes2_value (v : Value) : okRes2 P R w S (.ok (.value v) w') = (S.p v w.heap.size w'.heap.size w' ∧ R.r w w') := rfl
@[go_sem] theorem okRes2_skip : okRes2 P R w S (.ok .skip w') = (S.p undef w.heap.size w'.heap.size w' ∧ R.r w w') := rfl
@[go_sem] theorem okRes2_enter (f : FuncId) (args : Array Value) : okRes2 P R w S (.ok (.enter f args) w') = (R.r w w' ∧ Calls P f args w' fun e w'' => ∃ v, e = .returned v ∧ S.p v w.heap.size w''.heap.size w'' ∧ R.r w' w'') := rfl
end
def okAt2 (P : Program) (R : PW) (ops : Array Oper) (o : Oper) (a : Act) (w : World) (S : SW R) : Prop :=
  if Region.wanted o (yielded ops a.tmps) = true then okRes2 P R w S ((execOp a.eval o).run P w) else S.p undef w.heap.size w.heap.size w

def Facts2 (R : PW) (T : Array (List Nat)) (i : Nat) : List (Nat × SW R) → (Nat → Value) → (Nat → Nat × Nat) → World → Prop
  | [], _, _, _ => True
  | x :: r, vs, iv, w => ((T.getD i []).contains x.1 = true → x.2.p (vs x.1) (iv x.1).1 (iv x.1).2 w) ∧ Facts2 R T i r vs iv w
def AllFacts2 (R : PW) : List (Nat × SW R) → (Nat → Value) → (Nat → Nat × Nat) → World → Prop
  | [], _, _, _ => True
  | x :: r, vs, iv, w => x.2.p (vs x.1) (iv x.1).1 (iv x.1).2 w ∧ AllFacts2 R r vs iv w
/-- Two operations' new blocks are others. -/
def Ap (N : Nat) (iv : Nat → Nat × Nat) : Prop := ∀ i j, i < N → j < N → i ≠ j → (iv i).2 ≤ (iv j).1 ∨ (iv j).2 ≤ (iv i).1

def relW2 (P : Program) (R : PW) (ops : Array Oper) (T : Array (List Nat)) (W : World) (Fin : Act → World → Prop) : Nat → List Oper → List (Nat × SW R) → ((Nat → Value) → Act) → Prop
  | i, [], G, A => ∀ vs iv w, R.r W w → AllFacts2 R G vs iv w → Ap i iv → Fin (A vs) w
  | i, o :: r, G, A =>
    (∃ u, (∀ vs iv w, R.r W w → Facts2 R T i G vs iv w → okAt2 P R ops o (A vs) w (SW.eq R u)) ∧ relW2 P R ops T W Fin (i + 1) r G (fun vs => (A vs).put o.dst u)) ∨
    (∃ S, (∀ vs iv w, R.r W w → Facts2 R T i G vs iv w → okAt2 P R ops o (A vs) w S) ∧ relW2 P R ops T W Fin (i + 1) r ((i, S) :: G) (fun vs => (A vs).put o.dst (vs i)))

inductive Sp2 (R : PW) where
  | fix (u : Value)
  | any (S : SW R)
def Sp2.sv {R : PW} : Sp2 R → SW R
  | .fix u => SW.eq R u
  | .any S => S
def SV.triv : SV := ⟨fun _ _ => True, fun _ _ => trivial⟩
def Sp2.dn {R : PW} : Sp2 R → Sp
  | .fix u => .fix u
  | .any _ => .any SV.triv
def dnA {R : PW} (sp : Nat → Sp2 R) : Nat → Sp := fun j => (sp j).dn
def gOf2 {R : PW} (sp : Nat → Sp2 R) : Nat → List (Nat × SW R)
  | 0 => []
  | i + 1 => match sp i with
    | .fix _ => gOf2 sp i
    | .any S => (i, S) :: gOf2 sp i
theorem gOf2_congr {R : PW} {sp sp' : Nat → Sp2 R} : ∀ {i : Nat}, (∀ j, j < i → sp j = sp' j) → gOf2 sp i = gOf2 sp' i
  | 0, _ => rfl
  | i + 1, h => by
    unfold gOf2
    rw [gOf2_congr (i := i) fun j hj => h j (by omega), h i (by omega)]
def upd2 {R : PW} (sp : Nat → Sp2 R) (i : Nat) (s : Sp2 R) : Nat → Sp2 R := fun j => if j = i then s else sp j

theorem relW2_specs {P : Program} {R : PW} {ops : Array Oper} {T : Array (List Nat)} {W : World} {Fin : Act → World → Prop} {a : Act} : ∀ (l : List Oper) (i : Nat) (sp0 : Nat → Sp2 R),
    relW2 P R ops T W Fin i l (gOf2 sp0 i) (fun vs => canon ops (dnA sp0) a vs i) → (∀ k, k < l.length → l[k]? = ops[i + k]?) →
    ∃ sp : Nat → Sp2 R, (∀ j, j < i → sp j = sp0 j) ∧
      (∀ k, k < l.length → ∀ o, ops[i + k]? = some o → ∀ vs iv w, R.r W w → Facts2 R T (i + k) (gOf2 sp (i + k)) vs iv w → okAt2 P R ops o (canon ops (dnA sp) a vs (i + k)) w (sp (i + k)).sv) ∧
      (∀ vs iv w, R.r W w → AllFacts2 R (gOf2 sp (i + l.length)) vs iv w → Ap (i + l.length) iv → Fin (canon ops (dnA sp) a vs (i + l.length)) w)
  | [], i, sp0, h, _ => ⟨sp0, fun _ _ => rfl, fun k hk => absurd hk (Nat.not_lt_zero _), h⟩
  | o :: r, i, sp0, h, hl => by
    have go : ∀ s : Sp2 R, (∀ vs iv w, R.r W w → Facts2 R T i (gOf2 sp0 i) vs iv w → okAt2 P R ops o (canon ops (dnA sp0) a vs i) w s.sv) →
        relW2 P R ops T W Fin (i + 1) r (gOf2 (upd2 sp0 i s) (i + 1)) (fun vs => canon ops (dnA (upd2 sp0 i s)) a vs (i + 1)) →
        ∃ sp : Nat → Sp2 R, (∀ j, j < i → sp j = sp0 j) ∧
          (∀ k, k < (o :: r).length → ∀ o', ops[i + k]? = some o' → ∀ vs iv w, R.r W w → Facts2 R T (i + k) (gOf2 sp (i + k)) vs iv w → okAt2 P R ops o' (canon ops (dnA sp) a vs (i + k)) w (sp (i + k)).sv) ∧
          (∀ vs iv w, R.r W w → AllFacts2 R (gOf2 sp (i + (o :: r).length)) vs iv w → Ap (i + (o :: r).length) iv → Fin (canon ops (dnA sp) a vs (i + (o :: r).length)) w) := by
      intro s h1 h2
      obtain ⟨sp, e1, e2, e3⟩ := relW2_specs r (i + 1) (upd2 sp0 i s) h2 (fun k hk => by have := hl (k + 1) (by simp; omega); simpa [Nat.add_assoc, Nat.add_comm 1 k] using this)
      have hlow : ∀ j, j < i → sp j = sp0 j := fun j hj => by rw [e1 j (by omega)]; unfold upd2; rw [if_neg (by omega)]
      have hi : sp i = s := by rw [e1 i (by omega)]; unfold upd2; rw [if_pos rfl]
      refine ⟨sp, hlow, fun k hk o' ho' vs iv w hw hf => ?_, fun vs iv w hw hf hap => ?_⟩
      · match k, hk, ho', hf with
        | 0, _, ho', hf =>
          have ho : ops[i]? = some o := by have := hl 0 (by simp); simpa using this.symm
          have : o' = o := by rw [Nat.add_zero, ho] at ho'; exact (Option.some.inj ho').symm
          subst this
          rw [Nat.add_zero] at hf ⊢
          rw [hi, canon_congr (sp' := dnA sp0) (vs' := vs) fun j hj => ⟨by unfold dnA; rw [hlow j hj], rfl⟩]
          rw [gOf2_congr hlow] at hf
          exact h1 vs iv w hw hf
        | k + 1, hk, ho', hf =>
          have e : i + (k + 1) = i + 1 + k := by omega
          rw [e] at ho' hf ⊢
          exact e2 k (by simpa using hk) o' ho' vs iv w hw hf
      · have e : i + (o :: r).length = i + 1 + r.length := by simp; omega
        rw [e] at hf hap ⊢
        exact e3 vs iv w hw hf hap
    have ho : ops[i]? = some o := by have := hl 0 (by simp); simpa using this.symm
    have hcn : ∀ (s : Sp2 R) vs, canon ops (dnA (upd2 sp0 i s)) a vs (i + 1) = (canon ops (dnA sp0) a vs i).put o.dst (s.dn.val (vs i)) := fun s vs => by
      rw [canon_succ]
      have : dnA (upd2 sp0 i s) i = s.dn := by unfold dnA upd2; rw [if_pos rfl]
      rw [this, ho, canon_congr (sp' := dnA sp0) (vs' := vs) fun j hj => ⟨by unfold dnA upd2; rw [if_neg (by omega)], rfl⟩]
      rfl
    rcases h with ⟨u, h1, h2⟩ | ⟨S, h1, h2⟩
    · refine go (.fix u) h1 ?_
      have e1 : gOf2 (upd2 sp0 i (.fix u)) (i + 1) = gOf2 sp0 i := by
        show (match upd2 sp0 i (.fix u) i with | .fix _ => gOf2 (upd2 sp0 i (.fix u)) i | .any S => (i, S) :: gOf2 (upd2 sp0 i (.fix u)) i) = _
        have : upd2 sp0 i (.fix u) i = .fix u := by unfold upd2; rw [if_pos rfl]
        rw [this]
        exact gOf2_congr fun j hj => by unfold upd2; rw [if_neg (by omega)]
      rw [e1, show (fun vs => canon ops (dnA (upd2 sp0 i (.fix u))) a vs (i + 1)) = fun vs => (canon ops (dnA sp0) a vs i).put o.dst u from funext fun vs => hcn _ vs]; exact h2
    · refine go (.any S) h1 ?_
      have e1 : gOf2 (upd2 sp0 i (.any S)) (i + 1) = (i, S) :: gOf2 sp0 i := by
        show (match upd2 sp0 i (.any S) i with | .fix _ => gOf2 (upd2 sp0 i (.any S)) i | .any S' => (i, S') :: gOf2 (upd2 sp0 i (.any S)) i) = _
        have : upd2 sp0 i (.any S) i = .any S := by unfold upd2; rw [if_pos rfl]
        rw [this]
        show (i, S) :: _ = _
        rw [gOf2_congr (sp' := sp0) fun j hj => by unfold upd2; rw [if_neg (by omega)]]
      rw [e1, show (fun vs => canon ops (dnA (upd2 sp0 i (.any S))) a vs (i + 1)) = fun vs => (canon ops (dnA sp0) a vs i).put o.dst (vs i) from funext fun vs => hcn _ vs]; exact h2

theorem facts_of2 {R : PW} {T : Array (List Nat)} {i : Nat} {sp : Nat → Sp2 R} {vs : Nat → Value} {iv : Nat → Nat × Nat} {w : World} : ∀ {m : Nat},
    (∀ j, j < m → (T.getD i []).contains j = true → (sp j).sv.p ((sp j).dn.val (vs j)) (iv j).1 (iv j).2 w) → Facts2 R T i (gOf2 sp m) vs iv w
  | 0, _ => trivial
  | m + 1, h => by
    have ih := facts_of2 (m := m) fun j hj hc => h j (by omega) hc
    unfold gOf2
    have hm := h m (by omega)
    cases hs : sp m with
    | fix u => exact ih
    | any S => rw [hs] at hm; exact ⟨hm, ih⟩
theorem allFacts_of2 {R : PW} {sp : Nat → Sp2 R} {vs : Nat → Value} {iv : Nat → Nat × Nat} {w : World} : ∀ {m : Nat},
    (∀ j, j < m → (sp j).sv.p ((sp j).dn.val (vs j)) (iv j).1 (iv j).2 w) → AllFacts2 R (gOf2 sp m) vs iv w
  | 0, _ => trivial
  | m + 1, h => by
    have ih := allFacts_of2 (m := m) fun j hj => h j (by omega)
    unfold gOf2
    have hm := h m (by omega)
    cases hs : sp m with
    | fix u => exact ih
    | any S => rw [hs] at hm; exact ⟨hm, ih⟩

section
variable {P : Program} {R : PW} {ops : Array Oper} {T : Array (List Nat)} {N : Nat} {lz : Bool} {sp : Nat → Sp2 R} {a : Act}

theorem okAt_wp2 {Q : Exit → Act → World → Prop} {o : Oper} {b c : Act} {w : World} {S : SW R} {i : Nat} {K : Act → World → Prop} (hi : ops[i]? = some o)
    (he : execOp b.eval o = execOp c.eval o) (hw : Region.wanted o (yielded ops b.tmps) = Region.wanted o (yielded ops c.tmps))
    (h : okAt2 P R ops o c w S) (hK : ∀ v w', S.p v w.heap.size w'.heap.size w' → R.r w w' → K (b.put o.dst v) w') : wpOp P ops Q i K b w := by
  unfold wpOp
  simp only [hi]
  unfold okAt2 at h
  rw [← he, ← hw] at h
  split
  · rename_i hwt
    rw [if_pos hwt] at h
    refine .inl ?_
    unfold Oper.wp
    generalize (execOp b.eval o).run P w = r at h ⊢
    cases r with
    | ok x w' =>
      cases x with
      | value v => exact hK _ _ h.1 h.2
      | skip => exact hK _ _ h.1 h.2
      | enter f args =>
        refine Calls.mono h.2 fun e w'' ⟨v, he, hS, hE⟩ => ?_
        subst he
        exact hK _ _ hS (R.trans h.1 hE)
      | _ => exact absurd h (by simp [okRes2])
    | halt x w' => exact absurd h (by simp [okRes2])
  · rename_i hwt
    rw [if_neg hwt] at h
    exact hK _ _ h (R.refl _)

theorem pure_yields2 {o : Oper} (hp : pureB o = true) {b : Act} {w : World} {S : SW R} (h : okAt2 P R ops o b w S) : ∃ v, Yields P ops o v b ∧ S.p v w.heap.size w.heap.size w := by
  obtain ⟨dst, op, type, pos, after, guard⟩ := o
  unfold pureB at hp
  simp only [Bool.and_eq_true, Option.isNone_iff_eq_none] at hp
  obtain ⟨rfl, hp⟩ := hp
  have hw : ∀ y, Region.wanted (⟨dst, op, type, pos, after, none⟩ : Oper) y = true := fun y => rfl
  unfold okAt2 at h
  rw [if_pos (hw _)] at h
  cases op with
  | move x => exact ⟨b.eval x, .inl ⟨hw _, fun w' => rfl⟩, h.1⟩
  | assign x => exact ⟨b.eval x, .inl ⟨hw _, fun w' => rfl⟩, h.1⟩
  | extract t ix =>
    have he : ∀ w', (execOp b.eval ⟨dst, .extract t ix, type, pos, after, none⟩).run P w' = ((Instr.extract (b.eval t) ix).run P w').andThen fun v w' => .ok (.value v) w' := fun w' => by
      simp only [execOp, Sem.run_bind, Sem.run_pure]
    rw [he] at h
    unfold Yields
    simp only [he]
    generalize b.eval t = tv at h ⊢
    unfold Instr.extract at h ⊢
    cases tv with
    | tuple vs =>
      simp only at h ⊢
      cases hv : vs[ix]? with
      | none => rw [hv] at h; exact absurd h (by simp [stuck, okRes2, Result.andThen])
      | some v => rw [hv] at h; exact ⟨v, .inl ⟨hw _, fun w' => rfl⟩, h.1⟩
    | _ => exact absurd h (by simp [stuck, okRes2, Result.andThen])
  | _ => simp at hp

theorem prefix_any2 {Q : Exit → Act → World → Prop} {W : World} (hR : RelOk ops T N lz) (hQ : lz = true → ∀ d v c a w, Q (.panic c) (a.put d v) w → Q (.panic c) a w)
    (H : ∀ i, i < N → ∀ o, ops[i]? = some o → ∀ vs iv w, R.r W w → Facts2 R T i (gOf2 sp i) vs iv w → okAt2 P R ops o (canon ops (dnA sp) a vs i) w (sp i).sv)
    (hF : ∀ vs iv w, R.r W w → AllFacts2 R (gOf2 sp N) vs iv w → Ap N iv → wpList P ops Q (ops.toList.drop N) (canon ops (dnA sp) a vs N) w) :
    ∀ (fuel : Nat) (listed : Array Bool) (b : Act) (w : World) (vs : Nat → Value) (iv : Nat → Nat × Nat), listed.size = ops.size → cnt listed + fuel = ops.size → R.r W w →
      Agr ops N (dnA sp) a (fun j => listed.getD j false = true) vs b → (∀ j, j < N → listed.getD j false = true → (sp j).sv.p ((sp j).dn.val (vs j)) (iv j).1 (iv j).2 w ∧ (iv j).2 ≤ w.heap.size) →
      (∀ i j, i < N → j < N → i ≠ j → listed.getD i false = true → listed.getD j false = true → (iv i).2 ≤ (iv j).1 ∨ (iv j).2 ≤ (iv i).1) →
      (∀ i, N ≤ i → listed.getD i false = false) →
      (∀ i o, listed.getD i false = true → ops[i]? = some o → ∀ e ∈ o.after, Region.binds .any e = true → listed.getD e.on false = true) →
      wpAny P .any ops Q fuel listed b w := by
  intro fuel
  induction fuel with
  | zero =>
    intro listed b w vs iv hz hc hW hA hS hP hhi hdn
    have hall := cnt_all (l := listed) (by omega)
    have hN : N = ops.size := by
      rcases Nat.lt_or_ge N ops.size with h | h
      · have h1 := hhi N (Nat.le_refl _)
        rw [hall N (by omega)] at h1; cases h1
      · have := hR.le; omega
    refine tail_any hR 0 N listed b w (Nat.le_refl _) (by omega) hz (fun i hi => ⟨fun _ => by omega, fun _ => hall i (by omega)⟩) ?_
    rw [agr_eq hA (agr_canon hR.dst vs (Nat.le_refl _)) fun j hj => hall j (by omega)]
    exact hF vs iv w hW (allFacts_of2 fun j hj => (hS j hj (hall j (by omega))).1) (fun i j hi hj hne => hP i j hi hj hne (hall i (by omega)) (hall j (by omega)))
  | succ fuel ih =>
    intro listed b w vs iv hz hc hW hA hS hP hhi hdn
    by_cases hp : ∀ i, i < N → listed.getD i false = true
    · have hiff : ∀ i, i < listed.size → (listed.getD i false = true ↔ i < N) := by
        intro i _
        refine ⟨fun h => ?_, hp i⟩
        rcases Nat.lt_or_ge i N with h' | h'
        · exact h'
        · rw [hhi i h'] at h; cases h
      have hcN := cnt_of_lt (by rw [hz]; exact hR.le) hiff
      refine tail_any hR (fuel + 1) N listed b w (Nat.le_refl _) (by omega) hz (fun i hi => hiff i (by omega)) ?_
      rw [agr_eq hA (agr_canon hR.dst vs (Nat.le_refl _)) hp]
      exact hF vs iv w hW (allFacts_of2 fun j hj => (hS j hj (hp j hj)).1) (fun i j hi hj hne => hP i j hi hj hne (hp i hi) (hp j hj))
    · have hex : ∃ m, m < N ∧ listed.getD m false = false ∧ ∀ j, j < m → listed.getD j false = true := by
        have key : ∀ m, (∀ j, j < m → listed.getD j false = true) ∨ ∃ m', m' < m ∧ listed.getD m' false = false ∧ ∀ j, j < m' → listed.getD j false = true := by
          intro m
          induction m with
          | zero => exact .inl fun j hj => absurd hj (Nat.not_lt_zero _)
          | succ m ihm =>
            rcases ihm with h | ⟨m', h1, h2⟩
            · by_cases hm : listed.getD m false = true
              · refine .inl ?_
                intro j hj
                rcases Nat.lt_or_ge j m with h' | h'
                · exact h j h'
                · have : j = m := by omega
                  rw [this]; exact hm
              · exact .inr ⟨m, Nat.lt_succ_self m, by simpa using hm, h⟩
            · exact .inr ⟨m', by omega, h2⟩
        rcases key N with h | h
        · exact absurd h hp
        · exact h
      obtain ⟨m, hmN, hm0, hmlt⟩ := hex
      have hms : m < ops.size := by have := hR.le; omega
      have hrm : m ∈ Region.ready .any ops listed := mem_ready.2 ⟨by rw [getD_true_false (by omega)]; exact hm0, _, Array.getElem?_eq_getElem hms, fun e he hb => hmlt _ (hR.down m _ (Array.getElem?_eq_getElem hms) e he hb)⟩
      have step : ∀ i o v w', i < N → ops[i]? = some o → listed.getD i false = false → (∀ e ∈ o.after, Region.binds .any e = true → listed.getD e.on false = true) →
          (sp i).sv.p v w.heap.size w'.heap.size w' → R.r w w' → wpAny P .any ops Q fuel (listed.setIfInBounds i true) (b.put o.dst v) w' := by
        intro i o v w' hiN ho h0 hall hv hE
        have hio : i < ops.size := (Array.getElem?_eq_some_iff.1 ho).1
        have hval : (dnA sp i).val ((fun j => if j = i then v else vs j) i) = v := by
          simp only [if_pos]
          unfold dnA
          cases hsi : sp i with
          | fix u => rw [hsi] at hv; exact (show v = u from hv).symm
          | any S => rfl
        have hod : o.dst = dstOf ops i := by unfold dstOf; rw [ho]; rfl
        have hA' := agr_put (vs' := fun j => if j = i then v else vs j) hA hiN (by rw [h0]; simp) hR.dst (fun j hj => by
          have : j ≠ i := fun e => by rw [e, h0] at hj; cases hj
          simp only [if_neg this])
        rw [hval, ← hod] at hA'
        have hset : ∀ j, (listed.setIfInBounds i true).getD j false = true ↔ (listed.getD j false = true ∨ j = i) := fun j => by
          by_cases hji : i = j
          · subst hji; simp [hz, hio]
          · rw [getD_set_ne false hji]
            exact ⟨.inl, fun h => h.resolve_right fun e => hji e.symm⟩
        refine ih (listed.setIfInBounds i true) _ w' (fun j => if j = i then v else vs j) (fun j => if j = i then (w.heap.size, w'.heap.size) else iv j) (by rw [Array.size_setIfInBounds]; exact hz) (by rw [cnt_set (by omega) h0]; omega) (R.trans hW hE) ?_ ?_ ?_ ?_ ?_
        · exact ⟨hA'.defers, fun j hj hL => hA'.one j hj ((hset j).1 hL), fun t ht => hA'.rest t fun j hj hL => ht j hj ((hset j).2 hL)⟩
        · intro j hj hL
          by_cases hji : j = i
          · subst hji
            have hval' : (sp j).dn.val ((fun k => if k = j then v else vs k) j) = v := hval
            rw [hval']
            simp only [if_pos]
            exact ⟨hv, Nat.le_refl _⟩
          · simp only [if_neg hji]
            have := hS j hj (((hset j).1 hL).resolve_right hji)
            exact ⟨(sp j).sv.keep this.1 hE, Nat.le_trans this.2 (R.size hE)⟩
        · intro x y hx hy hne hLx hLy
          by_cases hxi : x = i
          · have hyi : y ≠ i := fun e => hne (hxi.trans e.symm)
            have := (hS y hy (((hset y).1 hLy).resolve_right hyi)).2
            simp only [if_pos hxi, if_neg hyi]
            exact .inr this
          · have hxs := (hS x hx (((hset x).1 hLx).resolve_right hxi)).2
            by_cases hyi : y = i
            · simp only [if_neg hxi, if_pos hyi]
              exact .inl hxs
            · simp only [if_neg hxi, if_neg hyi]
              exact hP x y hx hy hne (((hset x).1 hLx).resolve_right hxi) (((hset y).1 hLy).resolve_right hyi)
        · intro j hj
          have hne : i ≠ j := by omega
          rw [getD_set_ne false hne]; exact hhi j hj
        · intro j oj hL hoj e he hb
          refine (hset e.on).2 ?_
          rcases (hset j).1 hL with h | rfl
          · exact .inl (hdn j oj h hoj e he hb)
          · rw [ho] at hoj
            obtain rfl := Option.some.inj hoj
            exact .inl (hall e he hb)
      have run : ∀ i o, i < N → ops[i]? = some o → (∀ e ∈ o.after, Region.binds .any e = true → listed.getD e.on false = true) →
          execOp b.eval o = execOp (canon ops (dnA sp) a vs i).eval o ∧ Region.wanted o (yielded ops b.tmps) = Region.wanted o (yielded ops (canon ops (dnA sp) a vs i).tmps) ∧ okAt2 P R ops o (canon ops (dnA sp) a vs i) w (sp i).sv := by
        intro i o hiN ho hall
        have hanc := anc_listed hR (L := fun i => listed.getD i false = true) hdn i o ho hall
        have hlook : ∀ t ∈ o.looksAt ops, ∀ j, j < N → dstOf ops j = some t → listed.getD j false = true ∧ j < i := fun t ht j hj hd => by
          have hj := hR.look i o hiN ho t ht j hj hd
          exact ⟨hanc j hj, (hR.anc i o ho j hj).1⟩
        obtain ⟨hex, hwt⟩ := agr_exec hA (agr_canon hR.dst vs (Nat.le_of_lt hiN)) o (fun cs q => Region.noSelect_spec hR.sel i o cs q ho) hlook
        exact ⟨hex, hwt, H i hiN o ho vs iv w hW (facts_of2 fun j hj hc => (hS j (by omega) (hanc j (List.contains_iff_mem.1 hc))).1)⟩
      by_cases hlo : lz = true ∧ looseB ops m = true
      · obtain ⟨hlz, hlo⟩ := hlo
        have hom : ops[m]? = some ops[m] := Array.getElem?_eq_getElem hms
        have hall : ∀ e ∈ ops[m].after, Region.binds .any e = true → listed.getD e.on false = true := fun e he hb => hmlt _ (hR.down m _ hom e he hb)
        obtain ⟨e1, e2, e3⟩ := run m _ hmN hom hall
        unfold looseB at hlo
        rw [hom] at hlo
        simp only [Bool.and_eq_true, List.all_eq_true, List.mem_range, Bool.or_eq_true, decide_eq_true_eq] at hlo
        obtain ⟨hpu, hfr⟩ := hlo
        have hok : okAt2 P R ops ops[m] b w (sp m).sv := by
          unfold okAt2 at e3 ⊢
          rw [e1, e2]; exact e3
        obtain ⟨v, hy, hv⟩ := pure_yields2 hpu hok
        refine wpAny_first hom (Region.noSelect_spec hR.sel) (hQ hlz _ _) fuel listed b w ?_ hrm hy (step m _ v w hmN hom hm0 hall hv (R.refl _))
        intro j oj hoj hne hun hno
        have hjs : j < ops.size := (Array.getElem?_eq_some_iff.1 hoj).1
        rw [getD_true_false (by omega)] at hun
        have := hfr j hjs
        rw [hoj] at this
        rcases this with h | h
        · exfalso
          have := hmlt j (by omega)
          rw [hun] at this; cases this
        · simp only [Bool.or_eq_true, List.any_eq_true, Bool.and_eq_true, beq_iff_eq] at h
          rcases h with ⟨e, he, hb, hem⟩ | h
          · exact absurd hem (hno e (Array.mem_toList_iff.1 he) hb)
          · exact h
      refine ⟨fun h0 => (by rw [h0] at hrm; cases hrm), fun i hi => ?_⟩
      obtain ⟨h0, o, ho, hall⟩ := mem_ready.1 hi
      have hio : i < ops.size := (Array.getElem?_eq_some_iff.1 ho).1
      rw [getD_true_false (by omega)] at h0
      have hanc := anc_listed hR (L := fun i => listed.getD i false = true) hdn i o ho hall
      have hiN : i < N := by
        rcases Nat.lt_or_ge i N with h' | h'
        · exact h'
        · rcases hR.tail i hio h' m (by omega) with h | h
          · have := hanc m h
            rw [hm0] at this; cases this
          · exact absurd ⟨h.1, h.2.2⟩ hlo
      obtain ⟨hex, hwt, hok⟩ := run i o hiN ho hall
      exact okAt_wp2 ho hex hwt hok fun v w' hv hE => step i o v w' hiN ho h0 hall hv hE

theorem wp_region_r20 {id : Nat} {l : List Oper} {Q : Exit → Act → World → Prop} {w W : World} (R : PW) (N : Nat) (hm : P.follows .mixedOrders = true) (hB : relB l.toArray (mkTab l.toArray) N lz = true) (hQ : lz = true → ∀ d v c a w, Q (.panic c) (a.put d v) w → Q (.panic c) a w) (hW : R.r W w.drew)
    (h : relW2 P R l.toArray (mkTab l.toArray) W (fun a' w' => wpList P l.toArray Q (l.drop N) a' w') 0 (l.take N) [] (fun _ => a)) : (Code.region id l.toArray true).wp P Q a w := by
  have hR := relOk hB
  refine wp_region_any hm ?_
  have hN := hR.le
  obtain ⟨sp, _, h2, h3⟩ := relW2_specs (a := a) (l.take N) 0 (fun _ => .fix undef) h (fun k hk => by
    have hk' : k < N := by simp at hk; omega
    simp [hk'])
  have hlen : (l.take N).length = N := by simp at hN ⊢; omega
  rw [hlen] at h2 h3
  simp only [Nat.zero_add] at h2 h3
  have hrep : ∀ i, (Array.replicate l.toArray.size false).getD i false = false := fun i => by
    simp only [Array.getD_eq_getD_getElem?, Array.getElem?_replicate]
    split <;> rfl
  refine prefix_any2 (sp := sp) (a := a) (W := W) hR hQ (fun i hi o ho => h2 i hi o ho) (fun vs iv w' hw hf hap => by simpa using h3 vs iv w' hw hf hap) _ _ a _ (fun _ => undef) (fun _ => (0, 0)) (by simp) ?_ hW ?_ ?_ ?_ ?_ ?_
  · have : cnt (Array.replicate l.toArray.size false) = 0 := by
      unfold cnt
      rw [List.countP_eq_zero]
      intro i _
      rw [hrep]; simp
    omega
  · exact agr_start (fun j => by rw [hrep]; simp) _
  · intro j _ h; rw [hrep] at h; cases h
  · intro i j _ _ _ h; rw [hrep] at h; cases h
  · intro i _; exact hrep i
  · intro i o h; rw [hrep] at h; cases h
theorem wp_region_r2 {id : Nat} {l : List Oper} {Q : Exit → Act → World → Prop} {w W : World} (R : PW) (N : Nat) (hm : P.follows .mixedOrders = true) (hB : relB l.toArray (mkTab l.toArray) N = true) (hW : R.r W w.drew)
    (h : relW2 P R l.toArray (mkTab l.toArray) W (fun a' w' => wpList P l.toArray Q (l.drop N) a' w') 0 (l.take N) [] (fun _ => a)) : (Code.region id l.toArray true).wp P Q a w :=
  wp_region_r20 R N hm hB (fun h => by cases h) hW h
theorem wp_region_r2l {id : Nat} {l : List Oper} {Q : Exit → Act → World → Prop} {w W : World} (R : PW) (N : Nat) (hm : P.follows .mixedOrders = true) (hB : relB l.toArray (mkTab l.toArray) N true = true) (hQ : ∀ t v c a w, Q (.panic c) (a.put (some t) v) w → Q (.panic c) a w) (hW : R.r W w.drew)
    (h : relW2 P R l.toArray (mkTab l.toArray) W (fun a' w' => wpList P l.toArray Q (l.drop N) a' w') 0 (l.take N) [] (fun _ => a)) : (Code.region id l.toArray true).wp P Q a w :=
  wp_region_r20 R N hm hB (fun _ d v c a w h => match d, h with | none, h => h | some t, h => hQ t v c a w h) hW h
end

section
variable {P : Program} {R : PW} {ops : Array Oper} {T : Array (List Nat)} {W : World} {Fin : Act → World → Prop} {i : Nat} {o : Oper} {r : List Oper} {G : List (Nat × SW R)} {A A' : (Nat → Value) → Act}
theorem relW2_fix {u : Value} (h1 : ∀ vs iv w, R.r W w → Hid (Facts2 R T i G vs iv w) → okAt2 P R ops o (A vs) w (SW.eq R u)) (hA : ∀ vs, (A vs).put o.dst u = A' vs)
    (h2 : relW2 P R ops T W Fin (i + 1) r G A') : relW2 P R ops T W Fin i (o :: r) G A :=
  .inl ⟨u, h1, by rw [show (fun vs => (A vs).put o.dst u) = A' from funext hA]; exact h2⟩
theorem relW2_any (S : SW R) (h1 : ∀ vs iv w, R.r W w → Hid (Facts2 R T i G vs iv w) → okAt2 P R ops o (A vs) w S) (hA : ∀ vs, (A vs).put o.dst (vs i) = A' vs)
    (h2 : relW2 P R ops T W Fin (i + 1) r ((i, S) :: G) A') : relW2 P R ops T W Fin i (o :: r) G A :=
  .inr ⟨S, h1, by rw [show (fun vs => (A vs).put o.dst (vs i)) = A' from funext hA]; exact h2⟩
theorem relW2_nil (h : ∀ vs iv w, R.r W w → AllFacts2 R G vs iv w → Ap i iv → Fin (A vs) w) : relW2 P R ops T W Fin i [] G A := h
/-- A box that the call has made: in its operation's stretch. -/
def SW.al (cs : Array Value) (t : TypeId) : SW PW.ext := ⟨fun v l h w => ∃ b, v = .pointer (some ⟨b, 0, none⟩) ∧ Bk w b cs t ∧ l ≤ b ∧ b < h, fun ⟨b, e, k, h1, h2⟩ x => ⟨b, e, k.ext x, h1, h2⟩⟩
end
end Go.Proofs.Ytdlalmbnkcadfaa
