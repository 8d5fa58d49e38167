/- Memory words: how bytes, numbers, writes and devices lie in a world; that they lie so still behind new blocks. -/
import Derived.WalkKit
import Derived.WalkSpells
import Derived.WalkLawsBesides
import Derived.Deep.AppendLies
import Derived.Deep.Draws
namespace Go.Proofs.Ytdlalmbnkcadfaa
open Go.RowKit

abbrev BL := List UInt8
/-- Everything that was there is as it was. -/
abbrev Ext (w w' : World) : Prop := Below w.heap.size w w'
theorem Ext.refl (w : World) : Ext w w := Below.refl _ _
theorem Ext.trans {a b c : World} (h : Ext a b) (k : Ext b c) : Ext a c := Below.trans h (Below.mono k h.size)
theorem Ext.alloc {a w : World} (h : Ext a w) (o : Obj) : Ext a (w.alloc o) := Below.alloc h h.size o
theorem Ext.drew {a w : World} (h : Ext a w) : Ext a w.drew := Below.drew h

theorem cell_lt {w : World} {p : Addr} {v : Value} (h : w.cell? p = some v) : p.block < w.heap.size := by
  unfold World.cell? at h
  rcases Nat.lt_or_ge p.block w.heap.size with hlt | hge
  · exact hlt
  · rw [Array.getElem?_eq_none hge] at h; simp at h

/-- The slice value '.slice A _ c' of cs.length cells reads as cs. -/
def Sl (w : World) (A : Option Addr) (cs : List Value) : Prop :=
  ∀ j v, cs[j]? = some v → ∃ b o, A = some ⟨b, o, none⟩ ∧ w.cell? ⟨b, o + j, none⟩ = some v

theorem Sl.nil (w : World) (A : Option Addr) : Sl w A [] := fun j v h => by simp at h
theorem Sl.keep {w w' : World} {A : Option Addr} {cs : List Value} (h : Sl w A cs)
    (k : ∀ p : Addr, (∃ a, A = some a ∧ p.block = a.block) → p.block < w.heap.size → w'.cell? p = w.cell? p) : Sl w' A cs := fun j v hj => by
  obtain ⟨b, o, rfl, hc⟩ := h j v hj
  exact ⟨b, o, rfl, by rw [k ⟨b, o + j, none⟩ ⟨_, rfl, rfl⟩ (cell_lt hc)]; exact hc⟩
theorem Sl.ext {w w' : World} {A : Option Addr} {cs : List Value} (h : Sl w A cs) (e : Ext w w') : Sl w' A cs :=
  h.keep fun _ _ hp => Below.cell e hp
theorem Sl.below {w w' : World} {A : Option Addr} {cs : List Value} {B : Nat} (h : Sl w A cs) (hA : ∀ a, A = some a → a.block < B) (e : Below B w w') : Sl w' A cs :=
  h.keep fun p ⟨a, ha, hp⟩ _ => Below.cell e (by rw [hp]; exact hA a ha)

/-- bytes, numbers -/
abbrev bcells (bs : BL) : List Value := bs.map fun b => Value.int .u8 (b.toNat : Int)
abbrev icells (xs : List Int) : List Value := xs.map (Value.int .i64)
def By (w : World) (A : Option Addr) (bs : BL) : Prop := Sl w A (bcells bs)
def Is (w : World) (A : Option Addr) (xs : List Int) : Prop := Sl w A (icells xs)
theorem By.ext {w w' : World} {A : Option Addr} {bs : BL} (h : By w A bs) (e : Ext w w') : By w' A bs := Sl.ext h e
theorem Is.ext {w w' : World} {A : Option Addr} {xs : List Int} (h : Is w A xs) (e : Ext w w') : Is w' A xs := Sl.ext h e
theorem Sl.far {w : World} {A : Option Addr} {cs : List Value} (h : Sl w A cs) {p : Addr} (hA : ∀ a, A = some a → a.block ≠ p.block) (u : Value) : Sl (w.setCell p u) A cs :=
  h.keep fun q ⟨a, ha, hq⟩ _ => World.cell?_of_block (Below.heap_setCell w p u q.block (by rw [hq]; exact hA a ha))
theorem By.far {w : World} {A : Option Addr} {bs : BL} (h : By w A bs) {p : Addr} (hA : ∀ a, A = some a → a.block ≠ p.block) (u : Value) : By (w.setCell p u) A bs := Sl.far h hA u
theorem Is.far {w : World} {A : Option Addr} {xs : List Int} (h : Is w A xs) {p : Addr} (hA : ∀ a, A = some a → a.block ≠ p.block) (u : Value) : Is (w.setCell p u) A xs := Sl.far h hA u
theorem Sl.grown {w w' : World} {A : Option Addr} {cs : List Value} {row : Option Nat} (h : Sl w A cs) (hA : ∀ a, A = some a → some a.block ≠ row) (hg : w.grownBy w' row) : Sl w' A cs :=
  h.keep fun q ⟨a, ha, hq⟩ hl => World.cell?_of_block (hg.block q.block hl (by rw [hq]; exact hA a ha))
theorem By.grown {w w' : World} {A : Option Addr} {bs : BL} {row : Option Nat} (h : By w A bs) (hA : ∀ a, A = some a → some a.block ≠ row) (hg : w.grownBy w' row) : By w' A bs := Sl.grown h hA hg
theorem Is.grown {w w' : World} {A : Option Addr} {xs : List Int} {row : Option Nat} (h : Is w A xs) (hA : ∀ a, A = some a → some a.block ≠ row) (hg : w.grownBy w' row) : Is w' A xs := Sl.grown h hA hg
theorem By.at {w : World} {A : Option Addr} {bs : BL} (h : By w A bs) {j : Nat} (hj : j < bs.length) :
    ∃ b o, A = some ⟨b, o, none⟩ ∧ w.cell? ⟨b, o + j, none⟩ = some (.int .u8 (bs[j].toNat : Int)) :=
  h j _ (by simp [hj])
theorem Is.at {w : World} {A : Option Addr} {xs : List Int} (h : Is w A xs) {j : Nat} (hj : j < xs.length) :
    ∃ b o, A = some ⟨b, o, none⟩ ∧ w.cell? ⟨b, o + j, none⟩ = some (.int .i64 xs[j]) :=
  h j _ (by simp [hj])
theorem By.of_none {w : World} {bs : BL} (h : By w none bs) : bs = [] := by
  cases bs with
  | nil => rfl
  | cons x r => obtain ⟨b, o, e, _⟩ := h.at (j := 0) (by simp); cases e
theorem By.take {w : World} {A : Option Addr} {bs : BL} (h : By w A bs) (k : Nat) : By w A (bs.take k) := fun j v hj => h j v (by
  have hlt := (List.getElem?_eq_some_iff.1 hj).1
  simp at hlt
  rw [← hj]
  simp only [bcells, List.getElem?_map, List.getElem?_take]
  rw [if_pos (by omega)])
theorem bcells_one (bs : BL) : ∀ v ∈ bcells bs, v.oneCell' = true := fun v hv => by obtain ⟨x, _, rfl⟩ := List.mem_map.1 hv; rfl
theorem By.nil (w : World) (A : Option Addr) : By w A [] := Sl.nil w A
theorem Is.nil (w : World) (A : Option Addr) : Is w A [] := Sl.nil w A

/-- A write: a block and its bytes. -/
structure Wr where
  blk : Int
  bs : BL
  deriving DecidableEq, Inhabited

def Ws (w : World) (A : Option Addr) (ws : List Wr) : Prop :=
  ∀ j x, ws[j]? = some x → ∃ b o B c, A = some ⟨b, o, none⟩ ∧ w.cell? ⟨b, o + j * 2, none⟩ = some (.int .i64 x.blk) ∧
    w.cell? ⟨b, o + j * 2 + 1, none⟩ = some (.slice B x.bs.length c) ∧ x.bs.length ≤ c ∧ By w B x.bs
theorem Ws.nil (w : World) (A : Option Addr) : Ws w A [] := fun j v h => by simp at h
theorem Ws.ext {w w' : World} {A : Option Addr} {ws : List Wr} (h : Ws w A ws) (e : Ext w w') : Ws w' A ws := fun j x hj => by
  obtain ⟨b, o, B, c, rfl, h1, h2, h3, h4⟩ := h j x hj
  exact ⟨b, o, B, c, rfl, (Below.cell e (p := ⟨b, _, none⟩) (by exact cell_lt h1)).trans h1, (Below.cell e (p := ⟨b, _, none⟩) (by exact cell_lt h2)).trans h2, h3, h4.ext e⟩

/-- A device. -/
structure Dk where
  bytes : BL
  pend : List Wr
  deriving DecidableEq, Inhabited

def DkV (w : World) (v : Value) (D : Dk) : Prop :=
  ∃ A c P e, v = .agg #[.slice A D.bytes.length c, .slice P D.pend.length e] ∧ D.bytes.length ≤ c ∧ By w A D.bytes ∧ D.pend.length ≤ e ∧ Ws w P D.pend
theorem DkV.ext {w w' : World} {v : Value} {D : Dk} (h : DkV w v D) (e : Ext w w') : DkV w' v D := by
  obtain ⟨A, c, P, d, rfl, h1, h2, h3, h4⟩ := h
  exact ⟨A, c, P, d, rfl, h1, h2.ext e, h3, h4.ext e⟩

/-- A fate. -/
structure Ft where
  order : List Int
  part : List Int
  deriving DecidableEq, Inhabited
def FtV (w : World) (v : Value) (F : Ft) : Prop :=
  ∃ A c P e, v = .agg #[.slice A F.order.length c, .slice P F.part.length e] ∧ F.order.length ≤ c ∧ Is w A F.order ∧ F.part.length ≤ e ∧ Is w P F.part
theorem FtV.ext {w w' : World} {v : Value} {F : Ft} (h : FtV w v F) (e : Ext w w') : FtV w' v F := by
  obtain ⟨A, c, P, d, rfl, h1, h2, h3, h4⟩ := h
  exact ⟨A, c, P, d, rfl, h1, h2.ext e, h3, h4.ext e⟩

/-- Block g is just these cells, none of them frozen. -/
def Bk (w : World) (g : Nat) (cs : Array Value) (t : TypeId) : Prop := w.heap[g]? = some (.cells cs t (0, 0))
section
variable {w w' : World} {g : Nat} {cs : Array Value} {t : TypeId}
theorem Bk.lt (h : Bk w g cs t) : g < w.heap.size := by
  rcases Nat.lt_or_ge g w.heap.size with hlt | hge
  · exact hlt
  · unfold Bk at h; rw [Array.getElem?_eq_none hge] at h; cases h
theorem Bk.cell (h : Bk w g cs t) (i : Nat) : w.cell? ⟨g, i, none⟩ = cs[i]? := by
  unfold Bk at h
  simp [World.cell?, h]
theorem Bk.frozen (h : Bk w g cs t) (i : Nat) : w.frozen? ⟨g, i, none⟩ = false := by
  unfold Bk at h
  simp [World.frozen?, h]
theorem Bk.below {B : Nat} (h : Bk w g cs t) (hb : Below B w w') (hg : g < B) : Bk w' g cs t := (hb.block g hg).trans h
theorem Bk.ext (h : Bk w g cs t) (hb : Ext w w') : Bk w' g cs t := h.below hb h.lt
theorem Bk.new (w : World) (cs : Array Value) (t : TypeId) : Bk (w.alloc (.cells cs t)) w.heap.size cs t := by
  show (w.heap.push _)[w.heap.size]? = _
  simp
theorem Bk.alloc (h : Bk w g cs t) (o : Obj) : Bk (w.alloc o) g cs t := h.ext ((Ext.refl w).alloc o)
theorem Bk.set (h : Bk w g cs t) (i : Nat) (u : Value) : Bk (w.setCell ⟨g, i, none⟩ u) g (cs.setIfInBounds i u) t := by
  unfold Bk at h ⊢
  simp [World.setCell, Array.getElem?_modify, h]
theorem Bk.far (h : Bk w g cs t) {p : Addr} (hp : g ≠ p.block) (u : Value) : Bk (w.setCell p u) g cs t := (Below.heap_setCell w p u g hp).trans h
theorem Bk.grown {row : Option Nat} (h : Bk w g cs t) (hb : w.grownBy w' row) (hg : some g ≠ row) : Bk w' g cs t := (hb.block g h.lt hg).trans h
end
theorem cellExt {w w' : World} {p : Addr} {v : Value} (e : Ext w w') (h : w.cell? p = some v) : w'.cell? p = some v := (Below.cell e (cell_lt h)).trans h
theorem new_cell0 (w : World) (v : Value) (cs : List Value) (t : TypeId) : (w.alloc (.cells (v :: cs).toArray t)).cell? ⟨w.heap.size, 0, none⟩ = some v := by
  exact ((Bk.new w (v :: cs).toArray t).cell 0).trans (by simp)
theorem own_type {w : World} {B k : Nat} {e : TypeId} {s n : Nat} {v : Value} {xs : List Value} (h : w.ownsRow B e s v n xs) (hk : v.ownBlock = some k) : ∃ cur, Bk w k cur e := by
  rcases h.2 with ⟨rfl, _⟩ | ⟨g, cap, cur, rfl, _, hh, _⟩
  · simp [Value.ownBlock] at hk
  · simp [Value.ownBlock] at hk; subst hk; exact ⟨cur, hh⟩
theorem Bk.ne {w : World} {g g' : Nat} {t t' : TypeId} {cs cs' : Array Value} (h : Bk w g cs t) (h' : Bk w g' cs' t') (hne : t ≠ t') : g ≠ g' := by
  rintro rfl
  unfold Bk at h h'
  rw [h] at h'
  injection h' with h'
  injection h' with _ ht
  exact hne ht
theorem Bk.not_own {w : World} {B g : Nat} {t e : TypeId} {s n : Nat} {v : Value} {xs : List Value} {cs : Array Value} (h : Bk w g cs t) (ho : w.ownsRow B e s v n xs) (hne : t ≠ e) : some g ≠ v.ownBlock := fun he => by
  obtain ⟨cur, hc⟩ := own_type ho he.symm
  exact Bk.ne h hc hne rfl
theorem Ext.grownBy {w w' : World} (e : Ext w w') (row : Option Nat) : w.grownBy w' row := ⟨e.os, e.tape, e.output, e.size, fun k hk _ => e.block k hk⟩
theorem ownsRow_ext {w w' : World} {B : Nat} {e : TypeId} {s n : Nat} {v : Value} {xs : List Value} (h : w.ownsRow B e s v n xs) (x : Ext w w') : w'.ownsRow B e s v n xs := by
  refine h.kept (x.grownBy none) ?_
  cases v.ownBlock with
  | none => exact .inl rfl
  | some k => exact .inr (by simp)
/-- New boxes. -/
theorem box1 (w : World) (cs : Array Value) (t : TypeId) : ∃ W, w.alloc (.cells cs t) = W ∧ Ext w W ∧ Hid (W.heap.size = w.heap.size + 1) ∧ Bk W w.heap.size cs t :=
  ⟨_, rfl, (Ext.refl w).alloc _, (by show _ = _; simp), Bk.new _ _ _⟩
theorem box2 (w : World) (cs cs' : Array Value) (t t' : TypeId) : ∃ W, (w.alloc (.cells cs t)).alloc (.cells cs' t') = W ∧ Ext w W ∧ Hid (W.heap.size = w.heap.size + 2) ∧
    Bk W w.heap.size cs t ∧ Bk W (w.heap.size + 1) cs' t' :=
  ⟨_, rfl, ((Ext.refl w).alloc _).alloc _, (by show _ = _; simp), (Bk.new _ _ _).alloc _, by have := Bk.new (w.alloc (.cells cs t)) cs' t'; simpa using this⟩

theorem ret_int {k : IntKind} {a b : Int} (h : a = b) : Ending.returned (.int k a) = .returned (.int k b) := by rw [h]
theorem ret_bool {a b : Bool} (h : a = b) : Ending.returned (.bool a) = .returned (.bool b) := by rw [h]

end Go.Proofs.Ytdlalmbnkcadfaa
