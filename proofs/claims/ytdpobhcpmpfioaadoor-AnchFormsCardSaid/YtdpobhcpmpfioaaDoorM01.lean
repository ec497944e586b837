import Derived.WalkKit
import Derived.WalkLawsBesides
import Derived.WalkSpells
import Derived.Deep.MidRow
set_option linter.all false
set_option linter.unusedVariables false
set_option linter.unusedSimpArgs false
namespace Go.Proofs.YtdpobhcpmpfioaaDoor
open Go.RowKit

/-- the types of the two pools' own structs: blocks of these types are written behind a pointer -/
def okTag (T : TypeId) : Prop := T ≠ 53 ∧ T ≠ 999999
/-! ### rows that are read -/
/-- The slice value v holds n elements of k cells each (of element type T): these cells. -/
def Rd (w : World) (T k : Nat) (v : Value) (n : Nat) (cells : List Value) : Prop :=
  cells.length = n * k ∧ ∃ a c, v = .slice a n c ∧ n ≤ c ∧ c ≤ 9223372036854775807 ∧
    (n = 0 ∨ ∃ b off cs T' fr, a = some ⟨b, off, none⟩ ∧ w.heap[b]? = some (.cells cs T' fr) ∧ (T' = T ∨ okTag T') ∧ ∀ j u, cells[j]? = some u → cs[off + j]? = some u)

theorem Rd.nil (w : World) (T k : Nat) : Rd w T k (.slice none 0 0) 0 [] := ⟨by simp, none, 0, rfl, by omega, by omega, .inl rfl⟩

theorem Rd.form {w : World} {T k : Nat} {v : Value} {n : Nat} {cells : List Value} (h : Rd w T k v n cells) (hn : 0 < n) :
    ∃ b off c, v = .slice (some ⟨b, off, none⟩) n c ∧ n ≤ c ∧ c ≤ 9223372036854775807 ∧ b < w.heap.size ∧ ∀ j u, cells[j]? = some u → w.cell? ⟨b, off + j, none⟩ = some u := by
  obtain ⟨hl, a, c, rfl, h1, h2, h | ⟨b, off, cs, T', fr, rfl, hb, htag, hc⟩⟩ := h
  · omega
  · refine ⟨b, off, c, rfl, h1, h2, (Array.getElem?_eq_some_iff.1 hb).1, fun j u hu => ?_⟩
    rw [cell_of_row w b (off + j) cs T' fr hb]
    exact hc j u hu

theorem Rd.form' {w : World} {T k : Nat} {v : Value} {n : Nat} {cells : List Value} (h : Rd w T k v n cells) : ∃ a c, v = .slice a n c ∧ n ≤ c ∧ c ≤ 9223372036854775807 := by
  obtain ⟨hl, a, c, rfl, h1, h2, _⟩ := h
  exact ⟨a, c, rfl, h1, h2⟩

theorem Rd.news {w : World} {T k : Nat} {ad : Addr} {n c : Nat} {cells : List Value} (h : Rd w T k (.slice (some ad) n c) n cells) : ∀ j u, cells[j]? = some u → w.cell? (ad.add j) = some u := by
  intro j u hu
  obtain ⟨hl, a, c', he, h1, h2, h | ⟨b, off, cs, T', fr, rfl, hb, htag, hc⟩⟩ := h
  · subst h
    have : cells = [] := List.eq_nil_of_length_eq_zero (by simpa using hl)
    subst this
    simp at hu
  · obtain ⟨rfl, rfl⟩ : ad = ⟨b, off, none⟩ ∧ c = c' := by simpa using he
    have hadd : (⟨b, off, none⟩ : Addr).add j = ⟨b, off + j, none⟩ := by unfold Addr.add; split <;> simp_all
    rw [hadd, cell_of_row w b (off + j) cs T' fr hb]
    exact hc j u hu
theorem Rd.nil_of {w : World} {T k n m c : Nat} {cells : List Value} (h : Rd w T k (.slice none m c) n cells) : n = 0 ∧ m = 0 ∧ cells = [] := by
  obtain ⟨hl, a, c', he, h1, h2, h | ⟨b, off, cs, T', fr, rfl, hb, htag, hc⟩⟩ := h
  · subst h
    obtain ⟨rfl, rfl, rfl⟩ : a = none ∧ m = 0 ∧ c = c' := by simpa [eq_comm] using he
    exact ⟨rfl, rfl, List.eq_nil_of_length_eq_zero (by simpa using hl)⟩
  · simp at he

theorem Rd.below {w w' : World} {T k : Nat} {v : Value} {n : Nat} {cells : List Value} (h : Rd w T k v n cells) (hb : Below w.heap.size w w') : Rd w' T k v n cells := by
  obtain ⟨hl, a, c, rfl, h1, h2, h | ⟨b, off, cs, T', fr, rfl, hh, htag, hc⟩⟩ := h
  · exact ⟨hl, a, c, rfl, h1, h2, .inl h⟩
  · exact ⟨hl, _, c, rfl, h1, h2, .inr ⟨b, off, cs, T', fr, rfl, by rw [hb.block b (Array.getElem?_eq_some_iff.1 hh).1]; exact hh, htag, hc⟩⟩

theorem Rd.alloc {w : World} {T k : Nat} {v : Value} {n : Nat} {cells : List Value} (h : Rd w T k v n cells) (o : Obj) : Rd (w.alloc o) T k v n cells := h.below ((Below.refl _ _).alloc (Nat.le_refl _) o)
theorem Rd.own {w : World} {base e size n : Nat} {v : Value} {xs : List Value} (h : w.ownsRow base e size v n xs) : Rd w e size v n xs := by
  obtain ⟨hl, h | ⟨g, cap, cur, rfl, _, hg, h1, h2, h3, h4⟩⟩ := h
  · obtain ⟨rfl, rfl⟩ := h
    have : xs = [] := List.eq_nil_of_length_eq_zero (by simpa using hl)
    subst this
    exact Rd.nil w e size
  · refine ⟨hl, _, cap, rfl, h1, by simpa [maxLen] using h2, .inr ⟨g, 0, cur, e, (0, 0), rfl, hg, .inl rfl, fun j u hu => ?_⟩⟩
    rw [← h4, List.getElem?_take] at hu
    split at hu
    · simpa using hu
    · cases hu

/-- a piece of a block that is known: an array in a box, sliced -/
theorem Rd.of_block {w : World} {T k b off n : Nat} {cs : Array Value} {T' : TypeId} {fr : Nat × Nat} {cells : List Value} (hb : w.heap[b]? = some (.cells cs T' fr)) (ht : T' = T ∨ okTag T') (hl : cells.length = n * k) (hn : n ≤ 9223372036854775807)
    (hc : ∀ j u, cells[j]? = some u → cs[off + j]? = some u) : Rd w T k (.slice (some ⟨b, off, none⟩) n n) n cells :=
  ⟨hl, _, n, rfl, Nat.le_refl _, hn, .inr ⟨b, off, cs, T', fr, rfl, hb, ht, hc⟩⟩
theorem own_base {w : World} {base : Nat} {e : TypeId} {size n : Nat} {v : Value} {xs : List Value} (h : w.ownsRow base e size v n xs) (k : Nat) (hk : v.ownBlock = some k) : base ≤ k := (h.lt k hk).1

/-- A slice that may be appended to: the call's own row (or nil), or a full slice. -/
def Gs (w : World) (base T k : Nat) (v : Value) (n : Nat) (xs : List Value) : Prop :=
  w.ownsRow base T k v n xs ∨ (Rd w T k v n xs ∧ ∃ a, v = .slice a n n)
theorem Gs.own {w : World} {base T k n : Nat} {v : Value} {xs : List Value} (h : w.ownsRow base T k v n xs) : Gs w base T k v n xs := Or.inl h
theorem Gs.rd {w : World} {base T k n : Nat} {v : Value} {xs : List Value} (h : Gs w base T k v n xs) : Rd w T k v n xs := by
  rcases h with h | h
  · exact Rd.own h
  · exact h.1
theorem own_below {w w' : World} {base e size n : Nat} {v : Value} {xs : List Value} (h : w.ownsRow base e size v n xs) (hb : Below w.heap.size w w') : w'.ownsRow base e size v n xs :=
  h.kept (row := none) ⟨hb.os, hb.tape, hb.output, hb.size, fun k hk _ => hb.block k hk⟩ (by cases v.ownBlock <;> simp)
theorem Gs.below {w w' : World} {base T k n : Nat} {v : Value} {xs : List Value} (h : Gs w base T k v n xs) (hb : Below w.heap.size w w') : Gs w' base T k v n xs := by
  rcases h with h | h
  · exact .inl (own_below h hb)
  · exact .inr ⟨h.1.below hb, h.2⟩
theorem Gs.alloc {w : World} {base T k n : Nat} {v : Value} {xs : List Value} (h : Gs w base T k v n xs) (o : Obj) : Gs (w.alloc o) base T k v n xs := h.below ((Below.refl _ _).alloc (Nat.le_refl _) o)
theorem Gs.clip {w : World} {base T k n c : Nat} {a : Option Addr} {xs : List Value} (h : Rd w T k (.slice a n c) n xs) : Gs w base T k (.slice a n n) n xs := by
  refine .inr ⟨?_, a, rfl⟩
  obtain ⟨hl, a', c', he, h1, h2, h3⟩ := h
  obtain ⟨rfl, rfl⟩ : a = a' ∧ c = c' := by simpa using he
  exact ⟨hl, a, n, rfl, Nat.le_refl _, by omega, h3⟩
/-- what an append leaves: new blocks, and writes to the row that it appended to (the call's own) -/
def Grew (base : Nat) (v : Value) (w w' : World) : Prop := ∃ row, w.grownBy w' row ∧ ∀ k, row = some k → base ≤ k ∧ v.ownBlock = some k
theorem Grew.below {base : Nat} {v : Value} {w w' : World} (h : Grew base v w w') (hb : base ≤ w.heap.size) : Below base w w' := by
  obtain ⟨row, hg, hr⟩ := h
  exact (Below.refl base w).grown hg hb fun k hk => (hr k hk).1
theorem own_mono {w : World} {b b' e size n : Nat} {v : Value} {xs : List Value} (h : w.ownsRow b e size v n xs) (hb : b' ≤ b) : w.ownsRow b' e size v n xs := by
  obtain ⟨h1, h2⟩ := h
  refine ⟨h1, h2.imp id ?_⟩
  rintro ⟨g, cap, cur, e1, e2, r⟩
  exact ⟨g, cap, cur, e1, Nat.le_trans hb e2, r⟩
/-- another row of the call's own is kept by an append -/
theorem Grew.own {base : Nat} {v u : Value} {w w' : World} (h : Grew base v w w') {b e size n : Nat} {xs : List Value} (hu : w.ownsRow b e size u n xs) (hne : u.ownBlock = none ∨ u.ownBlock ≠ v.ownBlock) : w'.ownsRow b e size u n xs := by
  obtain ⟨row, hg, hr⟩ := h
  refine hu.kept hg ?_
  rcases hne with hne | hne
  · exact .inl hne
  · cases hk : u.ownBlock with
    | none => exact .inl rfl
    | some k =>
      refine .inr fun e => hne ?_
      rw [hk, (hr k e.symm).2]
/-- a block that is not the row's own is kept -/
theorem Grew.block {base : Nat} {v : Value} {w w' : World} (h : Grew base v w w') (k : Nat) (hk : k < w.heap.size) (hne : v.ownBlock ≠ some k) : w'.heap[k]? = w.heap[k]? := by
  obtain ⟨row, hg, hr⟩ := h
  exact hg.block k hk fun e => hne (hr k e.symm).2

/-! ### the data -/
abbrev ID := { l : List Int // l.length = 32 }
def idc (x : ID) : List Value := x.1.map (Value.int .u8)
@[simp] theorem idc_length (x : ID) : (idc x).length = 32 := by simp [idc, x.2]
def idv (x : ID) : Value := .agg (idc x).toArray
/-- an input without a script and without a witness (no other occurs in the statements) -/
structure TIn where
  prev : ID
  vout : Int
  seq : Int
  deriving DecidableEq
structure TOut where
  value : Int
  script : List Int
  deriving DecidableEq
structure Tx where
  version : Int
  ins : List TIn
  outs : List TOut
  lock : Int
  deriving DecidableEq
structure Pt where
  id : ID
  vout : Int
  deriving DecidableEq
def ptc (p : Pt) : List Value := idc p.id ++ [.int .u32 p.vout]
@[simp] theorem ptc_length (x : Pt) : (ptc x).length = 33 := by simp [ptc]

def byc (l : List Int) : List Value := l.map (Value.int .u8)
def RBy (w : World) (v : Value) (l : List Int) : Prop := Rd w 5 1 v l.length (byc l)
theorem RBy.rd {w : World} {v : Value} {l : List Int} (h : RBy w v l) : Rd w 5 1 v l.length (byc l) := h
theorem RBy.below {w w' : World} {v : Value} {l : List Int} (h : RBy w v l) (hb : Below w.heap.size w w') : RBy w' v l := Rd.below h hb

/-- elements of a slice, each by its own cells -/
inductive All2 {α β : Type} (R : α → β → Prop) : List α → List β → Prop
  | nil : All2 R [] []
  | cons {a b l m} : R a b → All2 R l m → All2 R (a :: l) (b :: m)
theorem All2.length {α β : Type} {R : α → β → Prop} {l : List α} {m : List β} (h : All2 R l m) : l.length = m.length := by
  induction h <;> simp_all
theorem All2.mono {α β : Type} {R S : α → β → Prop} {l : List α} {m : List β} (h : All2 R l m) (hr : ∀ a b, R a b → S a b) : All2 S l m := by
  induction h with
  | nil => exact .nil
  | cons h _ ih => exact .cons (hr _ _ h) ih
theorem All2.get {α β : Type} {R : α → β → Prop} {l : List α} {m : List β} (h : All2 R l m) (i : Nat) (b : β) (hb : m[i]? = some b) : ∃ a, l[i]? = some a ∧ R a b := by
  induction h generalizing i with
  | nil => simp at hb
  | cons h _ ih =>
    cases i with
    | zero => simp at hb; subst hb; exact ⟨_, rfl, h⟩
    | succ i => exact ih i (by simpa using hb)

/-- A slice of elements of k cells, each element read by R. -/
def RSl {α : Type} (w : World) (T k : Nat) (R : List Value → α → Prop) (v : Value) (l : List α) : Prop :=
  ∃ cs : List (List Value), Rd w T k v l.length cs.flatten ∧ (∀ c ∈ cs, c.length = k) ∧ All2 R cs l

def inc (x : TIn) : List Value := idc x.prev ++ [.int .u32 x.vout, .slice none 0 0, .int .u32 x.seq, .slice none 0 0]
@[simp] theorem inc_length (x : TIn) : (inc x).length = 36 := by simp [inc]
def RIns (w : World) (v : Value) (l : List TIn) : Prop := Rd w 28 36 v l.length (l.flatMap inc)
def ROutC (w : World) (c : List Value) (x : TOut) : Prop := ∃ s, c = [.int .u64 x.value, s] ∧ RBy w s x.script
def ROuts (w : World) (v : Value) (l : List TOut) : Prop := RSl w 34 2 (ROutC w) v l
def RTxC (w : World) (c : List Value) (t : Tx) : Prop := ∃ i o, c = [.int .u32 t.version, i, o, .int .u32 t.lock] ∧ RIns w i t.ins ∧ ROuts w o t.outs

theorem RSl.below {α : Type} {w w' : World} {T k : Nat} {R S : List Value → α → Prop} {v : Value} {l : List α} (h : RSl w T k R v l) (hb : Below w.heap.size w w') (hr : ∀ c x, R c x → S c x) : RSl w' T k S v l := by
  obtain ⟨cs, h1, h2, h3⟩ := h
  exact ⟨cs, h1.below hb, h2, h3.mono hr⟩
theorem RIns.below {w w' : World} {v l} (h : RIns w v l) (hb : Below w.heap.size w w') : RIns w' v l := Rd.below h hb
theorem ROutC.below {w w' : World} {v l} (hb : Below w.heap.size w w') (h : ROutC w v l) : ROutC w' v l := by
  obtain ⟨s, e, r1⟩ := h
  exact ⟨s, e, r1.below hb⟩
theorem ROuts.below {w w' : World} {v l} (h : ROuts w v l) (hb : Below w.heap.size w w') : ROuts w' v l := RSl.below h hb fun c x r => r.below hb
theorem RTxC.below {w w' : World} {v l} (h : RTxC w v l) (hb : Below w.heap.size w w') : RTxC w' v l := by
  obtain ⟨i, o, e, r1, r2⟩ := h
  exact ⟨i, o, e, r1.below hb, r2.below hb⟩

theorem flatten_get {cs : List (List Value)} {k : Nat} (h : ∀ c ∈ cs, c.length = k) : ∀ (i : Nat) (c : List Value), cs[i]? = some c → ∀ j u, c[j]? = some u → cs.flatten[i * k + j]? = some u := by
  induction cs with
  | nil => intro i c hi; simp at hi
  | cons d ds ih =>
    intro i c hi j u hu
    have hd : d.length = k := h d (by simp)
    cases i with
    | zero =>
      simp at hi; subst hi
      have : j < d.length := (List.getElem?_eq_some_iff.1 hu).1
      rw [List.flatten_cons, List.getElem?_append, if_pos (by omega)]
      simpa using hu
    | succ i =>
      simp only [List.getElem?_cons_succ] at hi
      have := ih (fun c hc => h c (by simp [hc])) i c hi j u hu
      rw [List.flatten_cons, List.getElem?_append, if_neg (by rw [hd, Nat.add_mul]; omega), hd]
      rw [show (i + 1) * k + j - k = i * k + j by rw [Nat.add_mul]; omega]
      exact this

theorem flatMap_get {α : Type} {enc : α → List Value} {k : Nat} (h : ∀ x, (enc x).length = k) (l : List α) (i : Nat) (x : α) (hx : l[i]? = some x) : ∀ j u, (enc x)[j]? = some u → (l.flatMap enc)[i * k + j]? = some u := by
  intro j u hu
  have := flatten_get (cs := l.map enc) (k := k) (by intro c hc; obtain ⟨y, _, rfl⟩ := List.mem_map.1 hc; exact h y) i (enc x) (by simp [hx]) j u hu
  rwa [← List.flatMap_def] at this

/-- a row of plain elements, element i -/
theorem Rd.at_ {α : Type} {enc : α → List Value} {w : World} {T k : Nat} {v : Value} {l : List α} (h : Rd w T k v l.length (l.flatMap enc)) (hk : ∀ x, (enc x).length = k) (hn : 0 < l.length) :
    ∃ b off c, v = .slice (some ⟨b, off, none⟩) l.length c ∧ l.length ≤ c ∧ c ≤ 9223372036854775807 ∧ b < w.heap.size ∧
      ∀ i x, l[i]? = some x → w.rangeAt b (off + i * k) (enc x) := by
  obtain ⟨b, off, c, rfl, hc1, hc2, hb, hcell⟩ := h.form hn
  refine ⟨b, off, c, rfl, hc1, hc2, hb, fun i x hx j u hu => ?_⟩
  rw [Nat.add_assoc]
  exact hcell _ u (flatMap_get hk l i x hx j u hu)

theorem range_below {w w' : World} {b o : Nat} {cs : List Value} (h : w.rangeAt b o cs) (hb : Below w.heap.size w w') : w'.rangeAt b o cs := fun j u hu => by
  have := h j u hu
  rw [hb.cell (World.block_lt_of_cell? w _ this)]; exact this

theorem range_belowB {w w' : World} {B b o : Nat} {cs : List Value} (h : w.rangeAt b o cs) (hb : Below B w w') (hB : b < B) : w'.rangeAt b o cs := fun j u hu => by
  rw [hb.cell hB]; exact h j u hu

theorem RSl.at_ {α : Type} {w : World} {T k : Nat} {R : List Value → α → Prop} {v : Value} {l : List α} (h : RSl w T k R v l) (hn : 0 < l.length) :
    ∃ b off c, v = .slice (some ⟨b, off, none⟩) l.length c ∧ l.length ≤ c ∧ c ≤ 9223372036854775807 ∧ b < w.heap.size ∧
      ∀ i x, l[i]? = some x → ∃ e : List Value, e.length = k ∧ R e x ∧ ∀ j u, e[j]? = some u → w.cell? ⟨b, off + i * k + j, none⟩ = some u := by
  obtain ⟨cs, h1, h2, h3⟩ := h
  obtain ⟨b, off, c, rfl, hc1, hc2, hb, hcell⟩ := h1.form hn
  refine ⟨b, off, c, rfl, hc1, hc2, hb, fun i x hx => ?_⟩
  obtain ⟨e, he, hr⟩ := h3.get i x hx
  refine ⟨e, h2 e (List.mem_of_getElem? he), hr, fun j u hu => ?_⟩
  rw [Nat.add_assoc]
  exact hcell _ u (flatten_get h2 i e he j u hu)

theorem RSl.form {α : Type} {w : World} {T k : Nat} {R : List Value → α → Prop} {v : Value} {l : List α} (h : RSl w T k R v l) :
    ∃ a c, v = .slice a l.length c ∧ l.length ≤ c ∧ c ≤ 9223372036854775807 := by
  obtain ⟨cs, h1, h2, h3⟩ := h
  exact h1.form'

end Go.Proofs.YtdpobhcpmpfioaaDoor
